/- From the reading of an argument as data to what the walks are told of it. Nothing here speaks of the program. -/
import Derived.Test.YtdedamamjkpcpaaGreatDoorMem
import Derived.ProofKit
import Derived.OpenShut
import Derived.ShutString
import Derived.Lib.SmallJoins
import Derived.Deep.Slices
namespace Go.Proofs.YtdedamamjkpcpaaGreatDoor
open Go.RowKit Go.ChangeShapes Go.WideShapes Go.ChangeAt
set_option linter.unusedSimpArgs false
set_option linter.unusedVariables false
set_option linter.unnecessarySimpa false

variable {H : Type} {enc : TypeId × Value → H} {P : Program} {w : World} {base fuel : Nat} {spare : Nat → Bool} {held : Bool}

/-- one cell that reads as a slice of int64 -/
theorem ints_of_cell {T E : TypeId} {v : Value} {x : DataW H × List MemPlace} (ht : P.underlying T = some (.slice E)) (he : P.underlying E = some (.int .i64)) (hc : P.cellsOf E = 1)
    (h : DataW.trod enc P w base spare held fuel T [v] = some x) : ∃ a n c zs, v = .slice a n c ∧ Ints w a n zs := by
  rcases open_ints ht he hc h with ⟨hcs, _⟩ | ⟨a, n, c, zs, hcs, _, hl, hm, hz, _, hcell, hwz⟩
  · simp only [List.cons.injEq, and_true] at hcs
    exact ⟨none, 0, 0, [], hcs, rfl, by omega, fun i hi => by omega, by simp⟩
  · simp only [List.cons.injEq, and_true] at hcs
    have hm' : c ≤ 9223372036854775807 := by have := hm; unfold maxLen at this; omega
    have hnz : n ≤ zs.length := by rw [hz]; split <;> omega
    refine ⟨some a, n, c, zs.take n, hcs, by simp; omega, by omega, fun i hi => ?_, fun y hy => i64_of_wf (hwz y (List.mem_of_mem_take hy))⟩
    have hi' := hcell i (by omega)
    obtain ⟨b, off, spot⟩ := a
    have hsp : spot = none := by simpa [Addr.add] using World.cell?_spot (hcell 0 (by omega))
    subst hsp
    refine ⟨b, off, rfl, ?_⟩
    rw [Addr.add_lit] at hi'
    rw [hi']
    simp [List.getD_eq_getElem?_getD, List.getElem?_take, hi]
theorem ints_of_trod {T E : TypeId} {a : Option Addr} {n c : Nat} {d : DataW H} {p : List MemPlace} (ht : P.underlying T = some (.slice E)) (he : P.underlying E = some (.int .i64)) (hc : P.cellsOf E = 1)
    (h : DataW.Trod enc P w base spare held T (.slice a n c) d p) : ∃ zs, Ints w a n zs := by
  obtain ⟨m, hm⟩ := h
  obtain ⟨a', n', c', zs, hv, hi⟩ := ints_of_cell (v := .slice a n c) ht he hc (by simpa [Value.cells] using hm)
  simp only [Value.slice.injEq] at hv
  obtain ⟨rfl, rfl, rfl⟩ := hv
  exact ⟨zs, hi⟩
theorem ints_of_field {T E : TypeId} {v : Value} (ht : P.underlying T = some (.slice E)) (he : P.underlying E = some (.int .i64)) (hc : P.cellsOf E = 1)
    (h : ∃ m x, DataW.trod enc P w base spare held m T [v] = some x) : ∃ a n c zs, v = .slice a n c ∧ Ints w a n zs := by
  obtain ⟨m, x, hm⟩ := h
  exact ints_of_cell ht he hc hm
theorem str_of_field {T : TypeId} {v : Value} (ht : P.underlying T = some .string) (h : ∃ m x, DataW.trod enc P w base spare held m T [v] = some x) : ∃ s : ByteArray, v = .string s ∧ s.size ≤ maxLen := by
  obtain ⟨m, x, hm⟩ := h
  obtain ⟨s, hs, _, hl⟩ := DataW.trod_string ht hm
  simp only [List.cons.injEq, and_true] at hs
  exact ⟨s, hs, hl⟩
theorem int_of_field {T : TypeId} {v : Value} (ht : P.underlying T = some (.int .i64)) (h : ∃ m x, DataW.trod enc P w base spare held m T [v] = some x) : ∃ a : Int, v = .int .i64 a ∧ IsI64 a := by
  obtain ⟨m, x, hm⟩ := h
  obtain ⟨a, hs, _, hl⟩ := DataW.trod_int ht hm
  simp only [List.cons.injEq, and_true] at hs
  exact ⟨a, hs, i64_of_wf hl⟩

end Go.Proofs.YtdedamamjkpcpaaGreatDoor
