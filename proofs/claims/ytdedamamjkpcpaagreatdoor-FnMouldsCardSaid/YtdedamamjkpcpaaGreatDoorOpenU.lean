/- From the reading of an argument as data to what the walks are told of it: bytes. -/
import Derived.Test.YtdedamamjkpcpaaGreatDoorOpen
import Derived.Test.YtdedamamjkpcpaaGreatDoorGaSrc
namespace Go.Proofs.YtdedamamjkpcpaaGreatDoor
open Go.RowKit Go.ChangeShapes Go.WideShapes Go.ChangeAt
set_option linter.unusedSimpArgs false
set_option linter.unusedVariables false
set_option linter.unnecessarySimpa false

variable {H : Type} {enc : TypeId × Value → H} {P : Program} {w : World} {base fuel : Nat} {spare : Nat → Bool} {held : Bool}

/-- The slice of n bytes at ao reads, in w, as bs. -/
def U8x (w : World) (ao : Option Addr) (n : Nat) (bs : List UInt8) : Prop :=
  bs.length = n ∧ n ≤ 9223372036854775807 ∧ ∀ i, i < n → ∃ b off, ao = some ⟨b, off, none⟩ ∧ w.cell? ⟨b, off + i, none⟩ = some (.int .u8 ((bs.getD i 0).toNat : Int))
theorem U8x.small {w : World} {ao : Option Addr} {n : Nat} {bs : List UInt8} (h : U8x w ao n bs) (hn : n ≤ 1000000000) : U8s w ao n bs := ⟨h.1, hn, h.2.2⟩
theorem u8_of_wf {a : Int} (h : (Lit.int .u8 a).wf = true) : 0 ≤ a ∧ a ≤ 255 := by
  simp [Lit.wf, IntKind.min, IntKind.max, IntKind.signed, IntKind.bits] at h
  omega
theorem u8x_of_trod {T E : TypeId} {a : Option Addr} {n c : Nat} {d : DataW H} {p : List MemPlace} (ht : P.underlying T = some (.slice E)) (he : P.underlying E = some (.int .u8)) (hc : P.cellsOf E = 1)
    (h : DataW.Trod enc P w base spare held T (.slice a n c) d p) : ∃ bs, U8x w a n bs := by
  obtain ⟨m, hm⟩ := h
  have hm' : DataW.trod enc P w base spare held m T [.slice a n c] = some (d, p) := by simpa [Value.cells] using hm
  rcases open_ints ht he hc hm' with ⟨hcs, _⟩ | ⟨a', n', c', zs, hcs, _, hl, hm2, hz, _, hcell, hwz⟩
  · simp only [List.cons.injEq, and_true, Value.slice.injEq] at hcs
    obtain ⟨rfl, rfl, rfl⟩ := hcs
    exact ⟨[], rfl, by omega, fun i hi => by omega⟩
  · simp only [List.cons.injEq, and_true, Value.slice.injEq] at hcs
    obtain ⟨rfl, rfl, rfl⟩ := hcs
    have hmm : c ≤ 9223372036854775807 := by have := hm2; unfold maxLen at this; omega
    have hnz : n ≤ zs.length := by rw [hz]; split <;> omega
    refine ⟨(zs.take n).map (fun z => UInt8.ofNat z.toNat), by simp; omega, by omega, fun i hi => ?_⟩
    have hi' := hcell i (by omega)
    obtain ⟨b, off, spot⟩ := a'
    have hsp : spot = none := by simpa [Addr.add] using World.cell?_spot (hcell 0 (by omega))
    subst hsp
    refine ⟨b, off, rfl, ?_⟩
    rw [Addr.add_lit] at hi'
    rw [hi']
    have hiz : i < zs.length := by omega
    have hwf := u8_of_wf (hwz zs[i] (List.getElem_mem hiz))
    simp only [List.getD_eq_getElem?_getD, List.getElem?_map, List.getElem?_take, hi, if_true, List.getElem?_eq_getElem hiz, Option.map_some, Option.getD_some]
    congr 2
    rw [UInt8.toNat_ofNat']
    omega
end Go.Proofs.YtdedamamjkpcpaaGreatDoor
