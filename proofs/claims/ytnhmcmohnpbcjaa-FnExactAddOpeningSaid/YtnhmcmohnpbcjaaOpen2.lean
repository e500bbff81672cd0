/- From the reading of an argument as data to what the walks are told of it: openings and fronts. -/
import Derived.Test.YtnhmcmohnpbcjaaOpen
import Derived.Test.YtnhmcmohnpbcjaaFront0
import Derived.Deep.Fields
import Derived.ChangeSame
namespace Go.Proofs.Ytnhmcmohnpbcjaa
open Go.RowKit Go.ChangeShapes Go.WideShapes Go.ChangeAt Go.Deep
set_option linter.unusedSimpArgs false
set_option linter.unusedVariables false
set_option linter.unnecessarySimpa false

variable {H : Type} {enc : TypeId × Value → H} {P : Program} {w : World} {base fuel : Nat} {spare : Nat → Bool} {held : Bool}

/-- one cell that reads as a slice of openings -/
theorem opens_of_field {T E : TypeId} {f0 f1 f2 f3 : Field} {v : Value} (ht : P.underlying T = some (.slice E)) (he : P.underlying E = some (.struct #[f0, f1, f2, f3])) (hone : oneCellFields P #[f0, f1, f2, f3] = true) (hC : P.cellsOf E = 4)
    (k0 : P.underlying f0.type = some (.int .i64)) (k1 : P.underlying f1.type = some (.int .i64)) (k2 : P.underlying f2.type = some (.int .i64)) (k3 : P.underlying f3.type = some (.int .i64))
    (h : ∃ m x, DataW.trod enc P w base spare held m T [v] = some x) : ∃ a n c os, v = .slice a n c ∧ Opens w a n os := by
  obtain ⟨fu, x, h⟩ := h
  rcases open_slice ht h with ⟨hcs, _⟩ | ⟨a, len, cap, m, n, D, Pl, hcs, hb, hl, hm, hmm, hx, hi⟩
  · simp only [List.cons.injEq, and_true] at hcs
    exact ⟨none, 0, 0, [], hcs, rfl, by omega, fun i hi => by omega, by simp⟩
  · simp only [List.cons.injEq, and_true] at hcs
    have hm' : cap ≤ 9223372036854775807 := by have := hm; unfold maxLen at this; omega
    have hlm : len ≤ m := by rw [hmm]; split <;> omega
    have hall : ∀ i, ∃ o : Opn, i < len → o.ok ∧ w.cell? (a.add (i * 4)) = some (.int .i64 o.fr) ∧ w.cell? (a.add (i * 4 + 1)) = some (.int .i64 o.en) ∧ w.cell? (a.add (i * 4 + 2)) = some (.int .i64 o.lo) ∧ w.cell? (a.add (i * 4 + 3)) = some (.int .i64 o.hi) := by
      intro i
      by_cases hil : i < len
      · obtain ⟨cs', hc, ht'⟩ := hi i (by omega)
        rw [hC] at hc
        obtain ⟨ys, n', hn', hy, hlen, hyl, hf⟩ := DataW.trod_struct he ht'
        obtain ⟨_, hcl, hat⟩ := World.cells?_some hc
        have hone' : ∀ j (hj : j < 4), (cs'.drop j).take 1 = [cs'[j]'(by omega)] := by
          intro j hj
          rw [List.drop_eq_getElem_cons (by omega)]
          rfl
        have get : ∀ j (f : Field) (hj : j < 4), #[f0, f1, f2, f3][j]? = some f → P.underlying f.type = some (.int .i64) → ∃ z : Int, IsI64 z ∧ w.cell? (a.add (i * 4 + j)) = some (.int .i64 z) := by
          intro j f hj hjf hu
          obtain ⟨ho, hk⟩ := hone_of hone j f hjf
          have h1 := hf j f hjf
          rw [ho, hk, hone' j hj] at h1
          have hys : ys[j]? = some (ys[j]'(by rw [hyl]; exact hj)) := List.getElem?_eq_getElem (by rw [hyl]; exact hj)
          obtain ⟨z, hz, _, hw⟩ := DataW.trod_int hu (h1.trans hys)
          simp only [List.cons.injEq, and_true] at hz
          refine ⟨z, i64_of_wf hw, ?_⟩
          have hcell := hat j hj
          rw [List.getElem?_eq_getElem (by omega), hz] at hcell
          rw [← add_add, hcell]
        obtain ⟨z0, q0, c0⟩ := get 0 f0 (by omega) rfl k0
        obtain ⟨z1, q1, c1⟩ := get 1 f1 (by omega) rfl k1
        obtain ⟨z2, q2, c2⟩ := get 2 f2 (by omega) rfl k2
        obtain ⟨z3, q3, c3⟩ := get 3 f3 (by omega) rfl k3
        exact ⟨⟨z0, z1, z2, z3⟩, fun _ => ⟨⟨q0, q1, q2, q3⟩, c0, c1, c2, c3⟩⟩
      · exact ⟨default, fun h => absurd h hil⟩
    obtain ⟨f, hf⟩ := Classical.axiomOfChoice hall
    refine ⟨some a, len, cap, (List.range len).map f, hcs, by simp, by omega, fun i hil => ?_, ?_⟩
    · obtain ⟨_, c0, c1, c2, c3⟩ := hf i hil
      have hg : ((List.range len).map f).getD i default = f i := by
        rw [List.getD_eq_getElem?_getD, List.getElem?_eq_getElem (by simpa using hil)]
        simp
      rw [hg]
      obtain ⟨b, off, spot⟩ := a
      have hsp : spot = none := by simpa [Addr.add] using World.cell?_spot (hf 0 (by omega)).2.1
      subst hsp
      refine ⟨b, off, rfl, ?_⟩
      rw [Addr.add_lit] at c0 c1 c2 c3
      exact ⟨c0, by rw [← c1, Nat.add_assoc], by rw [← c2, Nat.add_assoc], by rw [← c3, Nat.add_assoc]⟩
    · intro o ho
      obtain ⟨i, hi, rfl⟩ := List.mem_map.1 ho
      exact (hf i (List.mem_range.1 hi)).1

end Go.Proofs.Ytnhmcmohnpbcjaa
