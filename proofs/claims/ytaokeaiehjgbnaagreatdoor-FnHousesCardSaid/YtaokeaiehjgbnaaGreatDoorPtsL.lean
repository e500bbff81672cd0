/- Rows of places: a row cut at its end, marks written into it and looked for, a comparison. -/
import Derived.Test.YtaokeaiehjgbnaaGreatDoorPts
import Derived.Test.YtaokeaiehjgbnaaGreatDoorCls
import Derived.Deep.DeepCutAuto
namespace Go.Proofs.YtaokeaiehjgbnaaGreatDoor
open Go.RowKit
set_option linter.unusedSimpArgs false
set_option linter.unusedVariables false
set_option linter.unnecessarySimpa false

/-- the first k places of a row -/
theorem OwnPts.cut {w : World} {base n c k : Nat} {ao : Option Addr} {ps : List (Int × Int)} (h : OwnPts w base (.slice ao n c) ps) (hk : k ≤ n) (hn : 0 < n) : OwnPts w base (.slice ao k c) (ps.take k) := by
  have hl := h.len
  obtain ⟨gs, h1, h2, h3, h4⟩ := h
  refine ⟨gs.take k, by rw [List.length_take, List.length_take]; omega, ⟨by simp; omega, ?_⟩, fun i hi => ?_, h4.sublist (List.take_sublist _ _)⟩
  · rcases h2.2 with ⟨hv, h0⟩ | ⟨g, cap, cur, hv, hg, hh, hc, hm, hcur, htake⟩
    · simp only [Value.slice.injEq] at hv; omega
    · simp only [Value.slice.injEq] at hv
      obtain ⟨rfl, h5, rfl⟩ := hv
      refine .inr ⟨g, c, cur, by rw [List.length_take]; congr 1; omega, hg, hh, by rw [List.length_take]; omega, hm, hcur, ?_⟩
      rw [List.map_take, ← htake, List.take_take]
      congr 1
      rw [List.length_take]
      omega
  · rw [List.length_take] at hi
    have h5 := h3 i (by omega)
    rw [List.getD_eq_getElem?_getD, List.getD_eq_getElem?_getD] at h5
    rw [List.getD_eq_getElem?_getD, List.getD_eq_getElem?_getD, List.getElem?_take_of_lt (by omega), List.getElem?_take_of_lt (by omega)]
    exact h5
theorem OwnPts.nilv (w : World) (base : Nat) : OwnPts w base (.slice none 0 0) [] := ⟨[], rfl, World.ownsRow_nil _ _ _ _, fun i hi => absurd hi (Nat.not_lt_zero _), by simp⟩
theorem OwnPts.apart {w w' : World} {base : Nat} {v : Value} {ps : List (Int × Int)} {row : Option Nat} (h : OwnPts w base v ps) (hg : w.grownBy w' row) (hne : ∀ k, row = some k → k < base) : OwnPts w' base v ps := by
  obtain ⟨gs, h1, h2, h3, h4⟩ := h
  refine ⟨gs, h1, h2.kept hg ?_, fun i hi => ⟨(h3 i hi).1, ?_⟩, h4⟩
  · cases hr : row with
    | none => cases hv : v.ownBlock <;> simp
    | some k =>
      right
      intro e
      have h5 := h2.lt k e
      have := hne k hr
      omega
  · rw [hg.block _ (lt_of_block (h3 i hi).2) (fun e => by have := hne _ e.symm; have := (h3 i hi).1; omega)]
    exact (h3 i hi).2
theorem OwnPts.blk {w : World} {base n c : Nat} {ao : Option Addr} {ps : List (Int × Int)} (h : OwnPts w base (.slice ao n c) ps) : ∀ k, (Value.slice ao n c).ownBlock = some k → base ≤ k ∧ k < w.heap.size := let ⟨_, _, h2, _⟩ := h; h2.lt
/-- one place of a row, for writing -/
theorem OwnPts.inner {w : World} {base n c : Nat} {ao : Option Addr} {ps : List (Int × Int)} (h : OwnPts w base (.slice ao n c) ps) {j : Nat} (hj : j < n) (hi : IsI64 (ps.getD j (0, 0)).1 ∧ IsI64 (ps.getD j (0, 0)).2) :
    ∃ rg g, ao = some ⟨rg, 0, none⟩ ∧ w.cell? ⟨rg, j, none⟩ = some (slV g) ∧ base ≤ g ∧ OwnInts 2 w base (slV g) [(ps.getD j (0, 0)).1, (ps.getD j (0, 0)).2] ∧
      ∀ w' x y, w.grownBy w' (some g) → OwnInts 2 w' base (slV g) [x, y] → OwnPts w' base (.slice ao n c) (ps.set j (x, y)) := by
  have hl := h.len
  obtain ⟨rg, gi, hao, hc1, _, _⟩ := h.pts.2 j hj
  obtain ⟨gs, h1, h2, h3, h4⟩ := h
  have hjs : j < gs.length := by omega
  have hgg : gi = gs.getD j 0 := by
    subst hao
    subst hl
    rw [h2.cellAt j (by omega), List.getElem?_map, List.getElem?_eq_getElem hjs] at hc1
    simp only [Option.map_some, Option.some.injEq, slV, Value.slice.injEq, Addr.mk.injEq, and_true] at hc1
    rw [List.getD_eq_getElem?_getD, List.getElem?_eq_getElem hjs]
    exact hc1.symm
  have hb := h3 j (by omega)
  rw [← hgg] at hb
  refine ⟨rg, gi, hao, hc1, hb.1, ⟨⟨rfl, .inr ⟨gi, 2, _, rfl, hb.1, hb.2, Nat.le_refl _, by unfold maxLen; omega, rfl, rfl⟩⟩, fun x hx => ?_⟩, fun w' x y hg ho => ?_⟩
  · simp only [List.mem_cons, List.not_mem_nil, or_false] at hx
    rcases hx with rfl | rfl
    · exact hi.1
    · exact hi.2
  · refine ⟨gs, by rw [List.length_set]; exact h1, ?_, fun i hi' => ?_, h4⟩
    · rw [List.length_set]
      refine h2.kept hg (.inr ?_)
      exact fun e => row_ne h2 hb.2 ii_ne e.symm
    · rw [List.length_set] at hi'
      by_cases hij : i = j
      · subst hij
        rw [← hgg, List.getD_eq_getElem?_getD, List.getElem?_set_self (by omega), Option.getD_some]
        refine ⟨hb.1, ?_⟩
        rcases ho.1.2 with ⟨hv, _⟩ | ⟨g', cap, cur, hv, _, hh, _, _, hcs, htk⟩
        · simp [slV] at hv
        · simp only [slV, Value.slice.injEq, Option.some.injEq, Addr.mk.injEq, and_true] at hv
          obtain ⟨rfl, _, rfl⟩ := hv
          rw [hh]
          have hcur : cur = #[.int .i64 x, .int .i64 y] := by
            apply Array.ext'
            rw [List.take_of_length_le (by simp [hcs])] at htk
            exact htk
          rw [hcur]
      · have h5 := h3 i hi'
        have hne : gs.getD i 0 ≠ gi := by
          rw [hgg, List.getD_eq_getElem?_getD, List.getD_eq_getElem?_getD, List.getElem?_eq_getElem (by omega), List.getElem?_eq_getElem hjs, Option.getD_some, Option.getD_some]
          intro e
          exact hij ((List.getElem_inj h4).1 e)
        rw [List.getD_eq_getElem?_getD (l := ps.set j (x, y)), List.getElem?_set_ne (Ne.symm hij), ← List.getD_eq_getElem?_getD]
        refine ⟨h5.1, ?_⟩
        rw [hg.block _ (lt_of_block h5.2) (fun e => hne (Option.some.inj e))]
        exact h5.2

def mkQ (k : Int) (n : Nat) : List (Int × Int) := (List.range n).map fun (i : Nat) => (k + 2 * (i : Int), k + 2 * (i : Int) + 1)
theorem mkQ_len (k : Int) (n : Nat) : (mkQ k n).length = n := by simp [mkQ]
theorem mkQ_at (k : Int) (n i : Nat) (h : i < n) : (mkQ k n).getD i (0, 0) = (k + 2 * i, k + 2 * i + 1) := by
  rw [List.getD_eq_getElem?_getD, mkQ, List.getElem?_map, List.getElem?_range h]; rfl
theorem mkQ_succ (k : Int) (n : Nat) : mkQ k (n + 1) = mkQ k n ++ [(k + 2 * n, k + 2 * n + 1)] := by simp [mkQ, List.range_succ]
theorem mkQ_set (k : Int) (ps : List (Int × Int)) (j : Nat) (hj : j < ps.length) : (mkQ k j ++ ps.drop j).set j (k + 2 * j, k + 2 * j + 1) = mkQ k (j + 1) ++ ps.drop (j + 1) := by
  rw [List.set_append_right _ _ (by rw [mkQ_len]; omega), mkQ_len, Nat.sub_self, List.drop_eq_getElem_cons hj, List.set_cons_zero, mkQ_succ, List.append_assoc]
  rfl
theorem mkQ_rest (k : Int) (ps : List (Int × Int)) (j : Nat) (hj : j < ps.length) : (mkQ k j ++ ps.drop j).getD j (0, 0) = ps.getD j (0, 0) := by
  rw [List.getD_eq_getElem?_getD, List.getElem?_append_right (by rw [mkQ_len]; omega), mkQ_len, Nat.sub_self, List.getElem?_drop, Nat.add_zero, ← List.getD_eq_getElem?_getD]
def Wide (ps : List (Int × Int)) : Prop := ∀ p ∈ ps, IsI64 p.1 ∧ IsI64 p.2
theorem Wide.at {ps : List (Int × Int)} (h : Wide ps) {j : Nat} (hj : j < ps.length) : IsI64 (ps.getD j (0, 0)).1 ∧ IsI64 (ps.getD j (0, 0)).2 := by
  rw [List.getD_eq_getElem?_getD, List.getElem?_eq_getElem hj, Option.getD_some]
  exact h _ (List.getElem_mem _)
theorem PtsAt.ints {w : World} {ao : Option Addr} {n j : Nat} {ps : List (Int × Int)} (h : PtsAt w ao n ps) (hj : j < n) (hi : IsI64 (ps.getD j (0, 0)).1 ∧ IsI64 (ps.getD j (0, 0)).2) :
    ∃ rg g, ao = some ⟨rg, 0, none⟩ ∧ w.cell? ⟨rg, j, none⟩ = some (.slice (some ⟨g, 0, none⟩) 2 2) ∧ Ints w (some ⟨g, 0, none⟩) 2 [(ps.getD j (0, 0)).1, (ps.getD j (0, 0)).2] := by
  obtain ⟨rg, g, h1, h2, h3, h4⟩ := h.2 j hj
  refine ⟨rg, g, h1, h2, rfl, by omega, fun i hi2 => ⟨g, 0, rfl, ?_⟩, fun x hx => ?_⟩
  · have h5 : i = 0 ∨ i = 1 := by omega
    rcases h5 with rfl | rfl
    · exact h3
    · exact h4
  · simp only [List.mem_cons, List.not_mem_nil, or_false] at hx
    rcases hx with rfl | rfl
    · exact hi.1
    · exact hi.2
end Go.Proofs.YtaokeaiehjgbnaaGreatDoor
