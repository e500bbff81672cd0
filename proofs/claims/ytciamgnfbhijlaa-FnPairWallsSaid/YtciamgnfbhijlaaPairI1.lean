/- The program's search for the best pair of courses: what is known is found again. -/
import Derived.Test.YtciamgnfbhijlaaPairI
import Derived.Test.YtciamgnfbhijlaaPairS1
namespace Go.Proofs.Ytciamgnfbhijlaa
open Go.RowKit
set_option linter.unusedSimpArgs false
set_option linter.unusedVariables false
set_option linter.unnecessarySimpa false

/-- what the search answers -/
def RetFr (L lap at_ lo hi : Int) (g bm bk bb : Nat) (dn : Nat → Bool) (w : World) (e : Ending) (w' : World) : Prop :=
  ∃ o dn', IsBest (SetI L lap at_ lo hi) o ∧ e = .returned (.tuple #[pbV o, .bool o.isSome]) ∧ PI L lap g bm bk bb dn' w' ∧ ChgS (TM bm bk bb) w w' ∧ (∀ a b c : Int, 0 ≤ a → a < at_ → 0 ≤ b → b ≤ 80 → 0 ≤ c → c ≤ 80 → dn' (codeN a b c) = dn (codeN a b c))
theorem RetFr.same {L lap at_ lo hi : Int} {g bm bk bb : Nat} {dn : Nat → Bool} {w w' : World} {o : Option PR} {v : Value} (ho : IsBest (SetI L lap at_ lo hi) o) (h : PI L lap g bm bk bb dn w) (e : Ext w w') (hv : v = .tuple #[pbV o, .bool o.isSome]) : RetFr L lap at_ lo hi g bm bk bb dn w (.returned v) w' :=
  ⟨o, dn, ho, by rw [hv], h.ext e, (ChgS.refl _ w).ext e, fun _ _ _ _ _ _ _ _ _ => rfl⟩
set_option maxRecDepth 100000 in
set_option maxHeartbeats 4000000 in
theorem i_from_end {L lap : Int} {g bm bk bb : Nat} (hL : 1 ≤ L) (hL2 : L ≤ 80) (dn : Nat → Bool) (w : World) (hP : PI L lap g bm bk bb dn w) :
    Calls Try.prog 51 #[.pointer (some ⟨g, 0, none⟩), .agg #[.int .i64 L, .int .i64 L, .int .i64 L]] w (RetFr L lap L L L g bm bk bb dn w) := by
  obtain ⟨c0, c1, c2, c3, c4, c5⟩ := five_cells hP.box
  have HP := Lib.hid hP
  have hgs := hP.lt
  obtain ⟨hg, hbm, hbk, hbb⟩ := hgs
  clear hP
  go_enter Try.func51, Try.ntmps51
  go_wp2
  (try go_quiet (fail))
  (try go_wp2)
  refine bodyPost_ret (v := .tuple #[.agg #[.int .i64 0, .int .i64 0, .string ⟨#[]⟩, .string ⟨#[]⟩], .bool true]) (by simp [results, Try.results51, go_sem]) rfl ?_
  refine RetFr.same (o := some ([], [])) (isBestI_end L lap) HP.out ?_ rfl
  repeat' (first | exact Ext.refl _ | refine Ext.drewN ?_ _ | refine Ext.drew ?_ | refine Ext.alloc ?_ _ | refine Ext.setCell ?_ (by simp) _)
abbrev kLook (W : World) (bk bb : Nat) (at_ lo hi : Int) (u v : Bool) : Prop := ∀ nq, (Instr.lookup 83 (.map (some bk)) (.agg #[.int .i64 at_, .int .i64 lo, .int .i64 hi]) false).run Try.prog (W.drewN nq) = .ok (.bool u) (W.drewN nq) ∧ (Instr.lookup 83 (.map (some bb)) (.agg #[.int .i64 at_, .int .i64 lo, .int .i64 hi]) false).run Try.prog (W.drewN nq) = .ok (.bool v) (W.drewN nq)
set_option maxRecDepth 100000 in
set_option maxHeartbeats 4000000 in
theorem i_from_known {L lap at_ lo hi : Int} {g bm bk bb : Nat} (hL : 1 ≤ L) (hL2 : L ≤ 80) (x0 : 0 ≤ at_) (x1 : at_ < L) (l0 : 0 ≤ lo) (l1 : lo ≤ 80) (y0 : 0 ≤ hi) (y1 : hi ≤ 80) (dn : Nat → Bool) (hd : dn (codeN at_ lo hi) = true) (w : World) (hP : PI L lap g bm bk bb dn w) :
    Calls Try.prog 51 #[.pointer (some ⟨g, 0, none⟩), .agg #[.int .i64 at_, .int .i64 lo, .int .i64 hi]] w (RetFr L lap at_ lo hi g bm bk bb dn w) := by
  have HP := Lib.hid hP
  obtain ⟨hg, hbm, hbk, hbb⟩ := hP.lt
  obtain ⟨c0, c1, c2, c3, c4, c5⟩ := five_cells hP.box
  rcases hP.look x0 (by omega) l0 l1 y0 y1 with ⟨h, _⟩ | ⟨_, o, ho, hlook⟩
  · rw [hd] at h; cases h
  have HO := Lib.hid ho
  have HLK := Lib.hid hlook
  have hne : (at_ == L) = false := by simp; omega
  clear hP hd hlook ho
  go_enter Try.func51, Try.ntmps51
  go_wp2
  (try go_quiet (fail))
  (try go_wp2)
  refine gen_world (fun W => Ext w W ∧ W.heap[w.heap.size]? = some (.cells #[.int .i64 at_, .int .i64 lo, .int .i64 hi] 88 (0, 0)) ∧ W.heap[w.heap.size + 1]? = some (.cells #[.int .i64 0, .int .i64 0, .string ⟨#[]⟩, .string ⟨#[]⟩] 54 (0, 0))) ⟨?_, ?_, ?_⟩ ?_
  · repeat' (first | exact Ext.refl _ | refine Ext.drewN ?_ _ | refine Ext.drew ?_ | refine Ext.alloc ?_ _)
  · exact blk_two1 w _ _
  · exact blk_two2 w _ _
  rintro W ⟨eW, hs, hr⟩
  replace c0 := eW.cell c0
  replace c1 := eW.cell c1
  replace c2 := eW.cell c2
  replace c3 := eW.cell c3
  replace c4 := eW.cell c4
  obtain ⟨s0, s1, s2, s8⟩ := three_cells hs
  obtain ⟨r0, r1, r2, r3, f0, f1, f2, f3, f8⟩ := four_cells hr
  have hk0 : ∀ nq, (Instr.lookup 83 (.map (some bk)) (.agg #[.int .i64 at_, .int .i64 lo, .int .i64 hi]) false).run Try.prog (W.drewN nq) = .ok (.bool o.isSome) (W.drewN nq) := fun nq => (HLK.out _ (eW.drewN nq)).1
  have hk1 : ∀ nq, (Instr.lookup 83 (.map (some bb)) (.agg #[.int .i64 at_, .int .i64 lo, .int .i64 hi]) false).run Try.prog (W.drewN nq) = .ok (.bool (!o.isSome)) (W.drewN nq) := fun nq => (HLK.out _ (eW.drewN nq)).2.1
  have hk2 : ∀ nq, (Instr.lookup 82 (.map (some bm)) (.agg #[.int .i64 at_, .int .i64 lo, .int .i64 hi]) false).run Try.prog (W.drewN nq) = .ok (pbV o) (W.drewN nq) := fun nq => (HLK.out _ (eW.drewN nq)).2.2
  obtain ⟨u, hu⟩ : ∃ u, o.isSome = u := ⟨_, rfl⟩
  rw [hu] at hk0 hk1
  have HU := Lib.hid hu
  clear hu
  have HW : Hid (∀ W', Ext W W' → W'.heap[w.heap.size]? = some (.cells #[.int .i64 at_, .int .i64 lo, .int .i64 hi] 88 (0, 0)) ∧ W'.heap[w.heap.size + 1]? = some (.cells #[.int .i64 0, .int .i64 0, .string ⟨#[]⟩, .string ⟨#[]⟩] 54 (0, 0))) := Lib.hid (fun W' e => ⟨e.block hs, e.block hr⟩)
  have EW := Lib.hid eW
  clear hs hr eW
  cases u
  all_goals
    go_quiet (fail)
    go_wp2
    refine gen_world (fun W2 => Ext W W2) ?_ ?_
    · repeat' (first | exact Ext.refl _ | refine Ext.drewN ?_ _ | refine Ext.drew ?_)
    clear c0 c1 c2 c3 c4 s0 s1 s2 s8 r0 r1 r2 r3 f0 f1 f2 f3 f8 hk0 hk1 hk2
    rintro W2 e2
    obtain ⟨hs, hr⟩ := HW.out _ e2
    have ew := EW.out.trans e2
    obtain ⟨c0, c1, c2, c3, c4, c5⟩ := five_cells (PI.box (PI.ext HP.out ew))
    obtain ⟨s0, s1, s2, s8⟩ := three_cells hs
    obtain ⟨r0, r1, r2, r3, f0, f1, f2, f3, f8⟩ := four_cells hr
    have hL1 := HLK.out _ ew.drew
    have hL2 := HLK.out _ (((((ew.setCell (p := ⟨w.heap.size + 1, 0, none⟩) (by simp) (.int .i64 (cutI0 o))).setCell (p := ⟨w.heap.size + 1, 1, none⟩) (by simp) (.int .i64 (numO o))).setCell (p := ⟨w.heap.size + 1, 2, none⟩) (by simp) (.string (lowO o))).setCell (p := ⟨w.heap.size + 1, 3, none⟩) (by simp) (.string (highO o))).drew)
    obtain ⟨k1, _, k3⟩ := hL1
    obtain ⟨k4, _, _⟩ := hL2
    rw [HU.out] at k1 k4
    unfold keyV at k1 k3 k4
    unfold pbV at k3
    have HRR := Lib.hid (resP_four (w1 := W2) r0 r1 r2 r3)
    have HEW := Lib.hid ew
    clear hs hr e2 ew
    go_region
    all_goals
      go_wp2
      have hr := HRR.out
      refine bodyPost_ret (v := .tuple #[.agg #[.int .i64 (cutI0 o), .int .i64 (numO o), .string (lowO o), .string (highO o)], .bool o.isSome]) (by simp [results, Try.results51, go_sem, hr, HU.out]) rfl ?_
      refine RetFr.same HO.out HP.out ?_ rfl
      repeat' (first | exact HEW.out | refine Ext.drewN ?_ _ | refine Ext.drew ?_ | refine Ext.setCell ?_ (by simp) _)
end Go.Proofs.Ytciamgnfbhijlaa
