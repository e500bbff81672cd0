/- For every list of levels and every height the law FnExactValidLevels answers true: the program's ValidLevels returns what the reference's returns, and leaves its argument as it was. No condition. -/
import Derived.Test.YtfbcbknddmkfkaaLevels
import Derived.Test.YtfbcbknddmkfkaaOpen
namespace Go.Proofs.Ytfbcbknddmkfkaa
open Go.RowKit
set_option linter.unusedSimpArgs false
set_option linter.unusedVariables false

set_option maxHeartbeats 400000 in
theorem walk_FnExactValidLevels (ao : Option Addr) (n c : Nat) (xs : List Int) (h : Int) (w : World) (hx : Ints w ao n xs) (hh : IsI64 h) :
    Calls Try.prog 4 #[.slice ao n c, .int .i64 h] w fun e w' => e = .returned (.bool true) ∧ Below w.heap.size w w' := by
  have hxm := hx.2.1
  by_cases hn : n ≤ 1048576
  · go_enter Try.func4, Try.ntmps4
    go_wp2_with (go_at_call 18; refine (l_toInt64S _ _ _ xs _ hx hn).mono ?_; rintro e w1 ⟨a1, c1, rfl, o1, e1⟩)
    refine (s_ValidLevels _ _ _ _ xs _ o1.ints).mono ?_
    rintro e w2 ⟨rfl, e2⟩
    have e02 := e1.trans e2
    go_wp2_with fail
    refine (l_toInt64S _ _ _ xs _ (hx.ext e02) hn).mono ?_
    rintro e w3 ⟨a3, c3, rfl, o3, e3⟩
    go_wp2_with fail
    refine (i_ValidLevels _ _ _ _ xs _ o3.ints).mono ?_
    rintro e w4 ⟨rfl, e4⟩
    have e04 := (e02.trans e3).trans e4
    go_wp2_with fail
    refine (l_toInt64S _ _ _ xs _ (hx.ext e04) hn).mono ?_
    rintro e w5 ⟨a5, c5, rfl, o5, e5⟩
    go_wp2_with fail
    refine (l_eqInt64S _ _ _ _ _ _ xs xs _ ((o3.ext e4).ext e5).ints o5.ints).mono ?_
    rintro e w6 ⟨rfl, e6⟩
    rw [beq_self_eq_true]
    go_wp2
    go_ret
    exact ⟨rfl, (e04.trans e5).trans e6⟩
  · go_enter Try.func4, Try.ntmps4
    go_wp2
    go_ret
    exact ⟨rfl, Ext.refl _⟩

/-! ### the row's step: written by a program of mine (frame.py) after the guide's own frame -/
namespace fnExactValidLevels
open Go.ChangeShapes Go.WideShapes Go.ChangeAt Go.RowKit Go.Joins
open Go.ChangeMaps (open_string shut_string)
set_option linter.unusedVariables false
theorem own : ownKnob Try.prog.godebug = none := by kernel_rfl
theorem laidOut : laidOutB Try.prog = true := by kernel_rfl
set_option maxRecDepth 100000 in
theorem lifted (os : Os) (started : os.Started) (H : Type) (enc : TypeId × Value → H) :
    ReturnsInHanded {} Try.checked os 4 .any (Rows.fnExactValidLevelsSpec.pre6 enc Try.prog Try.f4 Rows.fnExactValidLevelsRow.domain false) (Rows.fnExactValidLevelsSpec.post enc Try.prog Try.f4 false true false false) := by
  refine returnsInHanded_of_change (C := Try.checked) own started (by kernel_rfl) Try.func4
    (ChangeSpec.witness6 (enc := enc) (C := Try.checked) false ⟨#[], #[.slice none 0 0, .int .i64 0], []⟩ 8 (by kernel_rfl) (by kernel_rfl) (by kernel_rfl) (by kernel_rfl)) ?_
  intro W base args ds gs before hval0 hW hcnd _
  have hval : ∀ (j : Nat) t v, Try.f4.params[j]? = some t → args[j]? = some v → Value.okWide Try.prog W .any base t v := hval0
  have hW' := hW
  obtain ⟨p, q, hA0, hV, rfl, hfz, hnd⟩ := hW
  have hA : DataW.TrodAll enc Try.prog W 0 (fun _ => true) true Try.f4.params.toList args.toList ds p := hA0
  rw [Try.params4] at hA hval
  obtain ⟨v0, vs0, d0, ds0, p0, q0, hargs, rfl, rfl, h0, r0⟩ := trodAll_cons hA
  obtain ⟨v1, vs1, d1, ds1, p1, q1, rfl, rfl, rfl, h1, r1⟩ := trodAll_cons r0
  obtain ⟨rfl, rfl, rfl⟩ := trodAll_nil r1
  obtain rfl : args = #[v0, v1] := by cases args; simp_all
  obtain ⟨rfl, rfl⟩ := trodVars_none hV
  have k0 := h0
  have lt0 : ∀ x ∈ p0, x.block < W.heap.size := by obtain ⟨m, hm⟩ := k0; exact DataW.trod_lt m _ _ _ hm
  have k1 := h1
  have lt1 : ∀ x ∈ p1, x.block < W.heap.size := by obtain ⟨m, hm⟩ := k1; exact DataW.trod_lt m _ _ _ hm
  obtain ⟨b0, l0, c0, rfl⟩ := okWide_slice Try.underlying25 (hval 0 25 v0 rfl rfl)
  obtain ⟨z0, w0⟩ := ints_of_trod Try.underlying25 Try.underlying2 (by kernel_rfl) h0
  obtain ⟨a1, rfl, rfl, rfl, w1⟩ := open_int Try.underlying2 (hval 1 2 v1 rfl rfl) h1
  clear hA0 hval0
  refine (walk_FnExactValidLevels b0 l0 c0 z0 a1 W w0 (i64_of_wf w1)).mono fun e W' ⟨he, bel⟩ => ?_
  subst he
  exact ⟨_, rfl, _, _, _, [], _, [], hW', trodAll_mk1 (shut_bool Try.underlying4 _), (trodAll_cons_mk (Below.trod laidOut (by kernel_rfl) (of_decide_eq_true (by kernel_rfl)) k0 bel lt0) (trodAll_cons_mk (Below.trod laidOut (by kernel_rfl) (of_decide_eq_true (by kernel_rfl)) k1 bel lt1) trodAll_mk0)), rfl, bel.frame _, fun h => by cases h⟩
theorem over : Rows.fnExactValidLevelsRow.holds Try.pinned (OpenSpec.ofChange Rows.fnExactValidLevelsSpec) :=
  OpenClaim.holds_of_wide 4 Try.f4 rfl rfl rfl rfl rfl rfl rfl ⟨rfl, rfl, rfl, rfl, rfl⟩ rfl rfl rfl rfl rfl (by kernel_rfl) Try.func4 (by kernel_rfl)
    (of_decide_eq_true (by kernel_rfl)) (by unfold Func.isWrapper; first | (rw [if_pos (by decide +kernel)]; kernel_rfl) | (rw [if_neg (by decide +kernel)]; exact ⟨rfl, rfl⟩))
    (fun os started H enc _ => lifted os started H enc)
theorem proved : Rows.FnExactValidLevelsSaid := over
#print axioms proved
end fnExactValidLevels
end Go.Proofs.Ytfbcbknddmkfkaa
