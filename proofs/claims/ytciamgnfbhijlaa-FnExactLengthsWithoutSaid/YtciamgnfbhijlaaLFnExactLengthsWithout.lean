/- For every length and every lap the law FnExactLengthsWithout answers true: the program's LengthsWithout returns what the reference's returns, in memory of its own. No condition. -/
import Derived.Test.YtciamgnfbhijlaaPairI4
import Derived.Test.YtciamgnfbhijlaaOpen
namespace Go.Proofs.Ytciamgnfbhijlaa
open Go.RowKit
set_option linter.unusedSimpArgs false
set_option linter.unusedVariables false
set_option linter.unnecessarySimpa false

theorem lensN_length (L lap : Int) : (lensN L lap).length ≤ 80 := by
  unfold lensN
  split
  · rename_i g
    have := noCut_len lap L.toNat
    have := okP_iff.1 g
    omega
  · simp

set_option maxHeartbeats 800000 in
theorem walk_FnExactLengthsWithout (L lap : Int) (w : World) (_ : IsI64 L) (_ : IsI64 lap) :
    Calls Try.prog 5 #[.int .i64 L, .int .i64 lap] w fun e w' => e = .returned (.bool true) ∧ Below w.heap.size w w' := by
  have hl := lensN_length L lap
  generalize hxs : lensN L lap = xs at hl
  generalize hcode : sel (okP L lap) 0 2 = code
  have HS : Hid (∀ w, Calls Try.prog 12 #[.int .i64 L, .int .i64 lap] w (RetIntsC xs code w)) := by intro w; rw [← hxs, ← hcode]; exact s_LengthsWithout L lap w
  have HI : Hid (∀ w, Calls Try.prog 13 #[.int .i64 L, .int .i64 lap] w (RetIntsC xs code w)) := by intro w; rw [← hxs, ← hcode]; exact i_LengthsWithout L lap w
  clear hxs hcode
  go_enter Try.func5, Try.ntmps5
  go_wp2_with (go_at_call 12; refine (HS.out _).mono ?_; rintro e w1 ⟨a1, c1, rfl, o1, e1⟩)
  refine (HI.out _).mono ?_
  rintro e w2 ⟨a2, c2, rfl, o2, e2⟩
  go_wp2_with fail
  refine (l_eqInt64S _ _ _ _ _ _ xs xs _ o2.ints (o1.ext e2).ints).mono ?_
  rintro e w3 ⟨rfl, e3⟩
  rw [beq_self_eq_true]
  go_wp2_with fail
  refine (l_markInt64S w1.heap.size _ _ _ _ xs _ rfl (o2.ext e3) (by omega) (by omega) (by omega)).mono ?_
  rintro e w4 ⟨rfl, o4, g4⟩
  have o1' := (o1.ext (e2.trans e3)).apart g4 (fun k k' hk hk' => by have := (o1.blk k hk).2; have := (o2.blk k' hk').1; omega)
  have e24 : Ext w1 w4 := (e2.trans e3).grown g4 (fun k hk => (o2.blk k hk).1)
  go_wp2_with fail
  refine (l_heldInt64S _ _ _ _ _ (by simpa [marks_length] using o4.ints) (by omega) (by omega) (by omega)).mono ?_
  rintro e w5 ⟨rfl, rfl⟩
  go_wp2_with fail
  refine (HI.out _).mono ?_
  rintro e w5 ⟨a5, c5, rfl, o5, e5⟩
  go_wp2_with fail
  refine (l_eqInt64S _ _ _ _ _ _ xs xs _ o5.ints (o1'.ext e5).ints).mono ?_
  rintro e w6 ⟨rfl, e6⟩
  rw [beq_self_eq_true]
  go_wp2_with fail
  refine (l_heldInt64S _ _ _ _ _ (by simpa [marks_length] using ((o4.ext e5).ext e6).ints) (by omega) (by omega) (by omega)).mono ?_
  rintro e w7 ⟨rfl, rfl⟩
  go_wp2
  go_ret
  exact ⟨rfl, ((e1.trans e24).trans e5).trans e6⟩

/-! ### the row's step: written by a program of mine (frame.py) after the guide's own frame -/
namespace fnExactLengthsWithout
open Go.ChangeShapes Go.WideShapes Go.ChangeAt Go.RowKit Go.Joins
open Go.ChangeMaps (open_string shut_string)
set_option linter.unusedVariables false
theorem own : ownKnob Try.prog.godebug = none := by kernel_rfl
theorem laidOut : laidOutB Try.prog = true := by kernel_rfl
set_option maxRecDepth 100000 in
theorem lifted (os : Os) (started : os.Started) (H : Type) (enc : TypeId × Value → H) :
    ReturnsInHanded {} Try.checked os 5 .any (Rows.fnExactLengthsWithoutSpec.pre6 enc Try.prog Try.f5 Rows.fnExactLengthsWithoutRow.domain false) (Rows.fnExactLengthsWithoutSpec.post enc Try.prog Try.f5 false true false false) := by
  refine returnsInHanded_of_change (C := Try.checked) own started (by kernel_rfl) Try.func5
    (ChangeSpec.witness6 (enc := enc) (C := Try.checked) false ⟨#[], #[.int .i64 0, .int .i64 0], []⟩ 8 (by kernel_rfl) (by kernel_rfl) (by kernel_rfl) (by kernel_rfl)) ?_
  intro W base args ds gs before hval0 hW hcnd _
  have hval : ∀ (j : Nat) t v, Try.f5.params[j]? = some t → args[j]? = some v → Value.okWide Try.prog W .any base t v := hval0
  have hW' := hW
  obtain ⟨p, q, hA0, hV, rfl, hfz, hnd⟩ := hW
  have hA : DataW.TrodAll enc Try.prog W 0 (fun _ => true) true Try.f5.params.toList args.toList ds p := hA0
  rw [Try.params5] at hA hval
  obtain ⟨v0, vs0, d0, ds0, p0, q0, hargs, rfl, rfl, h0, r0⟩ := trodAll_cons hA
  obtain ⟨v1, vs1, d1, ds1, p1, q1, rfl, rfl, rfl, h1, r1⟩ := trodAll_cons r0
  obtain ⟨rfl, rfl, rfl⟩ := trodAll_nil r1
  obtain rfl : args = #[v0, v1] := by cases args; simp_all
  obtain ⟨rfl, rfl⟩ := trodVars_none hV
  have k0 := h0
  have lt0 : ∀ x ∈ p0, x.block < W.heap.size := by obtain ⟨m, hm⟩ := k0; exact DataW.trod_lt m _ _ _ hm
  have k1 := h1
  have lt1 : ∀ x ∈ p1, x.block < W.heap.size := by obtain ⟨m, hm⟩ := k1; exact DataW.trod_lt m _ _ _ hm
  obtain ⟨a0, rfl, rfl, rfl, w0⟩ := open_int Try.underlying2 (hval 0 2 v0 rfl rfl) h0
  obtain ⟨a1, rfl, rfl, rfl, w1⟩ := open_int Try.underlying2 (hval 1 2 v1 rfl rfl) h1
  clear hA0 hval0
  refine (walk_FnExactLengthsWithout a0 a1 W (i64_of_wf w0) (i64_of_wf w1)).mono fun e W' ⟨he, bel⟩ => ?_
  subst he
  exact ⟨_, rfl, _, _, _, [], _, [], hW', trodAll_mk1 (shut_bool Try.underlying4 _), (trodAll_cons_mk (Below.trod laidOut (by kernel_rfl) (of_decide_eq_true (by kernel_rfl)) k0 bel lt0) (trodAll_cons_mk (Below.trod laidOut (by kernel_rfl) (of_decide_eq_true (by kernel_rfl)) k1 bel lt1) trodAll_mk0)), rfl, bel.frame _, fun h => by cases h⟩
theorem over : Rows.fnExactLengthsWithoutRow.holds Try.pinned (OpenSpec.ofChange Rows.fnExactLengthsWithoutSpec) :=
  OpenClaim.holds_of_wide 5 Try.f5 rfl rfl rfl rfl rfl rfl rfl ⟨rfl, rfl, rfl, rfl, rfl⟩ rfl rfl rfl rfl rfl (by kernel_rfl) Try.func5 (by kernel_rfl)
    (of_decide_eq_true (by kernel_rfl)) (by unfold Func.isWrapper; first | (rw [if_pos (by decide +kernel)]; kernel_rfl) | (rw [if_neg (by decide +kernel)]; exact ⟨rfl, rfl⟩))
    (fun os started H enc _ => lifted os started H enc)
theorem proved : Rows.FnExactLengthsWithoutSaid := over
#print axioms proved
end fnExactLengthsWithout
end Go.Proofs.Ytciamgnfbhijlaa
