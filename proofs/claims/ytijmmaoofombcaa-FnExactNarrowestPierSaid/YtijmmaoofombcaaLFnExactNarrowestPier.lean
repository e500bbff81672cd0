/- For every front the law FnExactNarrowestPier answers true: the program's NarrowestPier returns what the reference's returns, and leaves its argument as it was. No condition. -/
import Derived.Test.YtijmmaoofombcaaFrontN
import Derived.Test.YtijmmaoofombcaaOpen2
import Derived.Deep.RegionHeld3
import Derived.Deep.DeepCutAuto
namespace Go.Proofs.Ytijmmaoofombcaa
open Go.RowKit
set_option linter.unusedSimpArgs false
set_option linter.unusedVariables false
set_option linter.unnecessarySimpa false

theorem keepTT {w2 W W' : World} {b1 b2 : Nat} {x1 y1 z1 x2 y2 z2 : Value} (h : Three W b1 x1 y1 z1 ∧ Three W b2 x2 y2 z2 ∧ Ext w2 W) (e : Ext W W') : Three W' b1 x1 y1 z1 ∧ Three W' b2 x2 y2 z2 ∧ Ext w2 W' := ⟨h.1.ext e, h.2.1.ext e, h.2.2.trans e⟩
theorem heldTT {w2 W : World} {b1 b2 : Nat} {x1 y1 z1 x2 y2 z2 : Value} (h : Three W b1 x1 y1 z1 ∧ Three W b2 x2 y2 z2 ∧ Ext w2 W) : Ext w2 W := h.2.2

set_option maxHeartbeats 2000000 in
theorem walk_FnExactNarrowestPier (p q : Int) (ao : Option Addr) (n c : Nat) (xs : List Opn) (w : World) (hp : IsI64 p) (hq : IsI64 q) (hx : Opens w ao n xs) :
    Calls Try.prog 7 #[.agg #[.int .i64 p, .int .i64 q, .slice ao n c]] w fun e w' => e = .returned (.bool true) ∧ Below w.heap.size w w' := by
  have hxm := hx.2.1
  have hxl := hx.1
  have e0 : Ext w (w.alloc (.cells #[.int .i64 p, .int .i64 q, .slice ao n c] 24)) := (Ext.refl w).alloc _
  by_cases h1 : (n : Int) ≤ 1048576
  · have hl1 : sel (decide ((n : Int) ≤ 1048576)) (1048576 - n) (-1) = 1048576 - n := by simp [sel, h1]
    have HL1 := Lib.hid hl1
    have hA := fun W (e : Ext w W) => l_toFront p q ao n c xs W (hx.ext e) (by omega)
    have HA := Lib.hid hA
    have hS := fun ao c W (h : Opens W ao xs.length xs) => s_NarrowestPier p q ao xs.length c xs W h
    have hI := fun ao c W (h : Opens W ao xs.length xs) (hc : xs.length ≤ c) => i_NarrowestPier p q ao xs.length c xs W h hc
    obtain ⟨r0, r1, hv⟩ : ∃ r0 r1 : Int, (narV p q xs : Value) = .tuple #[.int .i64 r0, .int .i64 r1] := ⟨_, _, rfl⟩
    rw [hv] at hS hI
    have HS := Lib.hid hS
    have HI := Lib.hid hI
    clear hl1 hA hS hI hv hp hq hxl
    go_enter Try.func7, Try.ntmps7
    go_wp2_with fail
    refine (l_szFront _ _ _ _ _ _ _ hxm (by omega) (by omega)).mono ?_
    rw [HL1.out]
    rintro e w1 ⟨rfl, e1⟩
    have A := (Three.new w (.int .i64 p) (.int .i64 q) (.slice ao n c) 24).ext e1
    have E1 := e0.trans e1
    clear e0 e1 hx
    go_wp2_with fail
    refine (HA.out _ E1).mono ?_
    rintro e w2 ⟨a2, c2, rfl, o2, e2⟩
    replace A := A.ext e2
    go_wp2_with fail
    refine (HS.out _ _ _ o2.opens).mono ?_
    rintro e w3 ⟨rfl, e3⟩
    replace A := A.ext e3
    have E3 := (E1.trans e2).trans e3
    clear E1 e2 e3 o2
    go_wp2_with fail
    refine (HA.out _ E3).mono ?_
    rintro e w4 ⟨a4, c4, rfl, o4, e4⟩
    replace A := A.ext (e4.alloc (.cells #[.int .i64 p, .int .i64 q, .slice a4 xs.length c4] 29))
    have E4 := E3.trans (e4.alloc (.cells #[.int .i64 p, .int .i64 q, .slice a4 xs.length c4] 29))
    have HO := Lib.hid (o4.opens.ext ((Ext.refl _).alloc (.cells #[.int .i64 p, .int .i64 q, .slice a4 xs.length c4] 29)))
    have HC4 := Lib.hid o4.cap
    have C := Three.new w4 (.int .i64 p) (.int .i64 q) (.slice a4 xs.length c4) 29
    clear E3 e4 o4
    go_wp2_with fail
    refine (HI.out _ _ _ HO.out HC4.out).mono ?_
    rintro e w5 ⟨rfl, e5⟩
    replace A := A.ext e5
    replace C := C.ext e5
    have E5 := E4.trans e5
    have HQ1 : Hid (∀ W, Ext w5 W → ∀ bo d, Opens W bo xs.length xs → Calls Try.prog 18 #[.agg #[.int .i64 p, .int .i64 q, .slice a4 xs.length c4], .agg #[.int .i64 p, .int .i64 q, .slice bo xs.length d]] W (RetE (.bool true) W)) := Lib.hid (fun W e bo d h => by
      have := l_eqFront p q p q a4 bo xs.length xs.length c4 d xs xs W ((HO.out.ext e5).ext e) h
      rwa [show sameF p q p q xs xs = true by simp [sameF]] at this)
    clear E4 e5
    go_upto_region 10 with fail
    go_region_held3 (fun W => Three W w.heap.size (.int .i64 p) (.int .i64 q) (.slice ao n c) ∧ Three W w4.heap.size (.int .i64 p) (.int .i64 q) (.slice a4 xs.length c4) ∧ Ext w5 W) (first | exact ⟨A.ext (Ext.refl _).drew, C.ext (Ext.refl _).drew, (Ext.refl _).drew⟩ | exact keepTT (by assumption) (by assumption)) (first | (go_at_call 16; refine (HA.out _ ?_).mono ?_; exact E5.trans (heldTT (by assumption)); rintro e w' ⟨a', c', rfl, o', e'⟩) | (go_at_call 18; refine (HQ1.out _ ?_ _ _ ?_).mono ?_; exact heldTT (by assumption); exact OwnOpens.opens (by assumption); rintro e w' ⟨rfl, e'⟩))
    all_goals
      have hfin := E5.trans (heldTT (by assumption))
      go_wp2
      go_ret
      exact ⟨rfl, hfin⟩
  · have hl1 : sel (decide ((n : Int) ≤ 1048576)) (1048576 - n) (-1) = -1 := by simp [sel, h1]
    have HL1 := Lib.hid hl1
    clear hl1
    go_enter Try.func7, Try.ntmps7
    go_wp2_with fail
    refine (l_szFront _ _ _ _ _ _ _ hxm (by omega) (by omega)).mono ?_
    rw [HL1.out]
    rintro e w1 ⟨rfl, e1⟩
    go_wp2
    go_ret
    exact ⟨rfl, e0.trans e1⟩

/-! ### the row's step: written by a program of mine (frame.py) after the guide's own frame -/
namespace fnExactNarrowestPier
open Go.ChangeShapes Go.WideShapes Go.ChangeAt Go.RowKit Go.Joins
open Go.ChangeMaps (open_string shut_string)
set_option linter.unusedVariables false
theorem own : ownKnob Try.prog.godebug = none := by kernel_rfl
theorem laidOut : laidOutB Try.prog = true := by kernel_rfl
set_option maxRecDepth 100000 in
theorem lifted (os : Os) (started : os.Started) (H : Type) (enc : TypeId × Value → H) :
    ReturnsInHanded {} Try.checked os 7 .any (Rows.fnExactNarrowestPierSpec.pre6 enc Try.prog Try.f7 Rows.fnExactNarrowestPierRow.domain false) (Rows.fnExactNarrowestPierSpec.post enc Try.prog Try.f7 false true false false) := by
  refine returnsInHanded_of_change (C := Try.checked) own started (by kernel_rfl) Try.func7
    (ChangeSpec.witness6 (enc := enc) (C := Try.checked) false ⟨#[], #[.agg #[.int .i64 0, .int .i64 0, .slice none 0 0]], []⟩ 8 (by kernel_rfl) (by kernel_rfl) (by kernel_rfl) (by kernel_rfl)) ?_
  intro W base args ds gs before hval0 hW hcnd _
  have hval : ∀ (j : Nat) t v, Try.f7.params[j]? = some t → args[j]? = some v → Value.okWide Try.prog W .any base t v := hval0
  have hW' := hW
  obtain ⟨p, q, hA0, hV, rfl, hfz, hnd⟩ := hW
  have hA : DataW.TrodAll enc Try.prog W 0 (fun _ => true) true Try.f7.params.toList args.toList ds p := hA0
  rw [Try.params7] at hA hval
  obtain ⟨v0, vs0, d0, ds0, p0, q0, hargs, rfl, rfl, h0, r0⟩ := trodAll_cons hA
  obtain ⟨rfl, rfl, rfl⟩ := trodAll_nil r0
  obtain rfl : args = #[v0] := by cases args; simp_all
  obtain ⟨rfl, rfl⟩ := trodVars_none hV
  have k0 := h0
  have lt0 : ∀ x ∈ p0, x.block < W.heap.size := by obtain ⟨m, hm⟩ := k0; exact DataW.trod_lt m _ _ _ hm
  obtain ⟨g0, k0c, k0d, y0a, y0b, y0c, m0, rfl, rfl, rfl, t0a, t0b, t0c⟩ := open_agg3 Try.underlying24 (by kernel_rfl) (by kernel_rfl) (hval 0 24 v0 rfl rfl) h0
  obtain ⟨x0a, rfl, i0a⟩ := int_of_field Try.underlying2 ⟨_, _, t0a⟩
  obtain ⟨x0b, rfl, i0b⟩ := int_of_field Try.underlying2 ⟨_, _, t0b⟩
  obtain ⟨b0, l0, c0, z0, rfl, w0⟩ := opens_of_field Try.underlying22 Try.underlying51 (by kernel_rfl) (by kernel_rfl) Try.underlying2 Try.underlying2 Try.underlying2 Try.underlying2 ⟨_, _, t0c⟩
  clear hA0 hval0
  refine (walk_FnExactNarrowestPier x0a x0b b0 l0 c0 z0 W i0a i0b w0).mono fun e W' ⟨he, bel⟩ => ?_
  subst he
  exact ⟨_, rfl, _, _, _, [], _, [], hW', trodAll_mk1 (shut_bool Try.underlying4 _), (trodAll_cons_mk (Below.trod laidOut (by kernel_rfl) (of_decide_eq_true (by kernel_rfl)) k0 bel lt0) trodAll_mk0), rfl, bel.frame _, fun h => by cases h⟩
theorem over : Rows.fnExactNarrowestPierRow.holds Try.pinned (OpenSpec.ofChange Rows.fnExactNarrowestPierSpec) :=
  OpenClaim.holds_of_wide 7 Try.f7 rfl rfl rfl rfl rfl rfl rfl ⟨rfl, rfl, rfl, rfl, rfl⟩ rfl rfl rfl rfl rfl (by kernel_rfl) Try.func7 (by kernel_rfl)
    (of_decide_eq_true (by kernel_rfl)) (by unfold Func.isWrapper; first | (rw [if_pos (by decide +kernel)]; kernel_rfl) | (rw [if_neg (by decide +kernel)]; exact ⟨rfl, rfl⟩))
    (fun os started H enc _ => lifted os started H enc)
theorem proved : Rows.FnExactNarrowestPierSaid := over
#print axioms proved
end fnExactNarrowestPier
end Go.Proofs.Ytijmmaoofombcaa
