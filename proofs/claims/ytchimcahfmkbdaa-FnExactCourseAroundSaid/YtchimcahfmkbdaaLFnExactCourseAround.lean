/- For every plan of a house and every course the law FnExactCourseAround answers true: the program's CourseAround returns what the reference's returns, leaves its argument as it was, and hands back memory of its own. No condition. -/
import Derived.Test.YtchimcahfmkbdaaHouse12
import Derived.Test.YtchimcahfmkbdaaOpen
import Derived.Deep.RegionHeld3
import Derived.Deep.DeepCutAuto
namespace Go.Proofs.Ytchimcahfmkbdaa
open Go.RowKit
set_option linter.unusedSimpArgs false
set_option linter.unusedVariables false
set_option linter.unnecessarySimpa false

theorem keepTT {w2 W W' : World} {b1 b2 : Nat} {x1 y1 x2 y2 : Value} (h : Two W b1 x1 y1 ∧ Two W b2 x2 y2 ∧ Ext w2 W) (e : Ext W W') : Two W' b1 x1 y1 ∧ Two W' b2 x2 y2 ∧ Ext w2 W' := ⟨h.1.ext e, h.2.1.ext e, h.2.2.trans e⟩
theorem heldTT {w2 W : World} {b1 b2 : Nat} {x1 y1 x2 y2 : Value} (h : Two W b1 x1 y1 ∧ Two W b2 x2 y2 ∧ Ext w2 W) : Ext w2 W := h.2.2

set_option maxRecDepth 100000 in
set_option maxHeartbeats 2000000 in
theorem walk_FnExactCourseAround (ao : Option Addr) (n c : Nat) (xs : List Int) (s : ByteArray) (r0 : Int) (w : World) (hx : Ints w ao n xs) (hs : s.size ≤ maxLen) (_ : IsI64 r0) :
    Calls Try.prog 12 #[.agg #[.slice ao n c, .string s], .int .i64 r0] w fun e w' => e = .returned (.bool true) ∧ Below w.heap.size w w' := by
  have hs' : s.size ≤ 9223372036854775807 := by unfold maxLen at hs; omega
  have hxm := hx.2.1
  have hxl := hx.1
  have e0 : Ext w (w.alloc (.cells #[.slice ao n c, .string s] 24)) := (Ext.refl w).alloc _
  by_cases h1 : n + s.size ≤ 1048576
  · have hl1 : leftH 1048576 n s.size = 1048576 - n - s.size := by unfold leftH; rw [if_pos (by omega)]
    have HL1 := Lib.hid hl1
    have hA := fun W (e : Ext w W) => l_toHouse ao n c xs s W (hx.ext e) (by omega)
    have HA := Lib.hid hA
    have hS := fun ao c W (h : Ints W ao xs.length xs) => s_CourseAround ao xs.length c xs s r0 W h (by omega)
    have hI := fun ao c W (h : Ints W ao xs.length xs) (hc : xs.length ≤ c) => i_CourseAround ao xs.length c xs s r0 W h (by omega)
    have hpl := arH_len xs (bts s) r0
    obtain ⟨ps, hps⟩ : ∃ ps, arH xs (bts s) r0 = ps := ⟨_, rfl⟩
    obtain ⟨r, hr⟩ : ∃ r, codeH xs (bts s) 0 r0 = r := ⟨_, rfl⟩
    rw [hps, hr] at hS hI
    rw [hps] at hpl
    have HS := Lib.hid hS
    have HI := Lib.hid hI
    have tr : (r != r) = false := by simp
    clear hps hr
    have hxn : xs.length ≤ 1048576 := by omega
    have HXL := Lib.hid hxl
    clear hl1 hA hS hI hxl
    go_enter Try.func12, Try.ntmps12
    go_wp2_with fail
    refine (l_szHouse _ _ _ _ _ _ hxm hs' (by omega) (by omega)).mono ?_
    rw [HL1.out]
    rintro e w1 ⟨rfl, e1⟩
    have A := (Two.new w (.slice ao n c) (.string s) 24).ext e1
    have E1 := e0.trans e1
    clear e0 e1 hx
    go_wp2_with fail
    refine (HA.out _ E1).mono ?_
    rintro e w2 ⟨a2, c2, rfl, o2, e2⟩
    replace A := A.ext e2
    go_wp2_with fail
    refine (HS.out _ _ _ o2.ints).mono ?_
    rintro e w3 ⟨aw, cw, rfl, ow, e3⟩
    replace A := A.ext e3
    have E3 := (E1.trans e2).trans e3
    have HE3 := Lib.hid E3
    have HA3 := Lib.hid A
    have HOW := Lib.hid ow
    clear E1 e2 e3 o2 ow
    go_wp2_with fail
    refine (HA.out _ E3).mono ?_
    rintro e w4 ⟨a4, c4, rfl, o4, e4⟩
    have HE34 := Lib.hid (e4.alloc (.cells #[.slice a4 xs.length c4, .string s] 27))
    replace A := A.ext HE34.out
    have HO := Lib.hid (o4.ints.ext ((Ext.refl _).alloc (.cells #[.slice a4 xs.length c4, .string s] 27)))
    have HC4 := Lib.hid (ints_cap o4)
    have C := Two.new w4 (.slice a4 xs.length c4) (.string s) 27
    have HX4 := Lib.hid (o4.ext ((Ext.refl _).alloc (.cells #[.slice a4 xs.length c4, .string s] 27)))
    have HB4 : Hid (∀ j, (Value.slice a4 xs.length c4).ownBlock = some j → w3.heap.size ≤ j ∧ j < w4.heap.size) := Lib.hid (fun j hj => o4.blk j hj)
    clear E3 e4 o4
    go_wp2_with fail
    refine (HI.out _ _ _ HO.out HC4.out).mono ?_
    rintro e w5' ⟨ag, cg, rfl, og, e5⟩
    have HOG := Lib.hid og
    clear og
    replace A := A.ext e5
    replace C := C.ext e5
    have HEQ := Lib.hid (fun W ao bo c d h1 h2 => show Calls Try.prog 42 _ W (RetE (.bool true) W) from (by have := l_eqInt64S ao bo ps.length ps.length c d ps ps W h1 h2; rwa [beq_self_eq_true] at this))
    have HOW5 := Lib.hid ((HOW.out.ext HE34.out).ext e5)
    go_upto_region 10 with (go_at_call 42; refine (HEQ.out _ _ _ _ _ HOG.out.ints HOW5.out.ints).mono ?_; rintro e w5 ⟨rfl, e6⟩; have HE56 := Lib.hid e6; replace e5 := e5.trans e6; replace A := A.ext e6; replace C := C.ext e6)
    have HE5 := Lib.hid e5
    have HQ1 : Hid (∀ W, Ext w5 W → ∀ bo d, Ints W bo xs.length xs → Calls Try.prog 18 #[.agg #[.slice a4 xs.length c4, .string s], .agg #[.slice bo xs.length d, .string s]] W (RetE (.bool true) W)) := Lib.hid (fun W e bo d h => by
      have := l_eqHouse a4 bo xs.length xs.length c4 d xs xs s s W ((HO.out.ext HE5.out).ext e) h
      rwa [show (xs == xs && decide (s = s)) = true by simp] at this)
    have E5 := HE3.out.trans (HE34.out.trans e5)
    clear e5
    go_region_held3 (fun W => Two W w.heap.size (.slice ao n c) (.string s) ∧ Two W w4.heap.size (.slice a4 xs.length c4) (.string s) ∧ Ext w5 W) (first | exact ⟨A.ext (Ext.refl _).drew, C.ext (Ext.refl _).drew, (Ext.refl _).drew⟩ | exact keepTT (by assumption) (by assumption)) (first | (go_at_call 16; refine (HA.out _ ?_).mono ?_; exact E5.trans (heldTT (by assumption)); rintro e w' ⟨a', c', rfl, o', e'⟩) | (go_at_call 18; refine (HQ1.out _ ?_ _ _ ?_).mono ?_; exact heldTT (by assumption); exact OwnInts.ints (by assumption); rintro e w' ⟨rfl, e'⟩))
    all_goals
      have hfin := (by assumption : Two _ w.heap.size (.slice ao n c) (.string s) ∧ Two _ w4.heap.size (.slice a4 xs.length c4) (.string s) ∧ Ext w5 _)
      obtain ⟨A7, C7, e7⟩ := hfin
      have OG7 := Lib.hid ((HOG.out.ext HE56.out).ext e7)
      have OX7 := Lib.hid ((HX4.out.ext HE5.out).ext e7)
      have EW7 := Lib.hid (HE34.out.trans (HE5.out.trans e7))
      have Z7 := Nat.le_trans HE5.out.size e7.size
      clear A C E5 e7
      go_wp2_with fail
      refine (l_markHouse _ a4 xs.length c4 1 xs s _ rfl OX7.out (by omega) (by omega) (by omega)).mono ?_
      rintro e w8 ⟨rfl, _, g8⟩
      have OG8 := Lib.hid (OG7.out.apart g8 (fun j j' hj hj' => by have := (HB4.out j' hj').2; have := (HOG.out.blk j hj).1; simp at this; omega))
      have EW8 := Lib.hid (EW7.out.grown g8 (fun j hj => (HB4.out j hj).1))
      have Z8 := Nat.le_trans Z7 g8.size
      clear g8 A7 C7 OG7 OX7 Z7
      have OW8 := Lib.hid (HOW.out.ext EW8.out)
      go_wp2_with fail
      refine (HEQ.out _ _ _ _ _ OG8.out.ints OW8.out.ints).mono ?_
      rintro e w9 ⟨rfl, e9⟩
      have OG9 := Lib.hid (OG8.out.ext e9)
      have EW9 := Lib.hid (EW8.out.trans e9)
      have HB9 := Lib.hid (Nat.le_trans Z8 e9.size)
      clear Z8
      clear e9 OG8 OW8
      go_wp2_with fail
      refine (l_markInt64S _ ag ps.length cg 1 ps _ rfl OG9.out (by omega) (by omega) (by omega)).mono ?_
      rintro e w10 ⟨rfl, om, g10⟩
      have HM10 := Lib.hid om
      have EW10 := Lib.hid (EW9.out.grown g10 (fun j hj => by have := (om.1.lt j hj).1; have := HE34.out.size; simp at *; omega))
      clear om g10
      go_wp2_with fail
      refine (l_heldInt64S ag ps.length cg 1 _ HM10.out.ints (by omega) (by omega) (by omega)).mono ?_
      rintro e w10' ⟨rfl, rfl⟩
      have HA10 := HA3.out.ext EW10.out
      obtain ⟨B1, B2, B3⟩ := HA10
      go_wp2_with fail
      refine (HA.out _ (HE3.out.trans EW10.out)).mono ?_
      rintro e w11 ⟨a11, c11, rfl, o11, e11⟩
      go_wp2_with fail
      refine (HI.out _ _ _ o11.ints (ints_cap o11)).mono ?_
      rintro e w12 ⟨ah, ch, rfl, oh, e12⟩
      have HM12 := Lib.hid ((HM10.out.ext e11).ext e12)
      have EW12 := Lib.hid ((EW10.out.trans e11).trans e12)
      have OH := Lib.hid oh
      have OW12 := Lib.hid (HOW.out.ext EW12.out)
      clear oh e11 e12 o11 B1 B2 B3
      go_wp2_with fail
      refine (HEQ.out _ _ _ _ _ OH.out.ints OW12.out.ints).mono ?_
      rintro e w13 ⟨rfl, e13⟩
      have HM13 := Lib.hid (HM12.out.ext e13)
      have EW13 := Lib.hid (EW12.out.trans e13)
      clear e13
      go_wp2_with fail
      refine (l_heldInt64S ag ps.length cg 1 _ HM13.out.ints (by omega) (by omega) (by omega)).mono ?_
      rintro e w13' ⟨rfl, rfl⟩
      have EW14 := EW13.out
      have EF := Lib.hid (HE3.out.trans EW14)
      go_wp2
      go_ret
      exact ⟨rfl, EF.out⟩
  · have hl1 : leftH 1048576 n s.size = -1 := by unfold leftH; rw [if_neg (by omega)]
    have HL1 := Lib.hid hl1
    clear hl1
    go_enter Try.func12, Try.ntmps12
    go_wp2_with fail
    refine (l_szHouse _ _ _ _ _ _ hxm hs' (by omega) (by omega)).mono ?_
    rw [HL1.out]
    rintro e w1 ⟨rfl, e1⟩
    go_wp2
    go_ret
    exact ⟨rfl, e0.trans e1⟩

/-! ### the row's step: written by a program of mine (frame.py) after the guide's own frame -/
namespace fnExactCourseAround
open Go.ChangeShapes Go.WideShapes Go.ChangeAt Go.RowKit Go.Joins
open Go.ChangeMaps (open_string shut_string)
set_option linter.unusedVariables false
theorem own : ownKnob Try.prog.godebug = none := by kernel_rfl
theorem laidOut : laidOutB Try.prog = true := by kernel_rfl
set_option maxRecDepth 100000 in
theorem lifted (os : Os) (started : os.Started) (H : Type) (enc : TypeId × Value → H) :
    ReturnsInHanded {} Try.checked os 12 .any (Rows.fnExactCourseAroundSpec.pre6 enc Try.prog Try.f12 Rows.fnExactCourseAroundRow.domain false) (Rows.fnExactCourseAroundSpec.post enc Try.prog Try.f12 false true false false) := by
  refine returnsInHanded_of_change (C := Try.checked) own started (by kernel_rfl) Try.func12
    (ChangeSpec.witness6 (enc := enc) (C := Try.checked) false ⟨#[], #[.agg #[.slice none 0 0, .string ByteArray.empty], .int .i64 0], []⟩ 8 (by kernel_rfl) (by kernel_rfl) (by kernel_rfl) (by kernel_rfl)) ?_
  intro W base args ds gs before hval0 hW hcnd _
  have hval : ∀ (j : Nat) t v, Try.f12.params[j]? = some t → args[j]? = some v → Value.okWide Try.prog W .any base t v := hval0
  have hW' := hW
  obtain ⟨p, q, hA0, hV, rfl, hfz, hnd⟩ := hW
  have hA : DataW.TrodAll enc Try.prog W 0 (fun _ => true) true Try.f12.params.toList args.toList ds p := hA0
  rw [Try.params12] at hA hval
  obtain ⟨v0, vs0, d0, ds0, p0, q0, hargs, rfl, rfl, h0, r0⟩ := trodAll_cons hA
  obtain ⟨v1, vs1, d1, ds1, p1, q1, rfl, rfl, rfl, h1, r1⟩ := trodAll_cons r0
  obtain ⟨rfl, rfl, rfl⟩ := trodAll_nil r1
  obtain rfl : args = #[v0, v1] := by cases args; simp_all
  obtain ⟨rfl, rfl⟩ := trodVars_none hV
  have k0 := h0
  have lt0 : ∀ x ∈ p0, x.block < W.heap.size := by obtain ⟨m, hm⟩ := k0; exact DataW.trod_lt m _ _ _ hm
  have k1 := h1
  have lt1 : ∀ x ∈ p1, x.block < W.heap.size := by obtain ⟨m, hm⟩ := k1; exact DataW.trod_lt m _ _ _ hm
  obtain ⟨g0, k0c, y0a, y0b, m0, rfl, rfl, rfl, t0a, t0b⟩ := open_agg2 Try.underlying24 (by kernel_rfl) (by kernel_rfl) (hval 0 24 v0 rfl rfl) h0
  obtain ⟨b0, l0, c0, z0, rfl, w0⟩ := ints_of_field Try.underlying22 Try.underlying2 (by kernel_rfl) ⟨_, _, t0a⟩
  obtain ⟨a0, rfl, u0⟩ := str_of_field Try.underlying9 ⟨_, _, t0b⟩
  obtain ⟨a1, rfl, rfl, rfl, w1⟩ := open_int Try.underlying2 (hval 1 2 v1 rfl rfl) h1
  clear hA0 hval0
  refine (walk_FnExactCourseAround b0 l0 c0 z0 a0 a1 W w0 u0 (i64_of_wf w1)).mono fun e W' ⟨he, bel⟩ => ?_
  subst he
  exact ⟨_, rfl, _, _, _, [], _, [], hW', trodAll_mk1 (shut_bool Try.underlying4 _), (trodAll_cons_mk (Below.trod laidOut (by kernel_rfl) (of_decide_eq_true (by kernel_rfl)) k0 bel lt0) (trodAll_cons_mk (Below.trod laidOut (by kernel_rfl) (of_decide_eq_true (by kernel_rfl)) k1 bel lt1) trodAll_mk0)), rfl, bel.frame _, fun h => by cases h⟩
theorem over : Rows.fnExactCourseAroundRow.holds Try.pinned (OpenSpec.ofChange Rows.fnExactCourseAroundSpec) :=
  OpenClaim.holds_of_wide 12 Try.f12 rfl rfl rfl rfl rfl rfl rfl ⟨rfl, rfl, rfl, rfl, rfl⟩ rfl rfl rfl rfl rfl (by kernel_rfl) Try.func12 (by kernel_rfl)
    (of_decide_eq_true (by kernel_rfl)) (by unfold Func.isWrapper; first | (rw [if_pos (by decide +kernel)]; kernel_rfl) | (rw [if_neg (by decide +kernel)]; exact ⟨rfl, rfl⟩))
    (fun os started H enc _ => lifted os started H enc)
theorem proved : Rows.FnExactCourseAroundSaid := over
#print axioms proved
end fnExactCourseAround
end Go.Proofs.Ytchimcahfmkbdaa
