/- For every front the law FnExactMirrorFront answers true: the program's MirrorFront returns what the reference's returns, leaves its argument as it was, and hands back memory of its own. No condition. -/
import Derived.Test.YtnhmcmohnpbcjaaMirF
import Derived.Test.YtnhmcmohnpbcjaaFrontH
import Derived.Test.YtnhmcmohnpbcjaaOpen2
import Derived.Deep.RegionHeld3
import Derived.Deep.DeepCutAuto
namespace Go.Proofs.Ytnhmcmohnpbcjaa
open Go.RowKit
set_option linter.unusedSimpArgs false
set_option linter.unusedVariables false
set_option linter.unnecessarySimpa false

theorem keepTT {w2 W W' : World} {b1 b2 : Nat} {x1 y1 z1 x2 y2 z2 : Value} (h : Three W b1 x1 y1 z1 ∧ Three W b2 x2 y2 z2 ∧ Ext w2 W) (e : Ext W W') : Three W' b1 x1 y1 z1 ∧ Three W' b2 x2 y2 z2 ∧ Ext w2 W' := ⟨h.1.ext e, h.2.1.ext e, h.2.2.trans e⟩
theorem heldTT {w2 W : World} {b1 b2 : Nat} {x1 y1 z1 x2 y2 z2 : Value} (h : Three W b1 x1 y1 z1 ∧ Three W b2 x2 y2 z2 ∧ Ext w2 W) : Ext w2 W := h.2.2
theorem mir_form (L C : Int) (os : List Opn) : ∃ L' C' ps r, ps.length ≤ 8 ∧ ∀ w, RetMir L C os w = RetFrC L' C' ps r w := by
  cases hv : validF L C os with
  | true => exact ⟨L, C, mirF L os, 0, by rw [mirF_len]; exact (validF_bd hv).2.2.1, fun w => by funext e w'; unfold RetMir; rw [hv]; rfl⟩
  | false => exact ⟨0, 0, [], 1, by simp, fun w => by funext e w'; unfold RetMir; rw [hv]; rfl⟩
theorem blk_grown {w w' : World} {row : Option Nat} {b : Nat} {o : Obj} (h : w.heap[b]? = some o) (g : w.grownBy w' row) (hne : some b ≠ row) : w'.heap[b]? = some o := (g.block b (lt_of_block h) hne).trans h

set_option maxRecDepth 100000 in
set_option maxHeartbeats 3000000 in
theorem walk_FnExactMirrorFront (p q : Int) (ao : Option Addr) (n c : Nat) (xs : List Opn) (w : World) (hp : IsI64 p) (hq : IsI64 q) (hx : Opens w ao n xs) :
    Calls Try.prog 6 #[.agg #[.int .i64 p, .int .i64 q, .slice ao n c]] w fun e w' => e = .returned (.bool true) ∧ Below w.heap.size w w' := by
  have hxm := hx.2.1
  have hxl := hx.1
  have e0 : Ext w (w.alloc (.cells #[.int .i64 p, .int .i64 q, .slice ao n c] 24)) := (Ext.refl w).alloc _
  by_cases h1 : (n : Int) ≤ 1048576
  · have hl1 : sel (decide ((n : Int) ≤ 1048576)) (1048576 - n) (-1) = 1048576 - n := by simp [sel, h1]
    have HL1 := Lib.hid hl1
    have hA := fun W (e : Ext w W) => l_toFront p q ao n c xs W (hx.ext e) (by omega)
    have HA := Lib.hid hA
    have hS := fun ao c W (h : Opens W ao xs.length xs) => s_MirrorFront p q ao xs.length c xs W h
    have hI := fun ao c W (h : Opens W ao xs.length xs) (hc : xs.length ≤ c) => i_MirrorFront p q ao xs.length c xs W h hc
    obtain ⟨L', C', ps, r, hpl, hform⟩ := mir_form p q xs
    simp only [hform] at hS hI
    have HS := Lib.hid hS
    have HI := Lib.hid hI
    have tr : (r != r) = false := by simp
    have HEQ := Lib.hid (fun W ao bo c d h1 h2 => show Calls Try.prog 15 #[.agg #[.int .i64 L', .int .i64 C', .slice ao ps.length c], .agg #[.int .i64 L', .int .i64 C', .slice bo ps.length d]] W (RetE (.bool true) W) from (by have := l_eqFront L' C' L' C' ao bo ps.length ps.length c d ps ps W h1 h2; rwa [show sameF L' C' L' C' ps ps = true by simp [sameF]] at this))
    have hxn : xs.length ≤ 1048576 := by omega
    have HXL := Lib.hid hxl
    clear hl1 hA hS hI hxl hform hp hq
    go_enter Try.func6, Try.ntmps6
    go_wp2_with fail
    refine (l_szFront _ _ _ _ _ _ _ hxm (by omega) (by omega)).mono ?_
    rw [HL1.out]
    rintro e w1 ⟨rfl, e1⟩
    have A := (Three.new w (.int .i64 p) (.int .i64 q) (.slice ao n c) 24).ext e1
    have E1 := e0.trans e1
    clear e0 e1 hx
    go_wp2_with fail
    refine (HA.out _ E1).mono ?_
    rintro e w2 ⟨a2, c2, rfl, o2, e2⟩
    go_wp2_with fail
    refine (HS.out _ _ _ o2.opens).mono ?_
    rintro e w3 ⟨aw, cw, rfl, ow, e3⟩
    replace A := A.ext ((e2.trans e3).alloc (.cells #[.int .i64 L', .int .i64 C', .slice aw ps.length cw] 30))
    have HE3 := Lib.hid (((E1.trans e2).trans e3).alloc (.cells #[.int .i64 L', .int .i64 C', .slice aw ps.length cw] 30))
    have HB6 := Lib.hid (heap_alloc_new w3 (.cells #[.int .i64 L', .int .i64 C', .slice aw ps.length cw] 30))
    have HOW := Lib.hid (ow.ext ((Ext.refl w3).alloc (.cells #[.int .i64 L', .int .i64 C', .slice aw ps.length cw] 30)))
    have HA3 := Lib.hid A
    have HZ3 : Hid ((w3.alloc (.cells #[.int .i64 L', .int .i64 C', .slice aw ps.length cw] 30)).heap.size = w3.heap.size + 1) := Lib.hid (by simp)
    clear E1 e2 e3 o2 ow
    go_wp2_with fail
    refine (HA.out _ HE3.out).mono ?_
    rintro e w4 ⟨a4, c4, rfl, o4, e4⟩
    have HE34 := Lib.hid (e4.alloc (.cells #[.int .i64 p, .int .i64 q, .slice a4 xs.length c4] 30))
    replace A := A.ext HE34.out
    have HO := Lib.hid (o4.opens.ext ((Ext.refl _).alloc (.cells #[.int .i64 p, .int .i64 q, .slice a4 xs.length c4] 30)))
    have HC4 := Lib.hid o4.cap
    have C := Three.new w4 (.int .i64 p) (.int .i64 q) (.slice a4 xs.length c4) 30
    have HX4 := Lib.hid (o4.ext ((Ext.refl _).alloc (.cells #[.int .i64 p, .int .i64 q, .slice a4 xs.length c4] 30)))
    have HB4 : Hid (∀ j, (Value.slice a4 xs.length c4).ownBlock = some j → w3.heap.size + 1 ≤ j ∧ j < w4.heap.size) := Lib.hid (fun j hj => by have := o4.1.lt j hj; rw [HZ3.out] at this; exact this)
    have HZ4 : Hid ((w4.alloc (.cells #[.int .i64 p, .int .i64 q, .slice a4 xs.length c4] 30)).heap.size = w4.heap.size + 1 ∧ w3.heap.size + 1 ≤ w4.heap.size) := Lib.hid ⟨by simp, by have := e4.size; rw [HZ3.out] at this; exact this⟩
    clear e4 o4
    go_wp2_with fail
    refine (HI.out _ _ _ HO.out HC4.out).mono ?_
    rintro e w5 ⟨ag, cg, rfl, og, e5⟩
    have e5a := e5.alloc (.cells #[.int .i64 L', .int .i64 C', .slice ag ps.length cg] 30)
    have HB9 := Lib.hid (heap_alloc_new w5 (.cells #[.int .i64 L', .int .i64 C', .slice ag ps.length cg] 30))
    have HOG := Lib.hid (og.ext ((Ext.refl w5).alloc (.cells #[.int .i64 L', .int .i64 C', .slice ag ps.length cg] 30)))
    have HBG : Hid (∀ j, (Value.slice ag ps.length cg).ownBlock = some j → w4.heap.size + 1 ≤ j ∧ j < w5.heap.size) := Lib.hid (fun j hj => by have := og.1.lt j hj; rw [HZ4.out.1] at this; exact this)
    replace A := A.ext e5a
    replace C := C.ext e5a
    obtain ⟨p0, p1, p2, p3, p4, p5, p6⟩ := three_cells HB9.out
    obtain ⟨q0, q1, q2, q3, q4, q5, q6⟩ := three_cells ((HE34.out.trans e5a).block HB6.out)
    have HOW5 := Lib.hid (HOW.out.ext (HE34.out.trans e5a))
    have HZ5 : Hid (w4.heap.size + 1 ≤ w5.heap.size) := Lib.hid (by have := e5.size; rw [HZ4.out.1] at this; exact this)
    have HE5a := Lib.hid e5a
    clear e5 og
    go_upto_region 10 with (go_at_call 15; refine (HEQ.out _ _ _ _ _ HOG.out.opens HOW5.out.opens).mono ?_; rintro e w6 ⟨rfl, e6⟩; have HE56 := Lib.hid e6; replace e5a := e5a.trans e6; replace A := A.ext e6; replace C := C.ext e6)
    have HE5 := Lib.hid e5a
    clear p0 p1 p2 p3 p4 p5 p6 q0 q1 q2 q3 q4 q5 q6
    have HQ1 : Hid (∀ W, Ext w6 W → ∀ bo d, Opens W bo xs.length xs → Calls Try.prog 15 #[.agg #[.int .i64 p, .int .i64 q, .slice a4 xs.length c4], .agg #[.int .i64 p, .int .i64 q, .slice bo xs.length d]] W (RetE (.bool true) W)) := Lib.hid (fun W e bo d h => by
      have := l_eqFront p q p q a4 bo xs.length xs.length c4 d xs xs W ((HO.out.ext HE5.out).ext e) h
      rwa [show sameF p q p q xs xs = true by simp [sameF]] at this)
    have E5 := HE3.out.trans (HE34.out.trans e5a)
    clear e5a
    go_region_held3 (fun W => Three W w.heap.size (.int .i64 p) (.int .i64 q) (.slice ao n c) ∧ Three W w4.heap.size (.int .i64 p) (.int .i64 q) (.slice a4 xs.length c4) ∧ Ext w6 W) (first | exact ⟨A.ext (Ext.refl _).drew, C.ext (Ext.refl _).drew, (Ext.refl _).drew⟩ | exact keepTT (by assumption) (by assumption)) (first | (go_at_call 12; refine (HA.out _ ?_).mono ?_; exact E5.trans (heldTT (by assumption)); rintro e w' ⟨a', c', rfl, o', e'⟩) | (go_at_call 15; refine (HQ1.out _ ?_ _ _ ?_).mono ?_; exact heldTT (by assumption); exact OwnOpens.opens (by assumption); rintro e w' ⟨rfl, e'⟩))
    all_goals
      have hfin := (by assumption : Three _ w.heap.size (.int .i64 p) (.int .i64 q) (.slice ao n c) ∧ Three _ w4.heap.size (.int .i64 p) (.int .i64 q) (.slice a4 xs.length c4) ∧ Ext w6 _)
      obtain ⟨A7, C7, e7⟩ := hfin
      have OG7 := Lib.hid ((HOG.out.ext HE56.out).ext e7)
      have OX7 := Lib.hid ((HX4.out.ext HE5.out).ext e7)
      have EW7 := Lib.hid (HE34.out.trans (HE5.out.trans e7))
      have HB97 := Lib.hid ((HE56.out.trans e7).block HB9.out)
      have HB67 := Lib.hid (EW7.out.block HB6.out)
      clear A C E5 e7
      go_wp2_with fail
      refine (l_markFrontS _ p q a4 xs.length c4 1 xs _ OX7.out (by omega) (by omega) (by omega)).mono ?_
      rintro e w8 ⟨rfl, _, g8⟩
      have OG8 := Lib.hid (OG7.out.apart g8 (fun j j' hj hj' => by have := (HB4.out j' hj').2; have := (HBG.out j hj).1; omega))
      have EW8 := Lib.hid (EW7.out.grown g8 (fun j hj => by have := (HB4.out j hj).1; rw [HZ3.out]; exact this))
      have HB98 := Lib.hid (blk_grown HB97.out g8 (fun e => by have h := HB4.out _ e.symm; have := HZ5.out; omega))
      have HB68 := Lib.hid (blk_grown HB67.out g8 (fun e => by have h := HB4.out _ e.symm; omega))
      clear g8 A7 C7 OG7 OX7
      have OW8 := Lib.hid (HOW.out.ext EW8.out)
      obtain ⟨p0, p1, p2, p3, p4, p5, p6⟩ := three_cells HB98.out
      obtain ⟨q0, q1, q2, q3, q4, q5, q6⟩ := three_cells HB68.out
      go_wp2_with fail
      refine (HEQ.out _ _ _ _ _ OG8.out.opens OW8.out.opens).mono ?_
      rintro e w9 ⟨rfl, e9⟩
      have OG9 := Lib.hid (OG8.out.ext e9)
      have EW9 := Lib.hid (EW8.out.trans e9)
      have HB99 := Lib.hid (e9.block HB98.out)
      have HB69 := Lib.hid (e9.block HB68.out)
      clear e9 OG8 OW8 p0 p1 p2 p3 p4 p5 p6 q0 q1 q2 q3 q4 q5 q6
      obtain ⟨p0, p1, p2, p3, p4, p5, p6⟩ := three_cells HB99.out
      go_wp2_with fail
      refine (l_markFrontS _ L' C' ag ps.length cg 1 ps _ OG9.out (by omega) (by omega) (by omega)).mono ?_
      rintro e w10 ⟨rfl, om, g10⟩
      have HM10 := Lib.hid om
      have EW10 := Lib.hid (EW9.out.grown g10 (fun j hj => by have h := (HBG.out j hj).1; have h2 := HZ4.out.2; rw [HZ3.out]; omega))
      have HB910 := Lib.hid (blk_grown HB99.out g10 (fun e => by have h := HBG.out _ e.symm; omega))
      have HB610 := Lib.hid (blk_grown HB69.out g10 (fun e => by have h := HBG.out _ e.symm; have h2 := HZ4.out.2; omega))
      clear om g10 p0 p1 p2 p3 p4 p5 p6
      obtain ⟨p0, p1, p2, p3, p4, p5, p6⟩ := three_cells HB910.out
      go_wp2_with fail
      refine (l_heldFront L' C' ag ps.length cg 1 _ HM10.out.opens (by omega) (by omega) (by omega)).mono ?_
      rintro e w10' ⟨rfl, e10⟩
      have HM11 := Lib.hid (HM10.out.ext e10)
      have EW11 := Lib.hid (EW10.out.trans e10)
      have HB911 := Lib.hid (e10.block HB910.out)
      have HB611 := Lib.hid (e10.block HB610.out)
      obtain ⟨B1, B2, B3, B4⟩ := HA3.out.ext EW11.out
      clear e10 p0 p1 p2 p3 p4 p5 p6
      go_wp2_with fail
      refine (HA.out _ (HE3.out.trans EW11.out)).mono ?_
      rintro e w11 ⟨a11, c11, rfl, o11, e11⟩
      go_wp2_with fail
      refine (HI.out _ _ _ o11.opens o11.cap).mono ?_
      rintro e w12 ⟨ah, ch, rfl, oh, e12⟩
      have e12a := e12.alloc (.cells #[.int .i64 L', .int .i64 C', .slice ah ps.length ch] 30)
      have HM12 := Lib.hid ((HM11.out.ext e11).ext e12a)
      have EW12 := Lib.hid ((EW11.out.trans e11).trans e12a)
      have OH := Lib.hid (oh.ext ((Ext.refl w12).alloc (.cells #[.int .i64 L', .int .i64 C', .slice ah ps.length ch] 30)))
      have OW12 := Lib.hid (HOW.out.ext EW12.out)
      have HB912 := Lib.hid ((e11.trans e12a).block HB911.out)
      obtain ⟨q0, q1, q2, q3, q4, q5, q6⟩ := three_cells ((e11.trans e12a).block HB611.out)
      clear oh e11 e12 e12a o11 B1 B2 B3 B4
      go_wp2_with fail
      refine (HEQ.out _ _ _ _ _ OH.out.opens OW12.out.opens).mono ?_
      rintro e w13 ⟨rfl, e13⟩
      have HM13 := Lib.hid (HM12.out.ext e13)
      have EW13 := Lib.hid (EW12.out.trans e13)
      obtain ⟨p0, p1, p2, p3, p4, p5, p6⟩ := three_cells (e13.block HB912.out)
      clear e13 q0 q1 q2 q3 q4 q5 q6
      go_wp2_with fail
      refine (l_heldFront L' C' ag ps.length cg 1 _ HM13.out.opens (by omega) (by omega) (by omega)).mono ?_
      rintro e w13' ⟨rfl, e14⟩
      have EF := Lib.hid (HE3.out.trans (EW13.out.trans e14))
      go_wp2
      go_ret
      exact ⟨rfl, EF.out⟩
  · have hl1 : sel (decide ((n : Int) ≤ 1048576)) (1048576 - n) (-1) = -1 := by simp [sel, h1]
    have HL1 := Lib.hid hl1
    clear hl1
    go_enter Try.func6, Try.ntmps6
    go_wp2_with fail
    refine (l_szFront _ _ _ _ _ _ _ hxm (by omega) (by omega)).mono ?_
    rw [HL1.out]
    rintro e w1 ⟨rfl, e1⟩
    go_wp2
    go_ret
    exact ⟨rfl, e0.trans e1⟩

/-! ### the row's step: written by a program of mine (frame.py) after the guide's own frame -/
namespace fnExactMirrorFront
open Go.ChangeShapes Go.WideShapes Go.ChangeAt Go.RowKit Go.Joins
open Go.ChangeMaps (open_string shut_string)
set_option linter.unusedVariables false
theorem own : ownKnob Try.prog.godebug = none := by kernel_rfl
theorem laidOut : laidOutB Try.prog = true := by kernel_rfl
set_option maxRecDepth 100000 in
theorem lifted (os : Os) (started : os.Started) (H : Type) (enc : TypeId × Value → H) :
    ReturnsInHanded {} Try.checked os 6 .any (Rows.fnExactMirrorFrontSpec.pre6 enc Try.prog Try.f6 Rows.fnExactMirrorFrontRow.domain false) (Rows.fnExactMirrorFrontSpec.post enc Try.prog Try.f6 false true false false) := by
  refine returnsInHanded_of_change (C := Try.checked) own started (by kernel_rfl) Try.func6
    (ChangeSpec.witness6 (enc := enc) (C := Try.checked) false ⟨#[], #[.agg #[.int .i64 0, .int .i64 0, .slice none 0 0]], []⟩ 8 (by kernel_rfl) (by kernel_rfl) (by kernel_rfl) (by kernel_rfl)) ?_
  intro W base args ds gs before hval0 hW hcnd _
  have hval : ∀ (j : Nat) t v, Try.f6.params[j]? = some t → args[j]? = some v → Value.okWide Try.prog W .any base t v := hval0
  have hW' := hW
  obtain ⟨p, q, hA0, hV, rfl, hfz, hnd⟩ := hW
  have hA : DataW.TrodAll enc Try.prog W 0 (fun _ => true) true Try.f6.params.toList args.toList ds p := hA0
  rw [Try.params6] at hA hval
  obtain ⟨v0, vs0, d0, ds0, p0, q0, hargs, rfl, rfl, h0, r0⟩ := trodAll_cons hA
  obtain ⟨rfl, rfl, rfl⟩ := trodAll_nil r0
  obtain rfl : args = #[v0] := by cases args; simp_all
  obtain ⟨rfl, rfl⟩ := trodVars_none hV
  have k0 := h0
  have lt0 : ∀ x ∈ p0, x.block < W.heap.size := by obtain ⟨m, hm⟩ := k0; exact DataW.trod_lt m _ _ _ hm
  obtain ⟨g0, k0c, k0d, y0a, y0b, y0c, m0, rfl, rfl, rfl, t0a, t0b, t0c⟩ := open_agg3 Try.underlying24 (by kernel_rfl) (by kernel_rfl) (hval 0 24 v0 rfl rfl) h0
  obtain ⟨x0a, rfl, i0a⟩ := int_of_field Try.underlying2 ⟨_, _, t0a⟩
  obtain ⟨x0b, rfl, i0b⟩ := int_of_field Try.underlying2 ⟨_, _, t0b⟩
  obtain ⟨b0, l0, c0, z0, rfl, w0⟩ := opens_of_field Try.underlying22 Try.underlying26 (by kernel_rfl) (by kernel_rfl) Try.underlying2 Try.underlying2 Try.underlying2 Try.underlying2 ⟨_, _, t0c⟩
  clear hA0 hval0
  refine (walk_FnExactMirrorFront x0a x0b b0 l0 c0 z0 W i0a i0b w0).mono fun e W' ⟨he, bel⟩ => ?_
  subst he
  exact ⟨_, rfl, _, _, _, [], _, [], hW', trodAll_mk1 (shut_bool Try.underlying4 _), (trodAll_cons_mk (Below.trod laidOut (by kernel_rfl) (of_decide_eq_true (by kernel_rfl)) k0 bel lt0) trodAll_mk0), rfl, bel.frame _, fun h => by cases h⟩
theorem over : Rows.fnExactMirrorFrontRow.holds Try.pinned (OpenSpec.ofChange Rows.fnExactMirrorFrontSpec) :=
  OpenClaim.holds_of_wide 6 Try.f6 rfl rfl rfl rfl rfl rfl rfl ⟨rfl, rfl, rfl, rfl, rfl⟩ rfl rfl rfl rfl rfl (by kernel_rfl) Try.func6 (by kernel_rfl)
    (of_decide_eq_true (by kernel_rfl)) (by unfold Func.isWrapper; first | (rw [if_pos (by decide +kernel)]; kernel_rfl) | (rw [if_neg (by decide +kernel)]; exact ⟨rfl, rfl⟩))
    (fun os started H enc _ => lifted os started H enc)
theorem proved : Rows.FnExactMirrorFrontSaid := over
#print axioms proved
end fnExactMirrorFront
end Go.Proofs.Ytnhmcmohnpbcjaa
