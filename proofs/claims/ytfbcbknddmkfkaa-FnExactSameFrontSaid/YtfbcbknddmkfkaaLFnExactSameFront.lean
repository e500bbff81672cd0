/- For every two fronts the law FnExactSameFront answers true: the program's SameFront returns what the reference's returns, and leaves its arguments as they were. No condition. -/
import Derived.Test.YtfbcbknddmkfkaaFront1
import Derived.Test.YtfbcbknddmkfkaaOpen2
import Derived.Deep.RegionHeld3
import Derived.Deep.DeepCutAuto
namespace Go.Proofs.Ytfbcbknddmkfkaa
open Go.RowKit
set_option linter.unusedSimpArgs false
set_option linter.unusedVariables false
set_option linter.unnecessarySimpa false

theorem keepTT {w2 W W' : World} {b1 b2 : Nat} {x1 y1 z1 x2 y2 z2 : Value} (h : Three W b1 x1 y1 z1 ∧ Three W b2 x2 y2 z2 ∧ Ext w2 W) (e : Ext W W') : Three W' b1 x1 y1 z1 ∧ Three W' b2 x2 y2 z2 ∧ Ext w2 W' := ⟨h.1.ext e, h.2.1.ext e, h.2.2.trans e⟩
theorem heldTT {w2 W : World} {b1 b2 : Nat} {x1 y1 z1 x2 y2 z2 : Value} (h : Three W b1 x1 y1 z1 ∧ Three W b2 x2 y2 z2 ∧ Ext w2 W) : Ext w2 W := h.2.2
theorem own_opens_ext {w w' : World} {base n cap : Nat} {ao : Option Addr} {xs : List Opn} (h : OwnOpens w base (.slice ao n cap) xs) (e : Ext w w') : Opens w' ao n xs := h.opens.ext e

set_option maxHeartbeats 2000000 in
theorem walk_FnExactSameFront (p q : Int) (ao : Option Addr) (n c : Nat) (xs : List Opn) (r s : Int) (bo : Option Addr) (m d : Nat) (ys : List Opn) (w : World) (hp : IsI64 p) (hq : IsI64 q) (hx : Opens w ao n xs) (hr : IsI64 r) (hs : IsI64 s) (hy : Opens w bo m ys) :
    Calls Try.prog 12 #[.agg #[.int .i64 p, .int .i64 q, .slice ao n c], .agg #[.int .i64 r, .int .i64 s, .slice bo m d]] w fun e w' => e = .returned (.bool true) ∧ Below w.heap.size w w' := by
  have hxm := hx.2.1
  have hym := hy.2.1
  have e2 : Ext w ((w.alloc (.cells #[.int .i64 p, .int .i64 q, .slice ao n c] 51)).alloc (.cells #[.int .i64 r, .int .i64 s, .slice bo m d] 51)) := ((Ext.refl w).alloc _).alloc _
  by_cases h1 : (n : Int) ≤ 1048576
  · have hl1 : sel (decide ((n : Int) ≤ 1048576)) (1048576 - n) (-1) = 1048576 - n := by simp [sel, h1]
    by_cases h2 : (m : Int) ≤ 1048576 - n
    · have hl2 : sel (decide ((m : Int) ≤ 1048576 - n)) (1048576 - n - m) (-1) = 1048576 - n - m := by simp [sel, h2]
      have HL1 := Lib.hid hl1
      have HL2 := Lib.hid hl2
      clear hl1 hl2
      go_enter Try.func12, Try.ntmps12
      go_wp2_with fail
      refine (l_szFront _ _ _ _ _ _ _ hxm (by omega) (by omega)).mono ?_
      rw [HL1.out]
      rintro e w1 ⟨rfl, e1⟩
      have A := (Three.of (blk_old (blk_at w _ _ rfl)) : Three ((w.alloc (.cells #[.int .i64 p, .int .i64 q, .slice ao n c] 51)).alloc (.cells #[.int .i64 r, .int .i64 s, .slice bo m d] 51)) w.heap.size (.int .i64 p) (.int .i64 q) (.slice ao n c)).ext e1
      have B := (Three.of (blk_at (w.alloc _) _ (w.heap.size + 1) (by simp)) : Three ((w.alloc (.cells #[.int .i64 p, .int .i64 q, .slice ao n c] 51)).alloc (.cells #[.int .i64 r, .int .i64 s, .slice bo m d] 51)) (w.heap.size + 1) (.int .i64 r) (.int .i64 s) (.slice bo m d)).ext e1
      go_wp2_with fail
      refine (l_szFront _ _ _ _ _ _ _ hym (by omega) (by omega)).mono ?_
      rw [HL2.out]
      rintro e w2 ⟨rfl, e2'⟩
      replace A := A.ext e2'
      replace B := B.ext e2'
      have E2 : Ext w w2 := (e2.trans e1).trans e2'
      have X2 := hx.ext E2
      have Y2 := hy.ext E2
      have hA := fun W e => l_toFront p q ao n c xs W (X2.ext e) (by omega)
      have hB := fun W e => l_toFront r s bo m d ys W (Y2.ext e) (by omega)
      have HA := Lib.hid hA
      have HB := Lib.hid hB
      clear hp hq hr hs
      clear hA hB e1 e2' e2 hx hy X2 Y2
      go_upto_region 8 with fail
      go_cut [6] (fun v wx => v = .bool (sameF p q r s xs ys) ∧ Ext w2 wx)
      case first =>
        go_region_held3 (fun W => Three W w.heap.size (.int .i64 p) (.int .i64 q) (.slice ao n c) ∧ Three W (w.heap.size + 1) (.int .i64 r) (.int .i64 s) (.slice bo m d) ∧ Ext w2 W) (first | exact ⟨A.ext (Ext.refl _).drew, B.ext (Ext.refl _).drew, (Ext.refl _).drew⟩ | exact keepTT (by assumption) (by assumption)) (first | (go_at_call_of 43 (Value.agg #[.int .i64 p, .int .i64 q, .slice ao n c]); refine (HA.out _ ?_).mono ?_; exact heldTT (by assumption); rintro e w' ⟨a', c', rfl, o', e'⟩) | (go_at_call_of 43 (Value.agg #[.int .i64 r, .int .i64 s, .slice bo m d]); refine (HB.out _ ?_).mono ?_; exact heldTT (by assumption); rintro e w' ⟨a', c', rfl, o', e'⟩) | (go_at_call 42; refine (s_SameFront _ _ _ _ _ _ _ _ _ _ xs ys _ ?_ ?_).mono ?_; (first | exact OwnOpens.opens (by assumption) | exact own_opens_ext (by assumption) (by assumption)); (first | exact OwnOpens.opens (by assumption) | exact own_opens_ext (by assumption) (by assumption)); rintro e w' ⟨rfl, e'⟩))
        all_goals (go_wp2_with fail; go_meet; exact ⟨rfl, heldTT (by assumption)⟩)
      case rest =>
        obtain ⟨rfl, ec⟩ := hcut
        replace A := A.ext ec
        replace B := B.ext ec
        go_wp2_with fail
        refine (HA.out _ ec).mono ?_
        rintro e w3 ⟨a3, c3, rfl, o3, e3⟩
        replace A := A.ext e3
        replace B := B.ext e3
        have E3 := ec.trans e3
        clear ec e3
        go_wp2_with fail
        refine (HB.out _ (E3.alloc _)).mono ?_
        rintro e w4 ⟨a4, c4, rfl, o4, e4⟩
        have C := (Three.new w3 (.int .i64 p) (.int .i64 q) (.slice a3 xs.length c3) 56).ext e4
        have e34 : Ext w3 w4 := ((Ext.refl w3).alloc _).trans e4
        replace A := A.ext e34
        replace B := B.ext e34
        have I3 := o3.opens.ext e34
        have I4 := o4.opens
        have E4 := E3.trans e34
        clear o3 o4 e4 E3 e34
        go_wp2_with fail
        refine (i_SameFront _ _ _ _ _ _ _ _ _ _ xs ys _ (I3.ext ((Ext.refl w4).alloc _)) (I4.ext ((Ext.refl w4).alloc _))).mono ?_
        rintro e w5 ⟨rfl, e5⟩
        have D := (Three.new w4 (.int .i64 r) (.int .i64 s) (.slice a4 ys.length c4) 56).ext e5
        have e45 : Ext w4 w5 := ((Ext.refl w4).alloc _).trans e5
        replace A := A.ext e45
        replace B := B.ext e45
        replace C := C.ext e45
        have J3 := I3.ext e45
        have J4 := I4.ext e45
        have E5 := E4.trans e45
        clear I3 I4 e5 E4 e45
        have hQ1 := fun W e a' c' o' => l_eqFront p q p q a3 a' xs.length xs.length c3 c' xs xs W (J3.ext e) o'
        have hQ2 := fun W e a' c' o' => l_eqFront r s r s a4 a' ys.length ys.length c4 c' ys ys W (J4.ext e) o'
        have hb1 : sameF p q p q xs xs = true := by simp [sameF]
        have hb2 : sameF r s r s ys ys = true := by simp [sameF]
        rw [hb1] at hQ1
        rw [hb2] at hQ2
        have HQ1 := Lib.hid hQ1
        have HQ2 := Lib.hid hQ2
        clear hQ1 hQ2 hb1 hb2
        go_upto_region 14 with fail
        go_cut [39] (fun v wx => v = .bool false ∧ Ext w5 wx)
        case first =>
          go_region_held3 (fun W => Three W w.heap.size (.int .i64 p) (.int .i64 q) (.slice ao n c) ∧ Three W w3.heap.size (.int .i64 p) (.int .i64 q) (.slice a3 xs.length c3) ∧ Ext w5 W) (first | exact ⟨A.ext (Ext.refl _).drew, C.ext (Ext.refl _).drew, (Ext.refl _).drew⟩ | exact keepTT (by assumption) (by assumption)) (first | (go_at_call 43; refine (HA.out _ ?_).mono ?_; exact E5.trans (heldTT (by assumption)); rintro e w' ⟨a', c', rfl, o', e'⟩) | (go_at_call 45; refine (HQ1.out _ ?_ _ _ ?_).mono ?_; exact heldTT (by assumption); exact OwnOpens.opens (by assumption); rintro e w' ⟨rfl, e'⟩))
          all_goals (go_wp2_with fail; go_meet; exact ⟨rfl, heldTT (by assumption)⟩)
        case rest =>
          obtain ⟨rfl, ec2⟩ := hcut
          replace A := A.ext ec2
          replace B := B.ext ec2
          replace C := C.ext ec2
          replace D := D.ext ec2
          go_upto_region 16 with fail
          go_cut [44] (fun v wy => v = .bool false ∧ Ext w5 wy)
          case first =>
            go_region_held3 (fun W => Three W (w.heap.size + 1) (.int .i64 r) (.int .i64 s) (.slice bo m d) ∧ Three W w4.heap.size (.int .i64 r) (.int .i64 s) (.slice a4 ys.length c4) ∧ Ext w5 W) (first | exact ⟨B.ext (Ext.refl _).drew, D.ext (Ext.refl _).drew, ec2.drew⟩ | exact keepTT (by assumption) (by assumption)) (first | (go_at_call 43; refine (HB.out _ ?_).mono ?_; exact E5.trans (heldTT (by assumption)); rintro e w' ⟨a', c', rfl, o', e'⟩) | (go_at_call 45; refine (HQ2.out _ ?_ _ _ ?_).mono ?_; exact heldTT (by assumption); exact OwnOpens.opens (by assumption); rintro e w' ⟨rfl, e'⟩))
            all_goals (go_wp2_with fail; go_meet; exact ⟨rfl, heldTT (by assumption)⟩)
          case rest =>
            obtain ⟨rfl, ec3⟩ := hcut
            go_wp2
            go_ret
            exact ⟨rfl, (E2.trans E5).trans ec3⟩
    · have hl2 : sel (decide ((m : Int) ≤ 1048576 - n)) (1048576 - n - m) (-1) = -1 := by simp [sel]; omega
      have HL1 := Lib.hid hl1
      have HL2 := Lib.hid hl2
      clear hl1 hl2
      go_enter Try.func12, Try.ntmps12
      go_wp2_with fail
      refine (l_szFront _ _ _ _ _ _ _ hxm (by omega) (by omega)).mono ?_
      rw [HL1.out]
      rintro e w1 ⟨rfl, e1⟩
      have B := (Three.of (blk_at (w.alloc _) _ (w.heap.size + 1) (by simp)) : Three ((w.alloc (.cells #[.int .i64 p, .int .i64 q, .slice ao n c] 51)).alloc (.cells #[.int .i64 r, .int .i64 s, .slice bo m d] 51)) (w.heap.size + 1) (.int .i64 r) (.int .i64 s) (.slice bo m d)).ext e1
      go_wp2_with fail
      refine (l_szFront _ _ _ _ _ _ _ hym (by omega) (by omega)).mono ?_
      rw [HL2.out]
      rintro e w2 ⟨rfl, e2'⟩
      go_wp2
      go_ret
      exact ⟨rfl, (e2.trans e1).trans e2'⟩
  · have hl1 : sel (decide ((n : Int) ≤ 1048576)) (1048576 - n) (-1) = -1 := by simp [sel]; omega
    have HL1 := Lib.hid hl1
    clear hl1
    go_enter Try.func12, Try.ntmps12
    go_wp2_with fail
    refine (l_szFront _ _ _ _ _ _ _ hxm (by omega) (by omega)).mono ?_
    rw [HL1.out]
    rintro e w1 ⟨rfl, e1⟩
    go_wp2
    go_ret
    exact ⟨rfl, e2.trans e1⟩

/-! ### the row's step: written by a program of mine (frame.py) after the guide's own frame -/
namespace fnExactSameFront
open Go.ChangeShapes Go.WideShapes Go.ChangeAt Go.RowKit Go.Joins
open Go.ChangeMaps (open_string shut_string)
set_option linter.unusedVariables false
theorem own : ownKnob Try.prog.godebug = none := by kernel_rfl
theorem laidOut : laidOutB Try.prog = true := by kernel_rfl
set_option maxRecDepth 100000 in
theorem lifted (os : Os) (started : os.Started) (H : Type) (enc : TypeId × Value → H) :
    ReturnsInHanded {} Try.checked os 12 .any (Rows.fnExactSameFrontSpec.pre6 enc Try.prog Try.f12 Rows.fnExactSameFrontRow.domain false) (Rows.fnExactSameFrontSpec.post enc Try.prog Try.f12 false true false false) := by
  refine returnsInHanded_of_change (C := Try.checked) own started (by kernel_rfl) Try.func12
    (ChangeSpec.witness6 (enc := enc) (C := Try.checked) false ⟨#[], #[.agg #[.int .i64 0, .int .i64 0, .slice none 0 0], .agg #[.int .i64 0, .int .i64 0, .slice none 0 0]], []⟩ 8 (by kernel_rfl) (by kernel_rfl) (by kernel_rfl) (by kernel_rfl)) ?_
  intro W base args ds gs before hval0 hW hcnd _
  have hval : ∀ (j : Nat) t v, Try.f12.params[j]? = some t → args[j]? = some v → Value.okWide Try.prog W .any base t v := hval0
  have hW' := hW
  obtain ⟨p, q, hA0, hV, rfl, hfz, hnd⟩ := hW
  have hA : DataW.TrodAll enc Try.prog W 0 (fun _ => true) true Try.f12.params.toList args.toList ds p := hA0
  rw [Try.params12] at hA hval
  obtain ⟨v0, vs0, d0, ds0, p0, q0, hargs, rfl, rfl, h0, r0⟩ := trodAll_cons hA
  obtain ⟨v1, vs1, d1, ds1, p1, q1, rfl, rfl, rfl, h1, r1⟩ := trodAll_cons r0
  obtain ⟨rfl, rfl, rfl⟩ := trodAll_nil r1
  obtain rfl : args = #[v0, v1] := by cases args; simp_all
  obtain ⟨rfl, rfl⟩ := trodVars_none hV
  have k0 := h0
  have lt0 : ∀ x ∈ p0, x.block < W.heap.size := by obtain ⟨m, hm⟩ := k0; exact DataW.trod_lt m _ _ _ hm
  have k1 := h1
  have lt1 : ∀ x ∈ p1, x.block < W.heap.size := by obtain ⟨m, hm⟩ := k1; exact DataW.trod_lt m _ _ _ hm
  obtain ⟨g0, k0c, k0d, y0a, y0b, y0c, m0, rfl, rfl, rfl, t0a, t0b, t0c⟩ := open_agg3 Try.underlying51 (by kernel_rfl) (by kernel_rfl) (hval 0 51 v0 rfl rfl) h0
  obtain ⟨x0a, rfl, i0a⟩ := int_of_field Try.underlying2 ⟨_, _, t0a⟩
  obtain ⟨x0b, rfl, i0b⟩ := int_of_field Try.underlying2 ⟨_, _, t0b⟩
  obtain ⟨b0, l0, c0, z0, rfl, w0⟩ := opens_of_field Try.underlying49 Try.underlying82 (by kernel_rfl) (by kernel_rfl) Try.underlying2 Try.underlying2 Try.underlying2 Try.underlying2 ⟨_, _, t0c⟩
  obtain ⟨g1, k1c, k1d, y1a, y1b, y1c, m1, rfl, rfl, rfl, t1a, t1b, t1c⟩ := open_agg3 Try.underlying51 (by kernel_rfl) (by kernel_rfl) (hval 1 51 v1 rfl rfl) h1
  obtain ⟨x1a, rfl, i1a⟩ := int_of_field Try.underlying2 ⟨_, _, t1a⟩
  obtain ⟨x1b, rfl, i1b⟩ := int_of_field Try.underlying2 ⟨_, _, t1b⟩
  obtain ⟨b1, l1, c1, z1, rfl, w1⟩ := opens_of_field Try.underlying49 Try.underlying82 (by kernel_rfl) (by kernel_rfl) Try.underlying2 Try.underlying2 Try.underlying2 Try.underlying2 ⟨_, _, t1c⟩
  clear hA0 hval0
  refine (walk_FnExactSameFront x0a x0b b0 l0 c0 z0 x1a x1b b1 l1 c1 z1 W i0a i0b w0 i1a i1b w1).mono fun e W' ⟨he, bel⟩ => ?_
  subst he
  exact ⟨_, rfl, _, _, _, [], _, [], hW', trodAll_mk1 (shut_bool Try.underlying4 _), (trodAll_cons_mk (Below.trod laidOut (by kernel_rfl) (of_decide_eq_true (by kernel_rfl)) k0 bel lt0) (trodAll_cons_mk (Below.trod laidOut (by kernel_rfl) (of_decide_eq_true (by kernel_rfl)) k1 bel lt1) trodAll_mk0)), rfl, bel.frame _, fun h => by cases h⟩
theorem over : Rows.fnExactSameFrontRow.holds Try.pinned (OpenSpec.ofChange Rows.fnExactSameFrontSpec) :=
  OpenClaim.holds_of_wide 12 Try.f12 rfl rfl rfl rfl rfl rfl rfl ⟨rfl, rfl, rfl, rfl, rfl⟩ rfl rfl rfl rfl rfl (by kernel_rfl) Try.func12 (by kernel_rfl)
    (of_decide_eq_true (by kernel_rfl)) (by unfold Func.isWrapper; first | (rw [if_pos (by decide +kernel)]; kernel_rfl) | (rw [if_neg (by decide +kernel)]; exact ⟨rfl, rfl⟩))
    (fun os started H enc _ => lifted os started H enc)
theorem proved : Rows.FnExactSameFrontSaid := over
#print axioms proved
end fnExactSameFront
end Go.Proofs.Ytfbcbknddmkfkaa
