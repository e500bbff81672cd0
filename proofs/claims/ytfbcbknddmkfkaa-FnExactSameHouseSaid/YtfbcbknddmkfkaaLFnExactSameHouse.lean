/- For every two plans the law FnExactSameHouse answers true: the program's SameHouse returns what the reference's returns, and leaves its arguments as they were. No condition. -/
import Derived.Test.YtfbcbknddmkfkaaHouse0
import Derived.Test.YtfbcbknddmkfkaaOpen
import Derived.Deep.RegionHeld3
import Derived.Deep.DeepCutAuto
namespace Go.Proofs.Ytfbcbknddmkfkaa
open Go.RowKit
set_option linter.unusedSimpArgs false
set_option linter.unusedVariables false
set_option linter.unnecessarySimpa false

theorem keepTT {w2 W W' : World} {b1 b2 : Nat} {x1 y1 x2 y2 : Value} (h : Two W b1 x1 y1 ∧ Two W b2 x2 y2 ∧ Ext w2 W) (e : Ext W W') : Two W' b1 x1 y1 ∧ Two W' b2 x2 y2 ∧ Ext w2 W' := ⟨h.1.ext e, h.2.1.ext e, h.2.2.trans e⟩
theorem heldTT {w2 W : World} {b1 b2 : Nat} {x1 y1 x2 y2 : Value} (h : Two W b1 x1 y1 ∧ Two W b2 x2 y2 ∧ Ext w2 W) : Ext w2 W := h.2.2
theorem own_ints_ext {E : TypeId} {w w' : World} {base n cap : Nat} {ao : Option Addr} {xs : List Int} (h : OwnInts E w base (.slice ao n cap) xs) (e : Ext w w') : Ints w' ao n xs := h.ints.ext e

set_option maxHeartbeats 2000000 in
theorem walk_FnExactSameHouse (ao : Option Addr) (n c : Nat) (xs : List Int) (s : ByteArray) (bo : Option Addr) (m d : Nat) (ys : List Int) (t : ByteArray) (w : World) (hx : Ints w ao n xs) (hs : s.size ≤ maxLen) (hy : Ints w bo m ys) (ht : t.size ≤ maxLen) :
    Calls Try.prog 8 #[.agg #[.slice ao n c, .string s], .agg #[.slice bo m d, .string t]] w fun e w' => e = .returned (.bool true) ∧ Below w.heap.size w w' := by
  have hs' : s.size ≤ 9223372036854775807 := by unfold maxLen at hs; omega
  have ht' : t.size ≤ 9223372036854775807 := by unfold maxLen at ht; omega
  have hxm := hx.2.1
  have hym := hy.2.1
  have e2 : Ext w ((w.alloc (.cells #[.slice ao n c, .string s] 40)).alloc (.cells #[.slice bo m d, .string t] 40)) := ((Ext.refl w).alloc _).alloc _
  by_cases h1 : n + s.size ≤ 1048576
  · have hl1 : leftH 1048576 n s.size = 1048576 - n - s.size := by unfold leftH; rw [if_pos (by omega)]
    by_cases h2 : m + t.size ≤ 1048576 - n - s.size
    · have hl2 : leftH (1048576 - n - s.size) m t.size = 1048576 - n - s.size - m - t.size := by unfold leftH; rw [if_pos (by omega)]
      have HL1 := Lib.hid hl1
      have HL2 := Lib.hid hl2
      clear hl1 hl2
      go_enter Try.func8, Try.ntmps8
      go_wp2_with fail
      refine (l_szHouse _ _ _ _ _ _ hxm hs' (by omega) (by omega)).mono ?_
      rw [HL1.out]
      rintro e w1 ⟨rfl, e1⟩
      have A := (Two.of (blk_old (blk_at w _ _ rfl)) : Two ((w.alloc (.cells #[.slice ao n c, .string s] 40)).alloc (.cells #[.slice bo m d, .string t] 40)) w.heap.size (.slice ao n c) (.string s)).ext e1
      have B := (Two.of (blk_at (w.alloc _) _ (w.heap.size + 1) (by simp)) : Two ((w.alloc (.cells #[.slice ao n c, .string s] 40)).alloc (.cells #[.slice bo m d, .string t] 40)) (w.heap.size + 1) (.slice bo m d) (.string t)).ext e1
      go_wp2_with fail
      refine (l_szHouse _ _ _ _ _ _ hym ht' (by omega) (by omega)).mono ?_
      rw [HL2.out]
      rintro e w2 ⟨rfl, e2'⟩
      replace A := A.ext e2'
      replace B := B.ext e2'
      have E2 : Ext w w2 := (e2.trans e1).trans e2'
      have X2 := hx.ext E2
      have Y2 := hy.ext E2
      have hA := fun W e => l_toHouse ao n c xs s W (X2.ext e) (by omega)
      have hB := fun W e => l_toHouse bo m d ys t W (Y2.ext e) (by omega)
      have HA := Lib.hid hA
      have HB := Lib.hid hB
      clear hA hB e1 e2' e2 hx hy X2 Y2
      go_upto_region 8 with fail
      go_cut [6] (fun v wx => v = .bool (sameH xs ys s t) ∧ Ext w2 wx)
      case first =>
        go_region_held3 (fun W => Two W w.heap.size (.slice ao n c) (.string s) ∧ Two W (w.heap.size + 1) (.slice bo m d) (.string t) ∧ Ext w2 W) (first | exact ⟨A.ext (Ext.refl _).drew, B.ext (Ext.refl _).drew, (Ext.refl _).drew⟩ | exact keepTT (by assumption) (by assumption)) (first | (go_at_call_of 32 (Value.agg #[.slice ao n c, .string s]); refine (HA.out _ ?_).mono ?_; exact heldTT (by assumption); rintro e w' ⟨a', c', rfl, o', e'⟩) | (go_at_call_of 32 (Value.agg #[.slice bo m d, .string t]); refine (HB.out _ ?_).mono ?_; exact heldTT (by assumption); rintro e w' ⟨a', c', rfl, o', e'⟩) | (go_at_call 31; refine (s_SameHouse _ _ _ _ _ _ xs ys s t _ ?_ ?_).mono ?_; (first | exact OwnInts.ints (by assumption) | exact own_ints_ext (by assumption) (by assumption)); (first | exact OwnInts.ints (by assumption) | exact own_ints_ext (by assumption) (by assumption)); rintro e w' ⟨rfl, e'⟩))
        all_goals (go_wp2_with fail; go_meet; exact ⟨rfl, heldTT (by assumption)⟩)
      case rest =>
        obtain ⟨rfl, ec⟩ := hcut
        replace A := A.ext ec
        replace B := B.ext ec
        go_wp2_with fail
        refine (HA.out _ ec).mono ?_
        rintro e w3 ⟨a3, c3, rfl, o3, e3⟩
        replace A := A.ext e3
        replace B := B.ext e3
        have E3 := ec.trans e3
        clear ec e3
        go_wp2_with fail
        refine (HB.out _ (E3.alloc _)).mono ?_
        rintro e w4 ⟨a4, c4, rfl, o4, e4⟩
        have C := (Two.new w3 (.slice a3 xs.length c3) (.string s) 43).ext e4
        have e34 : Ext w3 w4 := ((Ext.refl w3).alloc _).trans e4
        replace A := A.ext e34
        replace B := B.ext e34
        have I3 := o3.ints.ext e34
        have I4 := o4.ints
        have E4 := E3.trans e34
        clear o3 o4 e4 E3 e34
        go_wp2_with fail
        refine (i_SameHouse _ _ _ _ _ _ xs ys s t _ (I3.ext ((Ext.refl w4).alloc _)) (I4.ext ((Ext.refl w4).alloc _))).mono ?_
        rintro e w5 ⟨rfl, e5⟩
        have D := (Two.new w4 (.slice a4 ys.length c4) (.string t) 43).ext e5
        have e45 : Ext w4 w5 := ((Ext.refl w4).alloc _).trans e5
        replace A := A.ext e45
        replace B := B.ext e45
        replace C := C.ext e45
        have J3 := I3.ext e45
        have J4 := I4.ext e45
        have E5 := E4.trans e45
        clear I3 I4 e5 E4 e45
        have hQ1 := fun W e a' c' o' => l_eqHouse a3 a' xs.length xs.length c3 c' xs xs s s W (J3.ext e) o'
        have hQ2 := fun W e a' c' o' => l_eqHouse a4 a' ys.length ys.length c4 c' ys ys t t W (J4.ext e) o'
        have hb1 : (xs == xs && decide (s = s)) = true := by simp
        have hb2 : (ys == ys && decide (t = t)) = true := by simp
        rw [hb1] at hQ1
        rw [hb2] at hQ2
        have HQ1 := Lib.hid hQ1
        have HQ2 := Lib.hid hQ2
        clear hQ1 hQ2 hb1 hb2
        go_upto_region 14 with fail
        go_cut [39] (fun v wx => v = .bool false ∧ Ext w5 wx)
        case first =>
          go_region_held3 (fun W => Two W w.heap.size (.slice ao n c) (.string s) ∧ Two W w3.heap.size (.slice a3 xs.length c3) (.string s) ∧ Ext w5 W) (first | exact ⟨A.ext (Ext.refl _).drew, C.ext (Ext.refl _).drew, (Ext.refl _).drew⟩ | exact keepTT (by assumption) (by assumption)) (first | (go_at_call 32; refine (HA.out _ ?_).mono ?_; exact E5.trans (heldTT (by assumption)); rintro e w' ⟨a', c', rfl, o', e'⟩) | (go_at_call 34; refine (HQ1.out _ ?_ _ _ ?_).mono ?_; exact heldTT (by assumption); exact OwnInts.ints (by assumption); rintro e w' ⟨rfl, e'⟩))
          all_goals (go_wp2_with fail; go_meet; exact ⟨rfl, heldTT (by assumption)⟩)
        case rest =>
          obtain ⟨rfl, ec2⟩ := hcut
          replace A := A.ext ec2
          replace B := B.ext ec2
          replace C := C.ext ec2
          replace D := D.ext ec2
          go_upto_region 16 with fail
          go_cut [44] (fun v wy => v = .bool false ∧ Ext w5 wy)
          case first =>
            go_region_held3 (fun W => Two W (w.heap.size + 1) (.slice bo m d) (.string t) ∧ Two W w4.heap.size (.slice a4 ys.length c4) (.string t) ∧ Ext w5 W) (first | exact ⟨B.ext (Ext.refl _).drew, D.ext (Ext.refl _).drew, ec2.drew⟩ | exact keepTT (by assumption) (by assumption)) (first | (go_at_call 32; refine (HB.out _ ?_).mono ?_; exact E5.trans (heldTT (by assumption)); rintro e w' ⟨a', c', rfl, o', e'⟩) | (go_at_call 34; refine (HQ2.out _ ?_ _ _ ?_).mono ?_; exact heldTT (by assumption); exact OwnInts.ints (by assumption); rintro e w' ⟨rfl, e'⟩))
            all_goals (go_wp2_with fail; go_meet; exact ⟨rfl, heldTT (by assumption)⟩)
          case rest =>
            obtain ⟨rfl, ec3⟩ := hcut
            go_wp2
            go_ret
            exact ⟨rfl, (E2.trans E5).trans ec3⟩
    · have hl2 : leftH (1048576 - n - s.size) m t.size = -1 := by unfold leftH; rw [if_neg (by omega)]
      have HL1 := Lib.hid hl1
      have HL2 := Lib.hid hl2
      clear hl1 hl2
      go_enter Try.func8, Try.ntmps8
      go_wp2_with fail
      refine (l_szHouse _ _ _ _ _ _ hxm hs' (by omega) (by omega)).mono ?_
      rw [HL1.out]
      rintro e w1 ⟨rfl, e1⟩
      have B := (Two.of (blk_at (w.alloc _) _ (w.heap.size + 1) (by simp)) : Two ((w.alloc (.cells #[.slice ao n c, .string s] 40)).alloc (.cells #[.slice bo m d, .string t] 40)) (w.heap.size + 1) (.slice bo m d) (.string t)).ext e1
      go_wp2_with fail
      refine (l_szHouse _ _ _ _ _ _ hym ht' (by omega) (by omega)).mono ?_
      rw [HL2.out]
      rintro e w2 ⟨rfl, e2'⟩
      go_wp2
      go_ret
      exact ⟨rfl, (e2.trans e1).trans e2'⟩
  · have hl1 : leftH 1048576 n s.size = -1 := by unfold leftH; rw [if_neg (by omega)]
    have HL1 := Lib.hid hl1
    clear hl1
    go_enter Try.func8, Try.ntmps8
    go_wp2_with fail
    refine (l_szHouse _ _ _ _ _ _ hxm hs' (by omega) (by omega)).mono ?_
    rw [HL1.out]
    rintro e w1 ⟨rfl, e1⟩
    go_wp2
    go_ret
    exact ⟨rfl, e2.trans e1⟩

/-! ### the row's step: written by a program of mine (frame.py) after the guide's own frame -/
namespace fnExactSameHouse
open Go.ChangeShapes Go.WideShapes Go.ChangeAt Go.RowKit Go.Joins
open Go.ChangeMaps (open_string shut_string)
set_option linter.unusedVariables false
theorem own : ownKnob Try.prog.godebug = none := by kernel_rfl
theorem laidOut : laidOutB Try.prog = true := by kernel_rfl
set_option maxRecDepth 100000 in
theorem lifted (os : Os) (started : os.Started) (H : Type) (enc : TypeId × Value → H) :
    ReturnsInHanded {} Try.checked os 8 .any (Rows.fnExactSameHouseSpec.pre6 enc Try.prog Try.f8 Rows.fnExactSameHouseRow.domain false) (Rows.fnExactSameHouseSpec.post enc Try.prog Try.f8 false true false false) := by
  refine returnsInHanded_of_change (C := Try.checked) own started (by kernel_rfl) Try.func8
    (ChangeSpec.witness6 (enc := enc) (C := Try.checked) false ⟨#[], #[.agg #[.slice none 0 0, .string ByteArray.empty], .agg #[.slice none 0 0, .string ByteArray.empty]], []⟩ 8 (by kernel_rfl) (by kernel_rfl) (by kernel_rfl) (by kernel_rfl)) ?_
  intro W base args ds gs before hval0 hW hcnd _
  have hval : ∀ (j : Nat) t v, Try.f8.params[j]? = some t → args[j]? = some v → Value.okWide Try.prog W .any base t v := hval0
  have hW' := hW
  obtain ⟨p, q, hA0, hV, rfl, hfz, hnd⟩ := hW
  have hA : DataW.TrodAll enc Try.prog W 0 (fun _ => true) true Try.f8.params.toList args.toList ds p := hA0
  rw [Try.params8] at hA hval
  obtain ⟨v0, vs0, d0, ds0, p0, q0, hargs, rfl, rfl, h0, r0⟩ := trodAll_cons hA
  obtain ⟨v1, vs1, d1, ds1, p1, q1, rfl, rfl, rfl, h1, r1⟩ := trodAll_cons r0
  obtain ⟨rfl, rfl, rfl⟩ := trodAll_nil r1
  obtain rfl : args = #[v0, v1] := by cases args; simp_all
  obtain ⟨rfl, rfl⟩ := trodVars_none hV
  have k0 := h0
  have lt0 : ∀ x ∈ p0, x.block < W.heap.size := by obtain ⟨m, hm⟩ := k0; exact DataW.trod_lt m _ _ _ hm
  have k1 := h1
  have lt1 : ∀ x ∈ p1, x.block < W.heap.size := by obtain ⟨m, hm⟩ := k1; exact DataW.trod_lt m _ _ _ hm
  obtain ⟨g0, k0c, y0a, y0b, m0, rfl, rfl, rfl, t0a, t0b⟩ := open_agg2 Try.underlying40 (by kernel_rfl) (by kernel_rfl) (hval 0 40 v0 rfl rfl) h0
  obtain ⟨b0, l0, c0, z0, rfl, w0⟩ := ints_of_field Try.underlying25 Try.underlying2 (by kernel_rfl) ⟨_, _, t0a⟩
  obtain ⟨a0, rfl, u0⟩ := str_of_field Try.underlying9 ⟨_, _, t0b⟩
  obtain ⟨g1, k1c, y1a, y1b, m1, rfl, rfl, rfl, t1a, t1b⟩ := open_agg2 Try.underlying40 (by kernel_rfl) (by kernel_rfl) (hval 1 40 v1 rfl rfl) h1
  obtain ⟨b1, l1, c1, z1, rfl, w1⟩ := ints_of_field Try.underlying25 Try.underlying2 (by kernel_rfl) ⟨_, _, t1a⟩
  obtain ⟨a1, rfl, u1⟩ := str_of_field Try.underlying9 ⟨_, _, t1b⟩
  clear hA0 hval0
  refine (walk_FnExactSameHouse b0 l0 c0 z0 a0 b1 l1 c1 z1 a1 W w0 u0 w1 u1).mono fun e W' ⟨he, bel⟩ => ?_
  subst he
  exact ⟨_, rfl, _, _, _, [], _, [], hW', trodAll_mk1 (shut_bool Try.underlying4 _), (trodAll_cons_mk (Below.trod laidOut (by kernel_rfl) (of_decide_eq_true (by kernel_rfl)) k0 bel lt0) (trodAll_cons_mk (Below.trod laidOut (by kernel_rfl) (of_decide_eq_true (by kernel_rfl)) k1 bel lt1) trodAll_mk0)), rfl, bel.frame _, fun h => by cases h⟩
theorem over : Rows.fnExactSameHouseRow.holds Try.pinned (OpenSpec.ofChange Rows.fnExactSameHouseSpec) :=
  OpenClaim.holds_of_wide 8 Try.f8 rfl rfl rfl rfl rfl rfl rfl ⟨rfl, rfl, rfl, rfl, rfl⟩ rfl rfl rfl rfl rfl (by kernel_rfl) Try.func8 (by kernel_rfl)
    (of_decide_eq_true (by kernel_rfl)) (by unfold Func.isWrapper; first | (rw [if_pos (by decide +kernel)]; kernel_rfl) | (rw [if_neg (by decide +kernel)]; exact ⟨rfl, rfl⟩))
    (fun os started H enc _ => lifted os started H enc)
theorem proved : Rows.FnExactSameHouseSaid := over
#print axioms proved
end fnExactSameHouse
end Go.Proofs.Ytfbcbknddmkfkaa
