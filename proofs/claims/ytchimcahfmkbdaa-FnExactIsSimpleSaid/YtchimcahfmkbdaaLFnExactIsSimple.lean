/- For every plan of a house the law FnExactIsSimple answers true: the program's IsSimple returns what the reference's returns, and leaves its argument as it was. No condition. -/
import Derived.Test.YtchimcahfmkbdaaHouse11
import Derived.Test.YtchimcahfmkbdaaOpen
import Derived.Deep.RegionHeld3
import Derived.Deep.DeepCutAuto
namespace Go.Proofs.Ytchimcahfmkbdaa
open Go.RowKit
set_option linter.unusedSimpArgs false
set_option linter.unusedVariables false
set_option linter.unnecessarySimpa false

theorem keepTT {w2 W W' : World} {b1 b2 : Nat} {x1 y1 x2 y2 : Value} (h : Two W b1 x1 y1 ∧ Two W b2 x2 y2 ∧ Ext w2 W) (e : Ext W W') : Two W' b1 x1 y1 ∧ Two W' b2 x2 y2 ∧ Ext w2 W' := ⟨h.1.ext e, h.2.1.ext e, h.2.2.trans e⟩
theorem heldTT {w2 W : World} {b1 b2 : Nat} {x1 y1 x2 y2 : Value} (h : Two W b1 x1 y1 ∧ Two W b2 x2 y2 ∧ Ext w2 W) : Ext w2 W := h.2.2

set_option maxHeartbeats 2000000 in
theorem walk_FnExactIsSimple (ao : Option Addr) (n c : Nat) (xs : List Int) (s : ByteArray) (w : World) (hx : Ints w ao n xs) (hs : s.size ≤ maxLen) :
    Calls Try.prog 9 #[.agg #[.slice ao n c, .string s]] w fun e w' => e = .returned (.bool true) ∧ Below w.heap.size w w' := by
  have hs' : s.size ≤ 9223372036854775807 := by unfold maxLen at hs; omega
  have hxm := hx.2.1
  have hxl := hx.1
  have e0 : Ext w (w.alloc (.cells #[.slice ao n c, .string s] 24)) := (Ext.refl w).alloc _
  by_cases h1 : n + s.size ≤ 1048576
  · have hl1 : leftH 1048576 n s.size = 1048576 - n - s.size := by unfold leftH; rw [if_pos (by omega)]
    have HL1 := Lib.hid hl1
    have hA := fun W (e : Ext w W) => l_toHouse ao n c xs s W (hx.ext e) (by omega)
    have HA := Lib.hid hA
    have hS := fun ao c W (h : Ints W ao xs.length xs) => s_IsSimple ao xs.length c xs s W h (by omega)
    have hI := fun ao c W (h : Ints W ao xs.length xs) (hc : xs.length ≤ c) => i_IsSimple ao xs.length c xs s W h (by omega)
    obtain ⟨r0, r1, hv⟩ : ∃ (r0 : Bool) (r1 : Int), Value.tuple #[.bool (simpH xs (bts s) xs.length), .int .i64 (sel (validH xs (bts s)) 0 1)] = Value.tuple #[.bool r0, .int .i64 r1] := ⟨_, _, rfl⟩
    rw [hv] at hS hI
    have HS := Lib.hid hS
    have HI := Lib.hid hI
    clear hl1 hA hS hI hv hxl
    go_enter Try.func9, Try.ntmps9
    go_wp2_with fail
    refine (l_szHouse _ _ _ _ _ _ hxm hs' (by omega) (by omega)).mono ?_
    rw [HL1.out]
    rintro e w1 ⟨rfl, e1⟩
    have A := (Two.new w (.slice ao n c) (.string s) 24).ext e1
    have E1 := e0.trans e1
    clear e0 e1 hx
    go_wp2_with fail
    refine (HA.out _ E1).mono ?_
    rintro e w2 ⟨a2, c2, rfl, o2, e2⟩
    replace A := A.ext e2
    go_wp2_with fail
    refine (HS.out _ _ _ o2.ints).mono ?_
    rintro e w3 ⟨rfl, e3⟩
    replace A := A.ext e3
    have E3 := (E1.trans e2).trans e3
    clear E1 e2 e3 o2
    go_wp2_with fail
    refine (HA.out _ E3).mono ?_
    rintro e w4 ⟨a4, c4, rfl, o4, e4⟩
    replace A := A.ext (e4.alloc (.cells #[.slice a4 xs.length c4, .string s] 27))
    have E4 := E3.trans (e4.alloc (.cells #[.slice a4 xs.length c4, .string s] 27))
    have HO := Lib.hid (o4.ints.ext ((Ext.refl _).alloc (.cells #[.slice a4 xs.length c4, .string s] 27)))
    have HC4 := Lib.hid (ints_cap o4)
    have C := Two.new w4 (.slice a4 xs.length c4) (.string s) 27
    clear E3 e4 o4
    go_wp2_with fail
    refine (HI.out _ _ _ HO.out HC4.out).mono ?_
    rintro e w5 ⟨rfl, e5⟩
    replace A := A.ext e5
    replace C := C.ext e5
    have E5 := E4.trans e5
    have HQ1 : Hid (∀ W, Ext w5 W → ∀ bo d, Ints W bo xs.length xs → Calls Try.prog 18 #[.agg #[.slice a4 xs.length c4, .string s], .agg #[.slice bo xs.length d, .string s]] W (RetE (.bool true) W)) := Lib.hid (fun W e bo d h => by
      have := l_eqHouse a4 bo xs.length xs.length c4 d xs xs s s W ((HO.out.ext e5).ext e) h
      rwa [show (xs == xs && decide (s = s)) = true by simp] at this)
    clear E4 e5
    go_upto_region 10 with fail
    go_region_held3 (fun W => Two W w.heap.size (.slice ao n c) (.string s) ∧ Two W w4.heap.size (.slice a4 xs.length c4) (.string s) ∧ Ext w5 W) (first | exact ⟨A.ext (Ext.refl _).drew, C.ext (Ext.refl _).drew, (Ext.refl _).drew⟩ | exact keepTT (by assumption) (by assumption)) (first | (go_at_call 16; refine (HA.out _ ?_).mono ?_; exact E5.trans (heldTT (by assumption)); rintro e w' ⟨a', c', rfl, o', e'⟩) | (go_at_call 18; refine (HQ1.out _ ?_ _ _ ?_).mono ?_; exact heldTT (by assumption); exact OwnInts.ints (by assumption); rintro e w' ⟨rfl, e'⟩))
    all_goals
      have hfin := E5.trans (heldTT (by assumption))
      go_wp2
      go_ret
      exact ⟨rfl, hfin⟩
  · have hl1 : leftH 1048576 n s.size = -1 := by unfold leftH; rw [if_neg (by omega)]
    have HL1 := Lib.hid hl1
    clear hl1
    go_enter Try.func9, Try.ntmps9
    go_wp2_with fail
    refine (l_szHouse _ _ _ _ _ _ hxm hs' (by omega) (by omega)).mono ?_
    rw [HL1.out]
    rintro e w1 ⟨rfl, e1⟩
    go_wp2
    go_ret
    exact ⟨rfl, e0.trans e1⟩

/-! ### the row's step: written by a program of mine (frame.py) after the guide's own frame -/
namespace fnExactIsSimple
open Go.ChangeShapes Go.WideShapes Go.ChangeAt Go.RowKit Go.Joins
open Go.ChangeMaps (open_string shut_string)
set_option linter.unusedVariables false
theorem own : ownKnob Try.prog.godebug = none := by kernel_rfl
theorem laidOut : laidOutB Try.prog = true := by kernel_rfl
set_option maxRecDepth 100000 in
theorem lifted (os : Os) (started : os.Started) (H : Type) (enc : TypeId × Value → H) :
    ReturnsInHanded {} Try.checked os 9 .any (Rows.fnExactIsSimpleSpec.pre6 enc Try.prog Try.f9 Rows.fnExactIsSimpleRow.domain false) (Rows.fnExactIsSimpleSpec.post enc Try.prog Try.f9 false true false false) := by
  refine returnsInHanded_of_change (C := Try.checked) own started (by kernel_rfl) Try.func9
    (ChangeSpec.witness6 (enc := enc) (C := Try.checked) false ⟨#[], #[.agg #[.slice none 0 0, .string ByteArray.empty]], []⟩ 8 (by kernel_rfl) (by kernel_rfl) (by kernel_rfl) (by kernel_rfl)) ?_
  intro W base args ds gs before hval0 hW hcnd _
  have hval : ∀ (j : Nat) t v, Try.f9.params[j]? = some t → args[j]? = some v → Value.okWide Try.prog W .any base t v := hval0
  have hW' := hW
  obtain ⟨p, q, hA0, hV, rfl, hfz, hnd⟩ := hW
  have hA : DataW.TrodAll enc Try.prog W 0 (fun _ => true) true Try.f9.params.toList args.toList ds p := hA0
  rw [Try.params9] at hA hval
  obtain ⟨v0, vs0, d0, ds0, p0, q0, hargs, rfl, rfl, h0, r0⟩ := trodAll_cons hA
  obtain ⟨rfl, rfl, rfl⟩ := trodAll_nil r0
  obtain rfl : args = #[v0] := by cases args; simp_all
  obtain ⟨rfl, rfl⟩ := trodVars_none hV
  have k0 := h0
  have lt0 : ∀ x ∈ p0, x.block < W.heap.size := by obtain ⟨m, hm⟩ := k0; exact DataW.trod_lt m _ _ _ hm
  obtain ⟨g0, k0c, y0a, y0b, m0, rfl, rfl, rfl, t0a, t0b⟩ := open_agg2 Try.underlying24 (by kernel_rfl) (by kernel_rfl) (hval 0 24 v0 rfl rfl) h0
  obtain ⟨b0, l0, c0, z0, rfl, w0⟩ := ints_of_field Try.underlying22 Try.underlying2 (by kernel_rfl) ⟨_, _, t0a⟩
  obtain ⟨a0, rfl, u0⟩ := str_of_field Try.underlying9 ⟨_, _, t0b⟩
  clear hA0 hval0
  refine (walk_FnExactIsSimple b0 l0 c0 z0 a0 W w0 u0).mono fun e W' ⟨he, bel⟩ => ?_
  subst he
  exact ⟨_, rfl, _, _, _, [], _, [], hW', trodAll_mk1 (shut_bool Try.underlying4 _), (trodAll_cons_mk (Below.trod laidOut (by kernel_rfl) (of_decide_eq_true (by kernel_rfl)) k0 bel lt0) trodAll_mk0), rfl, bel.frame _, fun h => by cases h⟩
theorem over : Rows.fnExactIsSimpleRow.holds Try.pinned (OpenSpec.ofChange Rows.fnExactIsSimpleSpec) :=
  OpenClaim.holds_of_wide 9 Try.f9 rfl rfl rfl rfl rfl rfl rfl ⟨rfl, rfl, rfl, rfl, rfl⟩ rfl rfl rfl rfl rfl (by kernel_rfl) Try.func9 (by kernel_rfl)
    (of_decide_eq_true (by kernel_rfl)) (by unfold Func.isWrapper; first | (rw [if_pos (by decide +kernel)]; kernel_rfl) | (rw [if_neg (by decide +kernel)]; exact ⟨rfl, rfl⟩))
    (fun os started H enc _ => lifted os started H enc)
theorem proved : Rows.FnExactIsSimpleSaid := over
#print axioms proved
end fnExactIsSimple
end Go.Proofs.Ytchimcahfmkbdaa
