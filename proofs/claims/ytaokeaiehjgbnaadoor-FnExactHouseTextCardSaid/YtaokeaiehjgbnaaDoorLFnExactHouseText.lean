/- The law FnExactHouseText: for every plan, the program's text of it is the reference's, and the plan is left as it was; the library's table of the powers of ten is as its text lays it. -/
import Derived.Test.YtaokeaiehjgbnaaDoorHText
import Derived.Test.YtaokeaiehjgbnaaDoorHouse0
import Derived.Test.YtaokeaiehjgbnaaDoorDoor
import Derived.Test.YtaokeaiehjgbnaaDoorOpen
import Derived.Deep.RegionHeld3
import Derived.Deep.DeepCutAuto
namespace Go.Proofs.YtaokeaiehjgbnaaDoor
open Go.RowKit
set_option linter.unusedSimpArgs false
set_option linter.unusedVariables false
set_option linter.unnecessarySimpa false

theorem keepTT {w2 W W' : World} {b1 b2 : Nat} {x1 y1 x2 y2 : Value} (h : Two W b1 x1 y1 ∧ Two W b2 x2 y2 ∧ Ext w2 W) (e : Ext W W') : Two W' b1 x1 y1 ∧ Two W' b2 x2 y2 ∧ Ext w2 W' := ⟨h.1.ext e, h.2.1.ext e, h.2.2.trans e⟩
theorem heldTT {w2 W : World} {b1 b2 : Nat} {x1 y1 x2 y2 : Value} (h : Two W b1 x1 y1 ∧ Two W b2 x2 y2 ∧ Ext w2 W) : Ext w2 W := h.2.2

set_option maxHeartbeats 2000000 in
theorem walk_FnExactHouseText (ao : Option Addr) (n c : Nat) (xs : List Int) (s : ByteArray) (w : World) (hx : Ints w ao n xs) (hs : s.size ≤ maxLen) (hT : TabP w) (hM : MaxP w) :
    Calls Tryd.prog 3 #[.agg #[.slice ao n c, .string s]] w fun e w' => e = .returned (.bool true) ∧ Below w.heap.size w w' := by
  have hs' : s.size ≤ 9223372036854775807 := by unfold maxLen at hs; omega
  have hxm := hx.2.1
  have hxl := hx.1
  have e0 : Ext w (w.alloc (.cells #[.slice ao n c, .string s] 24)) := (Ext.refl w).alloc _
  by_cases h1 : n + s.size ≤ 1048576
  · have hl1 : leftH 1048576 n s.size = 1048576 - n - s.size := by unfold leftH; rw [if_pos (by omega)]
    have HL1 := Lib.hid hl1
    have hA := fun W (e : Ext w W) => l_toHouse ao n c xs s W (hx.ext e) (by omega)
    have HA := Lib.hid hA
    have hS := fun ao c W (h : Ints W ao xs.length xs) => s_HouseText ao xs.length c xs s W h (by omega)
    have hI := fun ao c W (h : Ints W ao xs.length xs) (e : Ext w W) => i_HouseText ao xs.length c xs s W h (by omega) (hT.ext e)
    obtain ⟨v, hv⟩ : ∃ v : ByteArray, mkS (hTxt xs (bts s)) = v := ⟨_, rfl⟩
    rw [hv] at hS hI
    have HS := Lib.hid hS
    have HI := Lib.hid hI
    clear hl1 hA hS hI hv hxl
    go_enter Tryd.func3, Tryd.ntmps3
    go_wp2_with fail
    refine (l_szHouse _ _ _ _ _ _ hxm hs' (by omega) (by omega)).mono ?_
    rw [HL1.out]
    rintro e w1 ⟨rfl, e1⟩
    have A := (Two.new w (.slice ao n c) (.string s) 24).ext e1
    have E1 := e0.trans e1
    clear e0 e1 hx
    go_wp2_with fail
    refine (HA.out _ E1).mono ?_
    rintro e w2 ⟨a2, c2, rfl, o2, e2⟩
    replace A := A.ext e2
    go_wp2_with fail
    refine (HS.out _ _ _ o2.ints).mono ?_
    rintro e w3 ⟨rfl, e3⟩
    replace A := A.ext e3
    have E3 := (E1.trans e2).trans e3
    clear E1 e2 e3 o2
    go_wp2_with fail
    refine (HA.out _ E3).mono ?_
    rintro e w4 ⟨a4, c4, rfl, o4, e4⟩
    replace A := A.ext (e4.alloc (.cells #[.slice a4 xs.length c4, .string s] 27))
    have E4 := E3.trans (e4.alloc (.cells #[.slice a4 xs.length c4, .string s] 27))
    have HO := Lib.hid (o4.ints.ext ((Ext.refl _).alloc (.cells #[.slice a4 xs.length c4, .string s] 27)))
    have C := Two.new w4 (.slice a4 xs.length c4) (.string s) 27
    clear E3 e4 o4
    go_wp2_with fail
    refine (HI.out _ _ _ HO.out E4).mono ?_
    rintro e w5 ⟨rfl, e5⟩
    replace A := A.ext e5
    replace C := C.ext e5
    have E5 := E4.trans e5
    have HQ1 : Hid (∀ W, Ext w5 W → ∀ bo d, Ints W bo xs.length xs → Calls Tryd.prog 12 #[.agg #[.slice a4 xs.length c4, .string s], .agg #[.slice bo xs.length d, .string s]] W (RetE (.bool true) W)) := Lib.hid (fun W e bo d h => by
      have := l_eqHouse a4 bo xs.length xs.length c4 d xs xs s s W ((HO.out.ext e5).ext e) h
      rwa [show (xs == xs && decide (s = s)) = true by simp] at this)
    clear E4 e5
    go_upto_region 10 with fail
    go_region_held3 (fun W => Two W w.heap.size (.slice ao n c) (.string s) ∧ Two W w4.heap.size (.slice a4 xs.length c4) (.string s) ∧ Ext w5 W) (first | exact ⟨A.ext (Ext.refl _).drew, C.ext (Ext.refl _).drew, (Ext.refl _).drew⟩ | exact keepTT (by assumption) (by assumption)) (first | (go_at_call 10; refine (HA.out _ ?_).mono ?_; exact E5.trans (heldTT (by assumption)); rintro e w' ⟨a', c', rfl, o', e'⟩) | (go_at_call 12; refine (HQ1.out _ ?_ _ _ ?_).mono ?_; exact heldTT (by assumption); exact OwnInts.ints (by assumption); rintro e w' ⟨rfl, e'⟩))
    all_goals
      have hfin := E5.trans (heldTT (by assumption))
      go_wp2
      go_ret
      exact ⟨rfl, hfin⟩
  · have hl1 : leftH 1048576 n s.size = -1 := by unfold leftH; rw [if_neg (by omega)]
    have HL1 := Lib.hid hl1
    clear hl1
    go_enter Tryd.func3, Tryd.ntmps3
    go_wp2_with fail
    refine (l_szHouse _ _ _ _ _ _ hxm hs' (by omega) (by omega)).mono ?_
    rw [HL1.out]
    rintro e w1 ⟨rfl, e1⟩
    go_wp2
    go_ret
    exact ⟨rfl, e0.trans e1⟩

/-! ### the row's step: written by a program of mine (frame.py) after the guide's own frame -/
namespace fnExactHouseText
open Go.ChangeShapes Go.WideShapes Go.ChangeAt Go.RowKit Go.Joins
open Go.ChangeMaps (open_string shut_string)
set_option linter.unusedVariables false
theorem own : ownKnob Tryd.prog.godebug = none := by kernel_rfl
theorem laidOut : laidOutB Tryd.prog = true := by kernel_rfl
theorem laid_met (os : Os) (args : Array Value) : laidMet Tryd.prog Rows.fnExactHouseTextRow.laid ((laidWorld os).forCall (fun _ _ => 0) ⟨#[], args, []⟩).memory :=
  (LaidIn.of_run (l := Rows.fnExactHouseTextRow.laid) [6, 7, 1] 8 (by kernel_rfl) (by kernel_rfl) (by kernel_rfl) (by kernel_rfl)).met
theorem witness_row (os : Os) {H : Type} (enc : TypeId × Value → H) :
    (OpenSpec.ofChange Rows.fnExactHouseTextSpec).preRow enc Tryd.prog Tryd.f3 Rows.fnExactHouseTextRow.domain false Rows.fnExactHouseTextRow.laid ((laidWorld os).forCall (fun _ _ => 0) ⟨#[], #[.agg #[.slice none 0 0, .string ByteArray.empty]], []⟩).memory #[.agg #[.slice none 0 0, .string ByteArray.empty]] := by
  have hw : (DataW.whole enc Tryd.prog ((laidWorld os).forCall (fun _ _ => 0) ⟨#[], #[.agg #[.slice none 0 0, .string ByteArray.empty]], []⟩).memory Tryd.f3.params.toList (OpenSpec.ofChange Rows.fnExactHouseTextSpec).vars false (#[.agg #[.slice none 0 0, .string ByteArray.empty]] : Array Value).toList 8).map (fun x => (x.1, x.2.1)) =
      some ([.agg [.nil, .lit (.string [])]], []) := by kernel_rfl
  obtain ⟨⟨x1, x2, x3⟩, hx, hx1⟩ := Option.map_eq_some_iff.1 hw
  simp only [Prod.mk.injEq] at hx1
  obtain ⟨rfl, rfl⟩ := hx1
  exact OpenSpec.preRow_of_cond 8 hx (by kernel_rfl) (fun k hk => by cases hk) (by kernel_rfl) (laid_met os _)
set_option maxRecDepth 100000 in
theorem lifted (os : Os) (started : os.Started) (H : Type) (enc : TypeId × Value → H) (F : Stop.Interp) :
    ReturnsInHanded {} Tryd.checked os 3 .any ((OpenSpec.ofChange Rows.fnExactHouseTextSpec).preRow enc Tryd.prog Tryd.f3 Rows.fnExactHouseTextRow.domain false Rows.fnExactHouseTextRow.laid) (((OpenSpec.ofChange Rows.fnExactHouseTextSpec).at F).post enc Tryd.prog Tryd.f3 false true false false) := by
  refine returnsInHanded_of_row (C := Tryd.checked) (s := OpenSpec.ofChange Rows.fnExactHouseTextSpec) own started (by kernel_rfl) Tryd.func3
    (witness_row_atRef (enc := enc) (C := Tryd.checked) false (laidWorld os) #[.agg #[.slice none 0 0, .string ByteArray.empty]] rfl (by kernel_rfl) (by kernel_rfl) (by kernel_rfl) (witness_row os enc)) ?_
  intro W base args ds gs before hval0 hW hcnd _ _ hL hsh _
  have hval : ∀ (j : Nat) t v, Tryd.f3.params[j]? = some t → args[j]? = some v → Value.okWide Tryd.prog W .any base t v := hval0
  have hW' := hW
  obtain ⟨p, q, hA0, hV, rfl, hfz, hnd⟩ := hW
  have hA : DataW.TrodAll enc Tryd.prog W 0 (fun _ => true) true Tryd.f3.params.toList args.toList ds p := hA0
  rw [Tryd.params3] at hA hval
  obtain ⟨v0, vs0, d0, ds0, p0, q0, hargs, rfl, rfl, h0, r0⟩ := trodAll_cons hA
  obtain ⟨rfl, rfl, rfl⟩ := trodAll_nil r0
  obtain rfl : args = #[v0] := by cases args; simp_all
  obtain ⟨rfl, rfl⟩ := trodVars_none hV
  have k0 := h0
  have lt0 : ∀ x ∈ p0, x.block < W.heap.size := by obtain ⟨m, hm⟩ := k0; exact DataW.trod_lt m _ _ _ hm
  obtain ⟨g0, k0c, y0a, y0b, m0, rfl, rfl, rfl, t0a, t0b⟩ := open_agg2 Tryd.underlying24 (by kernel_rfl) (by kernel_rfl) (hval 0 24 v0 rfl rfl) h0
  obtain ⟨b0, l0, c0, z0, rfl, w0⟩ := ints_of_field Tryd.underlying22 Tryd.underlying2 (by kernel_rfl) ⟨_, _, t0a⟩
  obtain ⟨a0, rfl, u0⟩ := str_of_field Tryd.underlying9 ⟨_, _, t0b⟩
  clear hA0 hval0
  have hL0 : laidMet Tryd.prog Rows.fnExactHouseTextRow.laid W := hL
  have hTab : TabP W := tab_laid hL0.tail.tail
  have hMax : MaxP W := max_shaped hsh
  refine (walk_FnExactHouseText b0 l0 c0 z0 a0 W w0 u0 hTab hMax).mono fun e W' ⟨he, bel⟩ => ?_
  subst he
  exact ⟨_, rfl, _, _, _, [], _, [], hW', trodAll_mk1 (shut_bool Tryd.underlying4 _), (trodAll_cons_mk (Below.trod laidOut (by kernel_rfl) (of_decide_eq_true (by kernel_rfl)) k0 bel lt0) trodAll_mk0), rfl, bel.frame _, fun h => by cases h⟩
theorem over : Rows.fnExactHouseTextRow.holds Tryd.pinned (OpenSpec.ofChange Rows.fnExactHouseTextSpec) :=
  OpenClaim.holds_of_cond 3 Tryd.f3 rfl rfl rfl rfl rfl rfl rfl ⟨rfl, rfl, rfl, rfl, rfl⟩ rfl rfl rfl rfl rfl (by kernel_rfl) Tryd.func3 (by kernel_rfl)
    (of_decide_eq_true (by kernel_rfl)) (by unfold Func.isWrapper; first | (rw [if_pos (by decide +kernel)]; kernel_rfl) | (rw [if_neg (by decide +kernel)]; exact ⟨rfl, rfl⟩))
    (fun os started H enc _ F0 => by rw [OpenClaim.pre_eq_preRow]; exact lifted os started H enc F0)
theorem proved : Rows.FnExactHouseTextCardSaid :=
  Claim7.holds_tied_plain_at .later [] [.data, .data, .data] true (true, "9cc497ef2af0512bcb3bf161b70c347e05e4fea15a44848d6b8a4322bb5dbd7d") true
    over (fun _ h => by cases h) (by kernel_rfl) (fun _ h => by cases h) fnExactHouseText_row_tie rfl ⟨rfl, rfl⟩ (by kernel_rfl) rfl
    (fun f fn hf hfn => by
      obtain rfl : f = 3 := Option.some.inj ((show Tryd.prog.funcNamed "loop.example/g01042/laws.FnExactHouseText" = some 3 by kernel_rfl).symm.trans hf) |>.symm
      obtain rfl : fn = Tryd.f3 := (Option.some.inj (Tryd.func3.symm.trans hfn)).symm
      exact ⟨by kernel_rfl, fun j t ht => by
        rw [Tryd.params3] at ht
        have h3 : t = 24 := by
          rcases j with _ | j
          · have e : t = 24 := by simpa using ht.symm
            simp [e]
          · simp at ht
        subst h3
        exact (show Tryd.prog.wantsStandIn 24 = false by kernel_rfl)⟩)
    (by kernel_rfl)
#print axioms proved
end fnExactHouseText
end Go.Proofs.YtaokeaiehjgbnaaDoor
