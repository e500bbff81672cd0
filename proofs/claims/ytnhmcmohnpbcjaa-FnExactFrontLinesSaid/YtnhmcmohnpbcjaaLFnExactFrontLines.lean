/- For every front the law FnExactFrontLines answers true: the program's FrontLines returns what the reference's returns, and leaves its argument as it was. No condition. -/
import Derived.Test.YtnhmcmohnpbcjaaFrontRi
import Derived.Test.YtnhmcmohnpbcjaaPartLaw
import Derived.Test.YtnhmcmohnpbcjaaOpen2
import Derived.Deep.RegionHeld3
import Derived.Deep.DeepCutAuto
namespace Go.Proofs.Ytnhmcmohnpbcjaa
open Go.RowKit
set_option linter.unusedSimpArgs false
set_option linter.unusedVariables false
set_option linter.unnecessarySimpa false

theorem keepTT {w2 W W' : World} {b1 b2 : Nat} {x1 y1 z1 x2 y2 z2 : Value} (h : Three W b1 x1 y1 z1 ∧ Three W b2 x2 y2 z2 ∧ Ext w2 W) (e : Ext W W') : Three W' b1 x1 y1 z1 ∧ Three W' b2 x2 y2 z2 ∧ Ext w2 W' := ⟨h.1.ext e, h.2.1.ext e, h.2.2.trans e⟩
theorem heldTT {w2 W : World} {b1 b2 : Nat} {x1 y1 z1 x2 y2 z2 : Value} (h : Three W b1 x1 y1 z1 ∧ Three W b2 x2 y2 z2 ∧ Ext w2 W) : Ext w2 W := h.2.2

theorem dec_self (xs : List ByteArray) : decide (xs = xs) = true := by simp
set_option maxRecDepth 100000 in
set_option maxHeartbeats 1500000 in
theorem walk_FnExactFrontLines (p q : Int) (ao : Option Addr) (n c : Nat) (xs : List Opn) (w : World) (hp : IsI64 p) (hq : IsI64 q) (hx : Opens w ao n xs) :
    Calls Try.prog 5 #[.agg #[.int .i64 p, .int .i64 q, .slice ao n c]] w fun e w' => e = .returned (.bool true) ∧ Below w.heap.size w w' := by
  have hxm := hx.2.1
  have hxl := hx.1
  have e0 : Ext w (w.alloc (.cells #[.int .i64 p, .int .i64 q, .slice ao n c] 24)) := (Ext.refl w).alloc _
  by_cases h1 : (n : Int) ≤ 1048576
  · have hl1 : sel (decide ((n : Int) ≤ 1048576)) (1048576 - n) (-1) = 1048576 - n := by simp [sel, h1]
    have HL1 := Lib.hid hl1
    have hA := fun W (e : Ext w W) => l_toFront p q ao n c xs W (hx.ext e) (by omega)
    have HA := Lib.hid hA
    have hS := fun ao c W (h : Opens W ao xs.length xs) => s_FrontLines p q ao xs.length c xs W h
    have hI := fun ao c W (h : Opens W ao xs.length xs) (hc : xs.length ≤ c) => i_FrontLines p q ao xs.length c xs W h hc
    have hpl := linesF_len p q xs
    obtain ⟨ps, hps⟩ : ∃ ps, linesF p q xs = ps := ⟨_, rfl⟩
    obtain ⟨r, hr⟩ : ∃ r, sel (validF p q xs) 0 1 = r := ⟨_, rfl⟩
    rw [hps, hr] at hS hI
    rw [hps] at hpl
    have HS := Lib.hid hS
    have HI := Lib.hid hI
    have tr : (r != r) = false := by simp
    clear hps hr
    have hxn : xs.length ≤ 1048576 := by omega
    clear hl1 hA hS hI hp hq hxl
    go_enter Try.func5, Try.ntmps5
    go_wp2_with fail
    refine (l_szFront _ _ _ _ _ _ _ hxm (by omega) (by omega)).mono ?_
    rw [HL1.out]
    rintro e w1 ⟨rfl, e1⟩
    have A := (Three.new w (.int .i64 p) (.int .i64 q) (.slice ao n c) 24).ext e1
    have E1 := e0.trans e1
    clear e0 e1 hx
    go_wp2_with fail
    refine (HA.out _ E1).mono ?_
    rintro e w2 ⟨a2, c2, rfl, o2, e2⟩
    replace A := A.ext e2
    go_wp2_with fail
    refine (HS.out _ _ _ o2.opens).mono ?_
    rintro e w3 ⟨aw, cw, rfl, ow, e3⟩
    replace A := A.ext e3
    have E3 := (E1.trans e2).trans e3
    have HOW := Lib.hid ow
    have HWlt : Hid (w.heap.size < w3.heap.size) := Lib.hid A.2.2.2
    clear E1 e2 e3 o2 ow
    go_wp2_with fail
    refine (HA.out _ E3).mono ?_
    rintro e w4 ⟨a4, c4, rfl, o4, e4⟩
    replace A := A.ext (e4.alloc (.cells #[.int .i64 p, .int .i64 q, .slice a4 xs.length c4] 30))
    have E4 := E3.trans (e4.alloc (.cells #[.int .i64 p, .int .i64 q, .slice a4 xs.length c4] 30))
    have HO := Lib.hid (o4.opens.ext ((Ext.refl _).alloc (.cells #[.int .i64 p, .int .i64 q, .slice a4 xs.length c4] 30)))
    have HC4 := Lib.hid o4.cap
    have C := Three.new w4 (.int .i64 p) (.int .i64 q) (.slice a4 xs.length c4) 30
    have HX4 := Lib.hid (o4.ext ((Ext.refl _).alloc (.cells #[.int .i64 p, .int .i64 q, .slice a4 xs.length c4] 30)))
    have HB4 : Hid (∀ j, (Value.slice a4 xs.length c4).ownBlock = some j → w3.heap.size ≤ j ∧ j < w4.heap.size) := Lib.hid (fun j hj => World.ownsRow.lt o4.1 j hj)
    have HE34 := Lib.hid (e4.alloc (.cells #[.int .i64 p, .int .i64 q, .slice a4 xs.length c4] 30))
    clear E3 e4 o4
    go_wp2_with fail
    refine (HI.out _ _ _ HO.out HC4.out).mono ?_
    rintro e w5' ⟨ag, cg, rfl, og, e5⟩
    have HOG := Lib.hid og
    have HOW5 := Lib.hid ((HOW.out.ext HE34.out).ext e5)
    clear og
    replace A := A.ext e5
    replace C := C.ext e5
    have HEQ : Hid (∀ W ao bo c d, Strs W ao ps.length ps → Strs W bo ps.length ps → Calls Try.prog 25 #[.slice ao ps.length c, .slice bo ps.length d] W (RetE (.bool true) W)) := Lib.hid (fun W ao bo c d h1 h2 => by
      have h := l_eqStringS ao bo ps.length ps.length c d ps ps W h1 h2
      rwa [dec_self] at h)
    go_upto_region 10 with (go_at_call 25; refine (HEQ.out _ _ _ _ _ HOG.out.strs HOW5.out.strs).mono ?_; rintro e w5 ⟨rfl, e6⟩; have HE56 := Lib.hid e6; replace e5 := e5.trans e6; replace A := A.ext e6; replace C := C.ext e6; have E5 := E4.trans e5)
    have HQ1 : Hid (∀ W, Ext w5 W → ∀ bo d, Opens W bo xs.length xs → Calls Try.prog 15 #[.agg #[.int .i64 p, .int .i64 q, .slice a4 xs.length c4], .agg #[.int .i64 p, .int .i64 q, .slice bo xs.length d]] W (RetE (.bool true) W)) := Lib.hid (fun W e bo d h => by
      have := l_eqFront p q p q a4 bo xs.length xs.length c4 d xs xs W ((HO.out.ext e5).ext e) h
      rwa [show sameF p q p q xs xs = true by simp [sameF]] at this)
    have HE5 := Lib.hid e5
    clear E4 e5
    go_region_held3 (fun W => Three W w.heap.size (.int .i64 p) (.int .i64 q) (.slice ao n c) ∧ Three W w4.heap.size (.int .i64 p) (.int .i64 q) (.slice a4 xs.length c4) ∧ Ext w5 W) (first | exact ⟨A.ext (Ext.refl _).drew, C.ext (Ext.refl _).drew, (Ext.refl _).drew⟩ | exact keepTT (by assumption) (by assumption)) (first | (go_at_call 12; refine (HA.out _ ?_).mono ?_; exact E5.trans (heldTT (by assumption)); rintro e w' ⟨a', c', rfl, o', e'⟩) | (go_at_call 15; refine (HQ1.out _ ?_ _ _ ?_).mono ?_; exact heldTT (by assumption); exact OwnOpens.opens (by assumption); rintro e w' ⟨rfl, e'⟩))
    all_goals
      have hfin := (by assumption : Three _ w.heap.size (.int .i64 p) (.int .i64 q) (.slice ao n c) ∧ Three _ w4.heap.size (.int .i64 p) (.int .i64 q) (.slice a4 xs.length c4) ∧ Ext w5 _)
      obtain ⟨A7, C7, e7⟩ := hfin
      have E7 := E5.trans e7
      have OG7 := Lib.hid ((HOG.out.ext HE56.out).ext e7)
      have OW7 := Lib.hid ((HOW5.out.ext HE56.out).ext e7)
      have OX7 := Lib.hid ((HX4.out.ext HE5.out).ext e7)
      have E7H := Lib.hid E7
      clear A C E5 e7 E7
      go_wp2_with fail
      refine (l_markFront _ p q a4 xs.length c4 1 xs _ OX7.out (by omega) (by omega) (by omega)).mono ?_
      rintro e w8 ⟨rfl, g8⟩
      have hA0 : w.heap.size < w3.heap.size := HWlt.out
      have A8 : Three w8 w.heap.size (.int .i64 p) (.int .i64 q) (.slice ao n c) := ⟨g8.cell A7.1 (fun e => by have := (HB4.out _ e.symm).1; dsimp only at this; omega), g8.cell A7.2.1 (fun e => by have := (HB4.out _ e.symm).1; dsimp only at this; omega), g8.cell A7.2.2.1 (fun e => by have := (HB4.out _ e.symm).1; dsimp only at this; omega), Nat.lt_of_lt_of_le A7.2.2.2 g8.size⟩
      have OG8 := Lib.hid (OG7.out.apart g8 (fun j j' hj hj' => by have := (HB4.out j' hj').2; have := (HOG.out.blk j hj).1; simp at this; omega))
      have OW8 := Lib.hid (OW7.out.apart g8 (fun j j' hj hj' => by have := (HB4.out j' hj').1; have := (HOW.out.blk j hj).2; omega))
      have E8 := Lib.hid (E7H.out.grown g8 (fun j hj => by have := (HB4.out j hj).1; omega))
      clear g8 A7 C7 OG7 OW7 OX7 hA0
      go_wp2_with fail
      refine (HEQ.out _ _ _ _ _ OG8.out.strs OW8.out.strs).mono ?_
      rintro e w9 ⟨rfl, e9⟩
      have A9 := A8.ext e9
      have OG9 := Lib.hid (OG8.out.ext e9)
      have OW9 := Lib.hid (OW8.out.ext e9)
      have E9 := Lib.hid (E8.out.trans e9)
      clear e9 A8 OG8 OW8
      go_wp2_with fail
      refine (l_markStringS _ ag ps.length cg 1 ps _ rfl OG9.out (by omega) (by omega) (by omega)).mono ?_
      rintro e w10 ⟨rfl, om, g10⟩
      have HM10 := Lib.hid om
      have OW10 := Lib.hid (OW9.out.apart g10 (fun j j' hj hj' => by have := (HOG.out.blk j' hj').1; have := (HOW.out.blk j hj).2; have := HE34.out.size; simp at *; omega))
      have hg0 : ∀ j, (Value.slice ag ps.length cg).ownBlock = some j → w3.heap.size ≤ j := fun j hj => by have := (HOG.out.blk j hj).1; have := HE34.out.size; simp at *; omega
      have hA0 : w.heap.size < w3.heap.size := HWlt.out
      have A10 : Three w10 w.heap.size (.int .i64 p) (.int .i64 q) (.slice ao n c) := ⟨g10.cell A9.1 (fun e => by have := hg0 _ e.symm; dsimp only at this; omega), g10.cell A9.2.1 (fun e => by have := hg0 _ e.symm; dsimp only at this; omega), g10.cell A9.2.2.1 (fun e => by have := hg0 _ e.symm; dsimp only at this; omega), Nat.lt_of_lt_of_le A9.2.2.2 g10.size⟩
      have E10 := Lib.hid (E9.out.grown g10 (fun j hj => by have := hg0 j hj; omega))
      clear g10 hg0 hA0 om A9 OW9 OG9
      go_wp2_with fail
      refine (l_heldStringS ag ps.length cg 1 _ (by simpa [markSs_length] using HM10.out.strs) (by omega) (by omega) (by omega)).mono ?_
      rintro e w10' ⟨rfl, e10'⟩
      have A10 := A10.ext e10'
      have HM10 := Lib.hid (HM10.out.ext e10')
      have OW10 := Lib.hid (OW10.out.ext e10')
      have E10 := Lib.hid (E10.out.trans e10')
      clear e10'
      go_wp2_with fail
      refine (HA.out _ E10.out).mono ?_
      rintro e w11 ⟨a11, c11, rfl, o11, e11⟩
      go_wp2_with fail
      refine (HI.out _ _ _ o11.opens o11.cap).mono ?_
      rintro e w12 ⟨ah, ch, rfl, oh, e12⟩
      have HM12 := Lib.hid ((HM10.out.strs.ext e11).ext e12)
      have OW12 := Lib.hid ((OW10.out.ext e11).ext e12)
      have OH := Lib.hid oh
      have E12 := Lib.hid ((E10.out.trans e11).trans e12)
      clear oh e11 e12 o11 A10
      go_wp2_with fail
      refine (HEQ.out _ _ _ _ _ OH.out.strs OW12.out.strs).mono ?_
      rintro e w13 ⟨rfl, e13⟩
      have HM13 := Lib.hid (HM12.out.ext e13)
      have E13 := Lib.hid (E12.out.trans e13)
      clear e13
      go_wp2_with fail
      refine (l_heldStringS ag ps.length cg 1 _ (by simpa [markSs_length] using HM13.out) (by omega) (by omega) (by omega)).mono ?_
      rintro e w13' ⟨rfl, e14⟩
      go_wp2
      go_ret
      exact ⟨rfl, E13.out.trans e14⟩
  · have hl1 : sel (decide ((n : Int) ≤ 1048576)) (1048576 - n) (-1) = -1 := by simp [sel, h1]
    have HL1 := Lib.hid hl1
    clear hl1
    go_enter Try.func5, Try.ntmps5
    go_wp2_with fail
    refine (l_szFront _ _ _ _ _ _ _ hxm (by omega) (by omega)).mono ?_
    rw [HL1.out]
    rintro e w1 ⟨rfl, e1⟩
    go_wp2
    go_ret
    exact ⟨rfl, e0.trans e1⟩

/-! ### the row's step: written by a program of mine (frame.py) after the guide's own frame -/
namespace fnExactFrontLines
open Go.ChangeShapes Go.WideShapes Go.ChangeAt Go.RowKit Go.Joins
open Go.ChangeMaps (open_string shut_string)
set_option linter.unusedVariables false
theorem own : ownKnob Try.prog.godebug = none := by kernel_rfl
theorem laidOut : laidOutB Try.prog = true := by kernel_rfl
set_option maxRecDepth 100000 in
theorem lifted (os : Os) (started : os.Started) (H : Type) (enc : TypeId × Value → H) :
    ReturnsInHanded {} Try.checked os 5 .any (Rows.fnExactFrontLinesSpec.pre6 enc Try.prog Try.f5 Rows.fnExactFrontLinesRow.domain false) (Rows.fnExactFrontLinesSpec.post enc Try.prog Try.f5 false true false false) := by
  refine returnsInHanded_of_change (C := Try.checked) own started (by kernel_rfl) Try.func5
    (ChangeSpec.witness6 (enc := enc) (C := Try.checked) false ⟨#[], #[.agg #[.int .i64 0, .int .i64 0, .slice none 0 0]], []⟩ 8 (by kernel_rfl) (by kernel_rfl) (by kernel_rfl) (by kernel_rfl)) ?_
  intro W base args ds gs before hval0 hW hcnd _
  have hval : ∀ (j : Nat) t v, Try.f5.params[j]? = some t → args[j]? = some v → Value.okWide Try.prog W .any base t v := hval0
  have hW' := hW
  obtain ⟨p, q, hA0, hV, rfl, hfz, hnd⟩ := hW
  have hA : DataW.TrodAll enc Try.prog W 0 (fun _ => true) true Try.f5.params.toList args.toList ds p := hA0
  rw [Try.params5] at hA hval
  obtain ⟨v0, vs0, d0, ds0, p0, q0, hargs, rfl, rfl, h0, r0⟩ := trodAll_cons hA
  obtain ⟨rfl, rfl, rfl⟩ := trodAll_nil r0
  obtain rfl : args = #[v0] := by cases args; simp_all
  obtain ⟨rfl, rfl⟩ := trodVars_none hV
  have k0 := h0
  have lt0 : ∀ x ∈ p0, x.block < W.heap.size := by obtain ⟨m, hm⟩ := k0; exact DataW.trod_lt m _ _ _ hm
  obtain ⟨g0, k0c, k0d, y0a, y0b, y0c, m0, rfl, rfl, rfl, t0a, t0b, t0c⟩ := open_agg3 Try.underlying24 (by kernel_rfl) (by kernel_rfl) (hval 0 24 v0 rfl rfl) h0
  obtain ⟨x0a, rfl, i0a⟩ := int_of_field Try.underlying2 ⟨_, _, t0a⟩
  obtain ⟨x0b, rfl, i0b⟩ := int_of_field Try.underlying2 ⟨_, _, t0b⟩
  obtain ⟨b0, l0, c0, z0, rfl, w0⟩ := opens_of_field Try.underlying22 Try.underlying26 (by kernel_rfl) (by kernel_rfl) Try.underlying2 Try.underlying2 Try.underlying2 Try.underlying2 ⟨_, _, t0c⟩
  clear hA0 hval0
  refine (walk_FnExactFrontLines x0a x0b b0 l0 c0 z0 W i0a i0b w0).mono fun e W' ⟨he, bel⟩ => ?_
  subst he
  exact ⟨_, rfl, _, _, _, [], _, [], hW', trodAll_mk1 (shut_bool Try.underlying4 _), (trodAll_cons_mk (Below.trod laidOut (by kernel_rfl) (of_decide_eq_true (by kernel_rfl)) k0 bel lt0) trodAll_mk0), rfl, bel.frame _, fun h => by cases h⟩
theorem over : Rows.fnExactFrontLinesRow.holds Try.pinned (OpenSpec.ofChange Rows.fnExactFrontLinesSpec) :=
  OpenClaim.holds_of_wide 5 Try.f5 rfl rfl rfl rfl rfl rfl rfl ⟨rfl, rfl, rfl, rfl, rfl⟩ rfl rfl rfl rfl rfl (by kernel_rfl) Try.func5 (by kernel_rfl)
    (of_decide_eq_true (by kernel_rfl)) (by unfold Func.isWrapper; first | (rw [if_pos (by decide +kernel)]; kernel_rfl) | (rw [if_neg (by decide +kernel)]; exact ⟨rfl, rfl⟩))
    (fun os started H enc _ => lifted os started H enc)
theorem proved : Rows.FnExactFrontLinesSaid := over
#print axioms proved
end fnExactFrontLines
end Go.Proofs.Ytnhmcmohnpbcjaa
