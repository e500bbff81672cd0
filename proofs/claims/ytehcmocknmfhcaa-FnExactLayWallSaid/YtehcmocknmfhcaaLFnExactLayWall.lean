/- For every bond and every two numbers the law FnExactLayWall answers true: the program's LayWall returns what the reference's returns, leaves its argument as it was, and hands back memory of its own. No condition. -/
import Derived.Test.YtehcmocknmfhcaaBond8
import Derived.Test.YtehcmocknmfhcaaOpenB
import Derived.Deep.RegionHeld3
import Derived.Deep.DeepCutAuto
namespace Go.Proofs.Ytehcmocknmfhcaa
open Go.RowKit
set_option linter.unusedSimpArgs false
set_option linter.unusedVariables false
set_option linter.unnecessarySimpa false

theorem keepTT {w2 W W' : World} {b1 b2 : Nat} {x1 y1 x2 y2 : Value} (h : Two W b1 x1 y1 ∧ Two W b2 x2 y2 ∧ Ext w2 W) (e : Ext W W') : Two W' b1 x1 y1 ∧ Two W' b2 x2 y2 ∧ Ext w2 W' := ⟨h.1.ext e, h.2.1.ext e, h.2.2.trans e⟩
theorem heldTT {w2 W : World} {b1 b2 : Nat} {x1 y1 x2 y2 : Value} (h : Two W b1 x1 y1 ∧ Two W b2 x2 y2 ∧ Ext w2 W) : Ext w2 W := h.2.2

set_option maxRecDepth 100000 in
set_option maxHeartbeats 2000000 in
theorem walk_FnExactLayWall (nm : ByteArray) (ao : Option Addr) (n c : Nat) (cs : List Crs) (k u : Int) (w : World) (hnm : nm.size ≤ maxLen) (hx : Crss w ao n cs) (_ : IsI64 k) (_ : IsI64 u) :
    Calls Try.prog 4 #[.agg #[.string nm, .slice ao n c], .int .i64 k, .int .i64 u] w fun e w' => e = .returned (.bool true) ∧ Below w.heap.size w w' := by
  have hs' : nm.size ≤ 9223372036854775807 := by unfold maxLen at hnm; omega
  have hxl := hx.1
  have e0 : Ext w (w.alloc (.cells #[.string nm, .slice ao n c] 24)) := (Ext.refl w).alloc _
  have HSZ := Lib.hid (fun W (e : Ext w W) => l_szBond nm ao n c cs 1048576 W hs' (hx.ext e) (by omega) (by omega))
  obtain ⟨z, hz⟩ : ∃ z, leftB 1048576 nm n cs = z := ⟨_, rfl⟩
  have hsm : ¬ z < 0 → n ≤ 1048576 := fun h => by have := (leftB_small (k := 1048576) (nm := nm) (n := n) (cs := cs) (by rw [hz]; exact h)).2.1; omega
  rw [hz] at HSZ
  clear hz
  by_cases h1 : z < 0
  · clear hsm hx hxl
    go_enter Try.func4, Try.ntmps4
    go_wp2_with (go_at_call 9; refine (HSZ.out _ e0).mono ?_; rintro e w1 ⟨rfl, e1⟩)
    go_ret
    exact ⟨rfl, e0.trans e1⟩
  · have hn := hsm h1
    have HA := Lib.hid (fun W (e : Ext w W) => l_toBond nm ao n c cs W (hx.ext e) hn)
    have hS := fun ao c W (h : Crss W ao cs.length cs) => s_LayWall nm ao cs.length c cs k u W hs' h
    have hI := fun ao c W (h : Crss W ao cs.length cs) => i_LayWall nm ao cs.length c cs k u W hs' h
    have hpl := lwL_len (bts nm) cs k u
    obtain ⟨ps, hps⟩ : ∃ ps, lwL (bts nm) cs k u = ps := ⟨_, rfl⟩
    obtain ⟨r, hr⟩ : ∃ r, lwC (bts nm) cs k u = r := ⟨_, rfl⟩
    rw [hps, hr] at hS hI
    rw [hps] at hpl
    have HS := Lib.hid hS
    have HI := Lib.hid hI
    have tr : (r != r) = false := by simp
    have HEQ := Lib.hid (fun W ao bo c d h1 h2 => show Calls Try.prog 16 #[.slice ao ps.length c, .slice bo ps.length d] W (RetE (.bool true) W) from (by have := l_eqStringS ao bo ps.length ps.length c d ps ps W h1 h2; rwa [show decide (ps = ps) = true by simp] at this))
    have hcn : cs.length ≤ 1048576 := by omega
    clear hS hI hps hr hxl hsm hx
    go_enter Try.func4, Try.ntmps4
    go_wp2_with fail
    refine (HSZ.out _ e0).mono ?_
    rintro e w1 ⟨rfl, e1⟩
    have A := (Two.new w (.string nm) (.slice ao n c) 24).ext e1
    have E1 := e0.trans e1
    clear e0 e1
    go_wp2_with fail
    refine (HA.out _ E1).mono ?_
    rintro e w2 ⟨a2, c2, rfl, o2, e2⟩
    replace A := A.ext e2
    go_wp2_with fail
    refine (HS.out _ _ _ o2.crss).mono ?_
    rintro e w3 ⟨aw, cw, rfl, ow, e3⟩
    replace A := A.ext e3
    have E3 := (E1.trans e2).trans e3
    have HE3 := Lib.hid E3
    have HA3 := Lib.hid A
    have HOW := Lib.hid ow
    clear E1 e2 e3 o2 ow
    go_wp2_with fail
    refine (HA.out _ E3).mono ?_
    rintro e w4 ⟨a4, c4, rfl, o4, e4⟩
    have HE34 := Lib.hid (e4.alloc (.cells #[.string nm, .slice a4 cs.length c4] 30))
    replace A := A.ext HE34.out
    have HO := Lib.hid (o4.crss.ext ((Ext.refl _).alloc (.cells #[.string nm, .slice a4 cs.length c4] 30)))
    have C := Two.new w4 (.string nm) (.slice a4 cs.length c4) 30
    have HX4 := Lib.hid (o4.ext ((Ext.refl _).alloc (.cells #[.string nm, .slice a4 cs.length c4] 30)))
    have HB4 : Hid (∀ j, (Value.slice a4 cs.length c4).ownBlock = some j → w3.heap.size ≤ j ∧ j < w4.heap.size) := Lib.hid (fun j hj => o4.blk j hj)
    clear E3 e4 o4
    go_wp2_with fail
    refine (HI.out _ _ _ HO.out).mono ?_
    rintro e w5' ⟨ag, cg, rfl, og, e5⟩
    have HOG := Lib.hid og
    clear og
    replace A := A.ext e5
    replace C := C.ext e5
    have HOW5 := Lib.hid ((HOW.out.ext HE34.out).ext e5)
    go_upto_region 10 with (go_at_call 16; refine (HEQ.out _ _ _ _ _ HOG.out.strs HOW5.out.strs).mono ?_; rintro e w5 ⟨rfl, e6⟩; have HE56 := Lib.hid e6; replace e5 := e5.trans e6; replace A := A.ext e6; replace C := C.ext e6)
    have HE5 := Lib.hid e5
    have HQ1 : Hid (∀ W, Ext w5 W → ∀ bo d, Crss W bo cs.length cs → Calls Try.prog 13 #[.agg #[.string nm, .slice a4 cs.length c4], .agg #[.string nm, .slice bo cs.length d]] W (RetE (.bool true) W)) := Lib.hid (fun W e bo d h => l_eqBond nm a4 bo cs.length c4 d cs W ((HO.out.ext HE5.out).ext e) h)
    have E5 := HE3.out.trans (HE34.out.trans e5)
    clear e5
    go_region_held3 (fun W => Two W w.heap.size (.string nm) (.slice ao n c) ∧ Two W w4.heap.size (.string nm) (.slice a4 cs.length c4) ∧ Ext w5 W) (first | exact ⟨A.ext (Ext.refl _).drew, C.ext (Ext.refl _).drew, (Ext.refl _).drew⟩ | exact keepTT (by assumption) (by assumption)) (first | (go_at_call 11; refine (HA.out _ ?_).mono ?_; exact E5.trans (heldTT (by assumption)); rintro e w' ⟨a', c', rfl, o', e'⟩) | (go_at_call 13; refine (HQ1.out _ ?_ _ _ ?_).mono ?_; exact heldTT (by assumption); exact OwnCrss.crss (by assumption); rintro e w' ⟨rfl, e'⟩))
    all_goals
      have hfin := (by assumption : Two _ w.heap.size (.string nm) (.slice ao n c) ∧ Two _ w4.heap.size (.string nm) (.slice a4 cs.length c4) ∧ Ext w5 _)
      obtain ⟨A7, C7, e7⟩ := hfin
      have OG7 := Lib.hid ((HOG.out.ext HE56.out).ext e7)
      have OX7 := Lib.hid ((HX4.out.ext HE5.out).ext e7)
      have EW7 := Lib.hid (HE34.out.trans (HE5.out.trans e7))
      clear A C E5 e7
      go_wp2_with fail
      refine (l_markBond _ nm a4 cs.length c4 1 cs _ OX7.out (by omega) (by omega) (by omega)).mono ?_
      rintro e w8 ⟨rfl, g8⟩
      have OG8 := Lib.hid (OG7.out.apart g8 (fun j j' hj hj' => by have := (HB4.out j' hj').2; have := (HOG.out.blk j hj).1; simp at this; omega))
      have EW8 := Lib.hid (EW7.out.grown g8 (fun j hj => (HB4.out j hj).1))
      clear g8 A7 C7 OG7 OX7
      have OW8 := Lib.hid (HOW.out.ext EW8.out)
      go_wp2_with fail
      refine (HEQ.out _ _ _ _ _ OG8.out.strs OW8.out.strs).mono ?_
      rintro e w9 ⟨rfl, e9⟩
      have OG9 := Lib.hid (OG8.out.ext e9)
      have EW9 := Lib.hid (EW8.out.trans e9)
      clear e9 OG8 OW8
      go_wp2_with fail
      refine (l_markStringS _ ag ps.length cg 1 ps _ rfl OG9.out (by omega) (by omega) (by omega)).mono ?_
      rintro e w10 ⟨rfl, om, g10⟩
      have HM10 := Lib.hid om
      have EW10 := Lib.hid (EW9.out.grown g10 (fun j hj => by have := (om.1.lt j hj).1; have := HE34.out.size; simp at *; omega))
      clear om g10
      go_wp2_with fail
      refine (l_heldStringS ag ps.length cg 1 _ (by simpa [markSs_length] using HM10.out.strs) (by omega) (by omega) (by omega)).mono ?_
      rintro e w10' ⟨rfl, e10⟩
      have HM11 := Lib.hid (HM10.out.ext e10)
      have EW11 := Lib.hid (EW10.out.trans e10)
      obtain ⟨B1, B2, B3⟩ := HA3.out.ext EW11.out
      clear e10
      go_wp2_with fail
      refine (HA.out _ (HE3.out.trans EW11.out)).mono ?_
      rintro e w11 ⟨a11, c11, rfl, o11, e11⟩
      go_wp2_with fail
      refine (HI.out _ _ _ o11.crss).mono ?_
      rintro e w12 ⟨ah, ch, rfl, oh, e12⟩
      have HM12 := Lib.hid ((HM11.out.ext e11).ext e12)
      have EW12 := Lib.hid ((EW11.out.trans e11).trans e12)
      have OH := Lib.hid oh
      have OW12 := Lib.hid (HOW.out.ext EW12.out)
      clear oh e11 e12 o11 B1 B2 B3
      go_wp2_with fail
      refine (HEQ.out _ _ _ _ _ OH.out.strs OW12.out.strs).mono ?_
      rintro e w13 ⟨rfl, e13⟩
      have HM13 := Lib.hid (HM12.out.ext e13)
      have EW13 := Lib.hid (EW12.out.trans e13)
      clear e13
      go_wp2_with fail
      refine (l_heldStringS ag ps.length cg 1 _ (by simpa [markSs_length] using HM13.out.strs) (by omega) (by omega) (by omega)).mono ?_
      rintro e w13' ⟨rfl, e14⟩
      have EF := Lib.hid (HE3.out.trans (EW13.out.trans e14))
      go_wp2
      go_ret
      exact ⟨rfl, EF.out⟩

/-! ### the row's step: written by a program of mine (frame.py) after the guide's own frame -/
namespace fnExactLayWall
open Go.ChangeShapes Go.WideShapes Go.ChangeAt Go.RowKit Go.Joins
open Go.ChangeMaps (open_string shut_string)
set_option linter.unusedVariables false
theorem own : ownKnob Try.prog.godebug = none := by kernel_rfl
theorem laidOut : laidOutB Try.prog = true := by kernel_rfl
set_option maxRecDepth 100000 in
theorem lifted (os : Os) (started : os.Started) (H : Type) (enc : TypeId × Value → H) :
    ReturnsInHanded {} Try.checked os 4 .any (Rows.fnExactLayWallSpec.pre6 enc Try.prog Try.f4 Rows.fnExactLayWallRow.domain false) (Rows.fnExactLayWallSpec.post enc Try.prog Try.f4 false true false false) := by
  refine returnsInHanded_of_change (C := Try.checked) own started (by kernel_rfl) Try.func4
    (ChangeSpec.witness6 (enc := enc) (C := Try.checked) false ⟨#[], #[.agg #[.string ByteArray.empty, .slice none 0 0], .int .i64 0, .int .i64 0], []⟩ 8 (by kernel_rfl) (by kernel_rfl) (by kernel_rfl) (by kernel_rfl)) ?_
  intro W base args ds gs before hval0 hW hcnd _
  have hval : ∀ (j : Nat) t v, Try.f4.params[j]? = some t → args[j]? = some v → Value.okWide Try.prog W .any base t v := hval0
  have hW' := hW
  obtain ⟨p, q, hA0, hV, rfl, hfz, hnd⟩ := hW
  have hA : DataW.TrodAll enc Try.prog W 0 (fun _ => true) true Try.f4.params.toList args.toList ds p := hA0
  rw [Try.params4] at hA hval
  obtain ⟨v0, vs0, d0, ds0, p0, q0, hargs, rfl, rfl, h0, r0⟩ := trodAll_cons hA
  obtain ⟨v1, vs1, d1, ds1, p1, q1, rfl, rfl, rfl, h1, r1⟩ := trodAll_cons r0
  obtain ⟨v2, vs2, d2, ds2, p2, q2, rfl, rfl, rfl, h2, r2⟩ := trodAll_cons r1
  obtain ⟨rfl, rfl, rfl⟩ := trodAll_nil r2
  obtain rfl : args = #[v0, v1, v2] := by cases args; simp_all
  obtain ⟨rfl, rfl⟩ := trodVars_none hV
  have k0 := h0
  have lt0 : ∀ x ∈ p0, x.block < W.heap.size := by obtain ⟨m, hm⟩ := k0; exact DataW.trod_lt m _ _ _ hm
  have k1 := h1
  have lt1 : ∀ x ∈ p1, x.block < W.heap.size := by obtain ⟨m, hm⟩ := k1; exact DataW.trod_lt m _ _ _ hm
  have k2 := h2
  have lt2 : ∀ x ∈ p2, x.block < W.heap.size := by obtain ⟨m, hm⟩ := k2; exact DataW.trod_lt m _ _ _ hm
  obtain ⟨g0, k0c, y0a, y0b, m0, rfl, rfl, rfl, t0a, t0b⟩ := open_agg2 Try.underlying24 (by kernel_rfl) (by kernel_rfl) (hval 0 24 v0 rfl rfl) h0
  obtain ⟨a0, rfl, u0⟩ := str_of_field Try.underlying9 ⟨_, _, t0a⟩
  obtain ⟨b0, l0, c0, z0, rfl, w0⟩ := crss_of_field Try.underlying22 Try.underlying99 (by kernel_rfl) (by kernel_rfl) Try.underlying9 Try.underlying9 ⟨_, _, t0b⟩
  obtain ⟨a1, rfl, rfl, rfl, w1⟩ := open_int Try.underlying2 (hval 1 2 v1 rfl rfl) h1
  obtain ⟨a2, rfl, rfl, rfl, w2⟩ := open_int Try.underlying2 (hval 2 2 v2 rfl rfl) h2
  clear hA0 hval0
  refine (walk_FnExactLayWall a0 b0 l0 c0 z0 a1 a2 W u0 w0 (i64_of_wf w1) (i64_of_wf w2)).mono fun e W' ⟨he, bel⟩ => ?_
  subst he
  exact ⟨_, rfl, _, _, _, [], _, [], hW', trodAll_mk1 (shut_bool Try.underlying4 _), (trodAll_cons_mk (Below.trod laidOut (by kernel_rfl) (of_decide_eq_true (by kernel_rfl)) k0 bel lt0) (trodAll_cons_mk (Below.trod laidOut (by kernel_rfl) (of_decide_eq_true (by kernel_rfl)) k1 bel lt1) (trodAll_cons_mk (Below.trod laidOut (by kernel_rfl) (of_decide_eq_true (by kernel_rfl)) k2 bel lt2) trodAll_mk0))), rfl, bel.frame _, fun h => by cases h⟩
theorem over : Rows.fnExactLayWallRow.holds Try.pinned (OpenSpec.ofChange Rows.fnExactLayWallSpec) :=
  OpenClaim.holds_of_wide 4 Try.f4 rfl rfl rfl rfl rfl rfl rfl ⟨rfl, rfl, rfl, rfl, rfl⟩ rfl rfl rfl rfl rfl (by kernel_rfl) Try.func4 (by kernel_rfl)
    (of_decide_eq_true (by kernel_rfl)) (by unfold Func.isWrapper; first | (rw [if_pos (by decide +kernel)]; kernel_rfl) | (rw [if_neg (by decide +kernel)]; exact ⟨rfl, rfl⟩))
    (fun os started H enc _ => lifted os started H enc)
theorem proved : Rows.FnExactLayWallSaid := over
#print axioms proved
end fnExactLayWall
end Go.Proofs.Ytehcmocknmfhcaa
