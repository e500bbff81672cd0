/- For every two rows of bytes the law FnLaid answers true: the perpends of a course that is laid are those of the bond. No condition. -/
import Derived.Test.YtehcmocknmfhcaaLaid
import Derived.Test.YtehcmocknmfhcaaBond7
import Derived.Test.YtehcmocknmfhcaaOpenU
namespace Go.Proofs.Ytehcmocknmfhcaa
open Go.RowKit
set_option linter.unusedSimpArgs false
set_option linter.unusedVariables false
set_option linter.unnecessarySimpa false

theorem valid_ofL {l : List UInt8} {L : Nat} (h : l.all isPc = true) (hq : qSum l = L) (h1 : 1 ≤ L) (h2 : L ≤ 40) : validC l = true := by
  have h3 := qSum_ge' h
  have h4 : l ≠ [] := fun e => by rw [e, qSum_nil] at hq; omega
  have h5 : 0 < l.length := List.length_pos_iff.2 h4
  unfold validC
  rw [h, show inB l.length 1 60 = true by simp [inB]; omega]
  simp; omega
theorem laid_len {cs : List Crs} (h1 : 1 ≤ cs.length) (h3 : cs.all crsOk = true) (k : Int) {L : Nat} (hL : L ≤ 40) : (layT (ltrAt cs k) L).length ≤ 41 := by
  have := layT_len (f := ltrAt cs k) (n := L) (ltrAt_q h1 h3 k) (by omega)
  omega
theorem laid_fit {cs : List Crs} (h1 : 1 ≤ cs.length) (h3 : cs.all crsOk = true) {L : Nat} (hL : L ≤ 40) (m : Nat) : layFit (wallF cs) L m = true := by
  unfold layFit
  rw [List.all_eq_true]
  intro k _
  have := laid_len h1 h3 (k : Int) hL
  simp only [decide_eq_true_eq]
  show (layT (ltrAt cs (k : Int)) L).length ≤ 60
  omega
set_option maxRecDepth 100000 in
set_option maxHeartbeats 4000000 in
theorem walk_FnLaid (ao : Option Addr) (n c : Nat) (bs : List UInt8) (bo : Option Addr) (m d : Nat) (ds : List UInt8) (w : World) (hx : U8x w ao n bs) (hy : U8x w bo m ds) :
    Calls Try.prog 5 #[.slice ao n c, .slice bo m d] w fun e w' => e = .returned (.bool true) ∧ Below w.heap.size w w' := by
  have HLO := Lib.hid (fun W => l_a2Long ao bo n m c d W hx.2.1 hy.2.1)
  have hlong : longB n m = false → n ≤ 3000 ∧ m ≤ 3000 := fun h => by unfold longB at h; simp at h; omega
  cases hl : longB n m with
  | true =>
    rw [hl] at HLO
    clear hx hy hlong hl
    go_enter Try.func5, Try.ntmps5
    go_wp2_with (go_at_call 20; refine (HLO.out _).mono ?_; rintro e w' ⟨rfl, rfl⟩)
    go_ret
    exact ⟨rfl, Below.refl _ _⟩
  | false =>
    rw [hl] at HLO
    have ⟨hn, hm⟩ := hlong hl
    have HX := Lib.hid (hx.small (by omega))
    have HY := Lib.hid (hy.small (by omega))
    clear hx hy hlong hl hn hm
    go_enter Try.func5, Try.ntmps5
    go_wp2_with (go_at_call 20; refine (HLO.out _).mono ?_; rintro e w' ⟨rfl, rfl⟩)
    refine (s_A2Bond ao n c bs w HX.out).mono ?_
    rintro e w1 ⟨nm, cs, a1, c1, rfl, hbd, hns, hcr, e1⟩
    have HE1 := Lib.hid e1
    have ⟨hl1, hl8, hall⟩ := bondB_bd hbd
    obtain ⟨n1, hn1⟩ : ∃ n, cs.length = n := ⟨_, rfl⟩
    rw [hn1] at hcr ⊢
    have HB1 := Lib.hid (blk_at w1 (.cells #[.string nm, .slice a1 n1 c1] 30) _ rfl)
    have HEB : Hid (Ext w (w1.alloc (.cells #[.string nm, .slice a1 n1 c1] 30))) := Lib.hid (e1.alloc _)
    have HCR : Hid (Crss (w1.alloc (.cells #[.string nm, .slice a1 n1 c1] 30)) a1 n1 cs) := Lib.hid (hcr.ext ((Ext.refl _).alloc _))
    have HBD := Lib.hid hbd
    have HNS := Lib.hid hns
    have HL1 := Lib.hid hl1
    have HAL := Lib.hid hall
    clear e1 hbd hns hcr hl1 hl8 hall hn1
    go_wp2_with fail
    refine (s_A2Length bo m d ds _ (HY.out.ext HEB.out)).mono ?_
    rintro e w2 ⟨L, L1, L2, rfl, e2⟩
    have HE2 := Lib.hid e2
    clear e2
    go_wp2_with fail
    refine (l_a2At bo m d ds 5 12 _ (HY.out.ext (HEB.out.trans HE2.out)) (by decide) (by decide)).mono ?_
    rintro e w3 ⟨x, x1, x2, rfl, e3⟩
    have HE3 := Lib.hid (HE2.out.trans e3)
    clear e3
    obtain ⟨q0, q1, q2, q3, q4⟩ := two_cells (HE3.out.block HB1.out)
    have hcode : codeB (bts nm) cs x L = 0 := by
      unfold codeB
      rw [if_pos HBD.out, if_pos]
      constructor <;> simp [inB] <;> omega
    have hlen := laid_len HL1.out HAL.out x L2
    have hpc : (layT (ltrAt cs x) L).all isPc = true := layT_pc (fun i => ltrAt_pc HL1.out HAL.out x i)
    have hsum : qSum (layT (ltrAt cs x) L) = L := layT_qSum (ltrAt_q HL1.out HAL.out x) (by omega)
    have hval := valid_ofL hpc hsum L1 L2
    have hLC := fun W (e : Ext w3 W) => i_LayCourse nm a1 n1 c1 cs x L W (by have := HNS.out; omega) (HCR.out.ext (HE3.out.trans e))
    have hPO := fun W (e : Ext w3 W) => s_PerpendsOf nm a1 n1 c1 cs x L W (by have := HNS.out; omega) (HCR.out.ext (HE3.out.trans e)) hcode
    have hLW := fun W (e : Ext w3 W) => i_LayWall nm a1 n1 c1 cs L (x + 1) W (by have := HNS.out; omega) (HCR.out.ext (HE3.out.trans e))
    have e1 : lcL (bts nm) cs x L = layT (ltrAt cs x) L := by unfold lcL layL; rw [if_pos hcode, if_neg (by omega)]
    have e2 : lcC (bts nm) cs x L = 0 := by unfold lcC layCd; rw [if_pos hcode, if_neg (by omega)]
    have e3 : lwC (bts nm) cs L (x + 1) = 0 := by
      unfold lwC
      rw [if_pos HBD.out, if_pos (by constructor <;> simp [inB] <;> omega), if_pos (laid_fit HL1.out HAL.out L2 _)]
    obtain ⟨k, rfl⟩ := Int.eq_ofNat_of_zero_le x1
    have e4 : lwL (bts nm) cs L ((k : Int) + 1) = layAll (wallF cs) L (k + 1) := by unfold lwL; rw [if_pos e3]; rfl
    have e5 : (layAll (wallF cs) L (k + 1)).length = k + 1 := layAll_len _ _ _
    have e6 : (layAll (wallF cs) L (k + 1)).getD k ByteArray.empty = mkS (layT (ltrAt cs k) L) := by
      rw [layAll_succ, List.getD_eq_getElem?_getD, List.getElem?_append_right (by rw [layAll_len]; exact Nat.le_refl _), layAll_len, Nat.sub_self]
      rfl
    rw [e1, e2] at hLC
    rw [e4, e3] at hLW
    obtain ⟨ws, hws⟩ : ∃ ws, layAll (wallF cs) L (k + 1) = ws := ⟨_, rfl⟩
    rw [hws] at hLW e5 e6
    obtain ⟨l, hl⟩ : ∃ l, layT (ltrAt cs (k : Int)) L = l := ⟨_, rfl⟩
    rw [hl] at hLC hPO hval hsum hlen e6
    have hsz := mkS_size l
    obtain ⟨z, hz⟩ : ∃ z, mkS l = z := ⟨_, rfl⟩
    have hbz : bts z = l := by rw [← hz]; exact bts_mkS l
    rw [hz] at hsz e6
    have hCP := fun W => i_CoursePerpends z (by omega) W
    have hCL := fun W => s_CourseLength z (by omega) W
    have e7 : perpsC l = perps l := by unfold perpsC; rw [if_pos hval]
    rw [hbz, hval, e7] at hCP
    rw [hbz, hval, hsum] at hCL
    obtain ⟨ps, hps⟩ : ∃ ps, perps l = ps := ⟨_, rfl⟩
    rw [hps] at hCP hPO
    have HLC : Hid (∀ W, Ext w3 W → Calls Try.prog 12 #[.agg #[.string nm, .slice a1 n1 c1], .int .i64 k, .int .i64 L] W (RetSC l 0 W)) := Lib.hid hLC
    have HCP : Hid (∀ W, Calls Try.prog 24 #[.string z] W (RetIntsC ps 0 W)) := Lib.hid hCP
    have HPO : Hid (∀ W, Ext w3 W → Calls Try.prog 25 #[.agg #[.string nm, .slice a1 n1 c1], .int .i64 k, .int .i64 L] W (RetIntsC ps 0 W)) := Lib.hid hPO
    have HCL : Hid (∀ W, Calls Try.prog 26 #[.string z] W (Pair L 0 W)) := Lib.hid hCL
    have HLW : Hid (∀ W, Ext w3 W → Calls Try.prog 15 #[.agg #[.string nm, .slice a1 n1 c1], .int .i64 L, .int .i64 ((k : Int) + 1)] W (RetStrsC ws 0 W)) := Lib.hid hLW
    have H5 := Lib.hid e5
    have H6 := Lib.hid e6
    have HZ := Lib.hid hz
    have HSA := Lib.hid (fun (p q : Option Addr) (s t u v : Nat) W (h1 : Ints W p s ps) (h2 : Ints W q t ps) => l_a2Same p q s t u v ps ps W h1 h2)
    rw [show (ps == ps) = true by simp] at HSA
    have HB3 := Lib.hid (HE3.out.block HB1.out)
    clear hcode hlen hpc hsum hval hLC hPO hLW e1 e2 e3 e4 e5 e6 e7 hws hl hsz hz hbz hCP hCL hps
    have HKL : Hid (k < k + 1) := Lib.hid (Nat.lt_succ_self k)
    go_wp2_with (first
      | (go_at_call 12; refine (HLC.out _ (Ext.refl _)).mono ?_; rintro e w4 ⟨rfl, e4⟩; rw [HZ.out]; have HE4 := Lib.hid e4; clear e4)
      | (go_at_call 24; refine (HCP.out _).mono ?_; rintro e w5 ⟨a5, c5, rfl, o5, e5⟩; have HI5 := Lib.hid o5.ints; have HE5 := Lib.hid (HE4.out.trans e5); obtain ⟨u0, u1, u2, u3, u4⟩ := two_cells (HE5.out.block HB3.out); clear o5 e5)
      | (go_at_call 25; refine (HPO.out _ HE5.out).mono ?_; rintro e w6 ⟨a6, c6, rfl, o6, e6⟩; have HI6 := Lib.hid o6.ints; have HJ6 := Lib.hid (HI5.out.ext e6); have HE6 := Lib.hid (HE5.out.trans e6); obtain ⟨v0, v1, v2, v3, v4⟩ := two_cells (HE6.out.block HB3.out); clear o6 e6)
      | (go_at_call 26; refine (HCL.out _).mono ?_; rintro e w' ⟨rfl, rfl⟩)
      | (go_at_call 15; refine (HLW.out _ HE6.out).mono ?_; rintro e w7 ⟨a7, c7, rfl, o7, e7⟩; rw [H5.out] at o7 ⊢; have HS7 := Lib.hid o7.strs; have HE7 := Lib.hid (HE6.out.trans e7); have HX7 := Lib.hid e7; clear o7 e7)
      | (go_at_call 27; refine (HSA.out _ _ _ _ _ _ _ (HJ6.out.ext HX7.out) (HI6.out.ext HX7.out)).mono ?_; rintro e w8 ⟨rfl, e8⟩; obtain ⟨b9, o9, rfl, d9⟩ := (HS7.out.ext e8).2.2.1 k HKL.out; rw [H6.out] at d9; have HE8 := Lib.hid (HE7.out.trans e8); clear e8))
    go_ret
    exact ⟨rfl, (HEB.out.trans HE3.out).trans HE8.out⟩
/-! ### the row's step: written by a program of mine (frame.py) after the guide's own frame -/
namespace fnLaid
open Go.ChangeShapes Go.WideShapes Go.ChangeAt Go.RowKit Go.Joins
open Go.ChangeMaps (open_string shut_string)
set_option linter.unusedVariables false
theorem own : ownKnob Try.prog.godebug = none := by kernel_rfl
theorem laidOut : laidOutB Try.prog = true := by kernel_rfl
set_option maxRecDepth 100000 in
theorem lifted (os : Os) (started : os.Started) (H : Type) (enc : TypeId × Value → H) :
    ReturnsInHanded {} Try.checked os 5 .any (Rows.fnLaidSpec.pre6 enc Try.prog Try.f5 Rows.fnLaidRow.domain false) (Rows.fnLaidSpec.post enc Try.prog Try.f5 false true false false) := by
  refine returnsInHanded_of_change (C := Try.checked) own started (by kernel_rfl) Try.func5
    (ChangeSpec.witness6 (enc := enc) (C := Try.checked) false ⟨#[], #[.slice none 0 0, .slice none 0 0], []⟩ 8 (by kernel_rfl) (by kernel_rfl) (by kernel_rfl) (by kernel_rfl)) ?_
  intro W base args ds gs before hval0 hW hcnd _
  have hval : ∀ (j : Nat) t v, Try.f5.params[j]? = some t → args[j]? = some v → Value.okWide Try.prog W .any base t v := hval0
  have hW' := hW
  obtain ⟨p, q, hA0, hV, rfl, hfz, hnd⟩ := hW
  have hA : DataW.TrodAll enc Try.prog W 0 (fun _ => true) true Try.f5.params.toList args.toList ds p := hA0
  rw [Try.params5] at hA hval
  obtain ⟨v0, vs0, d0, ds0, p0, q0, hargs, rfl, rfl, h0, r0⟩ := trodAll_cons hA
  obtain ⟨v1, vs1, d1, ds1, p1, q1, rfl, rfl, rfl, h1, r1⟩ := trodAll_cons r0
  obtain ⟨rfl, rfl, rfl⟩ := trodAll_nil r1
  obtain rfl : args = #[v0, v1] := by cases args; simp_all
  obtain ⟨rfl, rfl⟩ := trodVars_none hV
  have k0 := h0
  have lt0 : ∀ x ∈ p0, x.block < W.heap.size := by obtain ⟨m, hm⟩ := k0; exact DataW.trod_lt m _ _ _ hm
  have k1 := h1
  have lt1 : ∀ x ∈ p1, x.block < W.heap.size := by obtain ⟨m, hm⟩ := k1; exact DataW.trod_lt m _ _ _ hm
  obtain ⟨b0, l0, c0, rfl⟩ := okWide_slice Try.underlying40 (hval 0 40 v0 rfl rfl)
  obtain ⟨z0, w0⟩ := u8x_of_trod Try.underlying40 Try.underlying5 (by kernel_rfl) h0
  obtain ⟨b1, l1, c1, rfl⟩ := okWide_slice Try.underlying40 (hval 1 40 v1 rfl rfl)
  obtain ⟨z1, w1⟩ := u8x_of_trod Try.underlying40 Try.underlying5 (by kernel_rfl) h1
  clear hA0 hval0
  refine (walk_FnLaid b0 l0 c0 z0 b1 l1 c1 z1 W w0 w1).mono fun e W' ⟨he, bel⟩ => ?_
  subst he
  exact ⟨_, rfl, _, _, _, [], _, [], hW', trodAll_mk1 (shut_bool Try.underlying4 _), (trodAll_cons_mk (Below.trod laidOut (by kernel_rfl) (of_decide_eq_true (by kernel_rfl)) k0 bel lt0) (trodAll_cons_mk (Below.trod laidOut (by kernel_rfl) (of_decide_eq_true (by kernel_rfl)) k1 bel lt1) trodAll_mk0)), rfl, bel.frame _, fun h => by cases h⟩
theorem over : Rows.fnLaidRow.holds Try.pinned (OpenSpec.ofChange Rows.fnLaidSpec) :=
  OpenClaim.holds_of_wide 5 Try.f5 rfl rfl rfl rfl rfl rfl rfl ⟨rfl, rfl, rfl, rfl, rfl⟩ rfl rfl rfl rfl rfl (by kernel_rfl) Try.func5 (by kernel_rfl)
    (of_decide_eq_true (by kernel_rfl)) (by unfold Func.isWrapper; first | (rw [if_pos (by decide +kernel)]; kernel_rfl) | (rw [if_neg (by decide +kernel)]; exact ⟨rfl, rfl⟩))
    (fun os started H enc _ => lifted os started H enc)
theorem proved : Rows.FnLaidSaid := over
#print axioms proved
end fnLaid
end Go.Proofs.Ytehcmocknmfhcaa
