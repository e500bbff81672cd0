/- The pieces of all parts of a course of a front: the reference's side. -/
import Derived.Test.YtnhmcmohnpbcjaaLayF
import Derived.Test.YtnhmcmohnpbcjaaFrontQ
namespace Go.Proofs.Ytnhmcmohnpbcjaa
open Go.RowKit
set_option linter.unusedSimpArgs false
set_option linter.unusedVariables false
set_option linter.unnecessarySimpa false

set_option maxRecDepth 100000 in
set_option maxHeartbeats 4000000 in
theorem s_LayFront (L C : Int) (ao : Option Addr) (n c : Nat) (os : List Opn) (nm : ByteArray) (bo : Option Addr) (m d : Nat) (cs : List Crs) (q : Int) (w : World) (hx : Opens w ao n os) (hnm : nm.size ≤ 9223372036854775807) (hy : Crss w bo m cs) :
    Calls Try.prog 34 #[.agg #[.int .i64 L, .int .i64 C, .slice ao n c], .agg #[.string nm, .slice bo m d], .int .i64 q] w (RetStrsC (lfL L C os (bts nm) cs q) (lfC L C os (bts nm) cs q) w) := by
  have e0 : Ext w ((w.alloc (.cells #[.int .i64 L, .int .i64 C, .slice ao n c] 30)).alloc (.cells #[.string nm, .slice bo m d] 66)) := ((Ext.refl w).alloc _).alloc _
  have A := (Three.new w (.int .i64 L) (.int .i64 C) (.slice ao n c) 30).ext ((Ext.refl _).alloc (.cells #[.string nm, .slice bo m d] 66))
  have B : Two ((w.alloc (.cells #[.int .i64 L, .int .i64 C, .slice ao n c] 30)).alloc (.cells #[.string nm, .slice bo m d] 66)) (w.heap.size + 1) (.string nm) (.slice bo m d) := by
    have := Two.new (w.alloc (.cells #[.int .i64 L, .int .i64 C, .slice ao n c] 30)) (.string nm) (.slice bo m d) 66
    rwa [World.size_alloc] at this
  have HA := Lib.hid A
  have HBb := Lib.hid B
  have HE := Lib.hid e0
  have HV := Lib.hid (s_l09Ok w.heap.size L C ao n c os _ A (hx.ext e0))
  have HBo := Lib.hid (fun W (e : Ext ((w.alloc (.cells #[.int .i64 L, .int .i64 C, .slice ao n c] 30)).alloc (.cells #[.string nm, .slice bo m d] 66)) W) => s_l04Ok (w.heap.size + 1) nm bo m d cs W (B.ext e) hnm ((hy.ext e0).ext e))
  have HCo := Lib.hid (fun W (e : Ext ((w.alloc (.cells #[.int .i64 L, .int .i64 C, .slice ao n c] 30)).alloc (.cells #[.string nm, .slice bo m d] 66)) W) => s_l09Code w.heap.size L C ao n c os q W (A.ext e) ((hx.ext e0).ext e))
  have hcode : lfC L C os (bts nm) cs q = if validF L C os && bondB (bts nm) cs then (if inB q 0 (C - 1) then (if lfFit (ltrAt cs q) (partsI L q os) then 0 else 5) else 2) else 1 := rfl
  have HNil : Hid (∀ k, lfC L C os (bts nm) cs q = k → k ≠ 0 → ∀ (w' : World), Ext w w' → RetStrsC (lfL L C os (bts nm) cs q) (lfC L C os (bts nm) cs q) w (.returned (.tuple #[.slice none 0 0, .int .i64 k])) w') := Lib.hid (fun k hk h0 w' e => by
    have h : lfL L C os (bts nm) cs q = [] := by unfold lfL; rw [if_neg (by rw [hk]; exact h0)]
    rw [h]
    exact RetStrsC.of_own (OwnStrs.nilv _ _) e hk.symm)
  clear e0
  cases hv : validF L C os with
  | false =>
    have HC : Hid (lfC L C os (bts nm) cs q = 1) := Lib.hid (by rw [hcode, hv]; rfl)
    rw [hv] at HV
    clear hv hcode hx hy A B
    go_enter Try.func34, Try.ntmps34
    go_wp2_with (go_at_call 46; refine HV.out.mono ?_; rintro e w1 ⟨rfl, e1⟩)
    go_ret2
    exact HNil.out 1 HC.out (by decide) _ (HE.out.trans e1)
  | true =>
    cases hb : bondB (bts nm) cs with
    | false =>
      have HC : Hid (lfC L C os (bts nm) cs q = 1) := Lib.hid (by rw [hcode, hv, hb]; rfl)
      rw [hv] at HV
      rw [hb] at HBo
      clear hv hb hcode hx hy A B
      go_enter Try.func34, Try.ntmps34
      go_wp2_with (first | (go_at_call 46; refine HV.out.mono ?_; rintro e w1 ⟨rfl, e1⟩; have HE1 := Lib.hid e1; clear e1) | (go_at_call 73; refine (HBo.out _ HE1.out).mono ?_; rintro e w2 ⟨rfl, e2⟩))
      go_ret2
      exact HNil.out 1 HC.out (by decide) _ (HE.out.trans (HE1.out.trans e2))
    | true =>
      cases hq : inB q 0 (C - 1) with
      | false =>
        have HC : Hid (lfC L C os (bts nm) cs q = 2) := Lib.hid (by rw [hcode, hv, hb, hq]; rfl)
        have hcr : crC L C q os = 2 := by unfold crC; rw [hv, hq]; rfl
        rw [hv] at HV
        rw [hb] at HBo
        rw [hcr] at HCo
        clear hv hb hq hcode hx hy A B hcr
        go_enter Try.func34, Try.ntmps34
        go_wp2_with (first | (go_at_call 46; refine HV.out.mono ?_; rintro e w1 ⟨rfl, e1⟩; have HE1 := Lib.hid e1; clear e1) | (go_at_call 73; refine (HBo.out _ HE1.out).mono ?_; rintro e w2 ⟨rfl, e2⟩; have HE2 := Lib.hid (HE1.out.trans e2); clear e2) | (go_at_call 74; refine (HCo.out _ HE2.out).mono ?_; rintro e w3 ⟨rfl, e3⟩; have HE3 := Lib.hid (HE2.out.trans e3); clear e3))
        go_ret2
        exact HNil.out 2 HC.out (by decide) _ (HE.out.trans HE3.out)
      | true =>
        have hqb := inB_iff.1 hq
        obtain ⟨⟨l1, l2⟩, ⟨c1, c2⟩, n8, hok⟩ := validF_bd hv
        obtain ⟨b1, b2, b3⟩ := bondB_bd hb
        have hxl := hx.1
        have hyl := hy.1
        have hcr : crC L C q os = 0 := by unfold crC; rw [hv, hq]; rfl
        have HP := Lib.hid (fun W (e : Ext ((w.alloc (.cells #[.int .i64 L, .int .i64 C, .slice ao n c] 30)).alloc (.cells #[.string nm, .slice bo m d] 66)) W) => s_l09Parts w.heap.size L C ao n c os q W (A.ext e) ((hx.ext HE.out).ext e) l1 l2 c2 hok)
        have HLay := Lib.hid (fun W (e : Ext ((w.alloc (.cells #[.int .i64 L, .int .i64 C, .slice ao n c] 30)).alloc (.cells #[.string nm, .slice bo m d] 66)) W) u (u1 : 1 ≤ u) (u2 : u ≤ 200) => s_l06Lay (w.heap.size + 1) nm bo m d cs q u W (B.ext e) ((hy.ext HE.out).ext e) (by omega) (by omega) b3 (by omega) (by omega) u1 u2)
        have hpb := parts_bd (c := q) hok
        have hlen := partsI_len L q os
        have HLL : Hid (lfC L C os (bts nm) cs q = if lfFit (ltrAt cs q) (partsI L q os) = true then 0 else 5) := Lib.hid (by rw [hcode, hv, hb, hq]; rfl)
        have HLF : Hid (lfFit (ltrAt cs q) (partsI L q os) = true → lfL L C os (bts nm) cs q = lfT (ltrAt cs q) (partsI L q os)) := Lib.hid (fun h => by unfold lfL; rw [if_pos (by rw [HLL.out, if_pos h])])
        obtain ⟨f, hf⟩ : ∃ f, ltrAt cs q = f := ⟨_, rfl⟩
        obtain ⟨ps, hps⟩ : ∃ ps, partsI L q os = ps := ⟨_, rfl⟩
        rw [hf] at HLay HLL HLF
        rw [hps] at HP hpb hlen HLL HLF
        have hpl : ps.length ≤ 9 := by omega
        have HPB := Lib.hid hpb
        rw [hv] at HV
        rw [hb] at HBo
        rw [hcr] at HCo
        clear hv hb hq hcode hx hy hf hps hpb hlen hok hxl hyl b1 b2 b3 A B hcr
        go_enter Try.func34, Try.ntmps34
        go_wp2_with (first | (go_at_call 46; refine HV.out.mono ?_; rintro e w1 ⟨rfl, e1⟩; have HE1 := Lib.hid e1; clear e1) | (go_at_call 73; refine (HBo.out _ HE1.out).mono ?_; rintro e w2 ⟨rfl, e2⟩; have HE2 := Lib.hid (HE1.out.trans e2); clear e2) | (go_at_call 74; refine (HCo.out _ HE2.out).mono ?_; rintro e w3 ⟨rfl, e3⟩; have HE3 := Lib.hid (HE2.out.trans e3); clear e3) | (go_at_call 75; refine (HP.out _ HE3.out).mono ?_; rintro e w4 ⟨a4, c4, rfl, o4, e4⟩; have HO4 := Lib.hid o4; have HE4 := Lib.hid (HE3.out.trans e4); clear o4 e4))
        have hbk : ∀ W, Ext (((w.alloc (.cells #[.int .i64 L, .int .i64 C, .slice ao n c] 30)).alloc (.cells #[.string nm, .slice bo m d] 66))) W → W.heap[w.heap.size + 1]? = some (.cells #[.string nm, .slice bo m d] 66 (0, 0)) := fun W e => e.block (by
          have := heap_alloc_new (w.alloc (.cells #[.int .i64 L, .int .i64 C, .slice ao n c] 30)) (.cells #[.string nm, .slice bo m d] 66)
          rwa [World.size_alloc] at this)
        have hk0 : KF w4 (w.heap.size + 1) nm bo m d w3.heap.size a4 c4 ps (.slice (some ⟨w4.heap.size, 0, none⟩) 0 0) (lfT f (ps.take 0)) (w4.alloc (.cells #[] 9)) :=
          ⟨hbk _ (HE4.out.alloc _), HO4.out.ext ((Ext.refl _).alloc _), OwnStrs.empty (Ext.refl w4), (Ext.refl w4).alloc _⟩
        have HK0 := Lib.hid hk0
        obtain ⟨bse, hbse⟩ : ∃ b, w3.heap.size = b := ⟨_, rfl⟩
        rw [hbse] at HK0
        clear hbk hk0 hbse HO4
        go_wp2
        go_loopw [10, 11] (fun v i wr => ∃ k : Nat, k ≤ ps.length ∧ i = .int .i64 k ∧ Hid (KF w4 (w.heap.size + 1) nm bo m d bse a4 c4 ps v (lfT f (ps.take k)) wr) ∧ Hid (lfFit f (ps.take k) = true)) (fun _ i _ => ps.length - (intOf i).toNat)
        case atStart => exact ⟨0, Nat.zero_le _, rfl, HK0, Lib.hid rfl⟩
        case round =>
          obtain ⟨k, hk, rfl, HK, HFit⟩ := hrel
          have HX2 := Lib.hid HK.out.2.2.2
          by_cases hkl : k < ps.length
          · obtain ⟨gp, rfl, d0, d1⟩ := HK.out.2.1.at hkl
            have hp := HPB.out (ps.getD k (0, 0)) (by rw [List.getD_eq_getElem?_getD, List.getElem?_eq_getElem hkl]; exact List.getElem_mem _)
            obtain ⟨p, hpe⟩ : ∃ p, ps.getD k (0, 0) = p := ⟨_, rfl⟩
            rw [hpe] at d0 d1 hp
            obtain ⟨x, y⟩ := p
            have hp' : 0 ≤ x ∧ x < y ∧ y ≤ L := hp
            have d0' : wr.cell? ⟨gp, k * 2, none⟩ = some (.int .i64 x) := d0
            have d1' : wr.cell? ⟨gp, k * 2 + 1, none⟩ = some (.int .i64 y) := d1
            have hki : (k : Int) < (ps.length : Int) := by omega
            have hk0 : (0 : Int) ≤ (k : Int) := by omega
            have HL := Lib.hid (fun W (e : Ext wr W) => HLay.out W (((HE4.out.trans HX2.out)).trans e) (y - x) (by omega) (by omega))
            have HSN := Lib.hid (lfT_snoc f ps k x y hkl hpe)
            have HFN := Lib.hid (lfFit_snoc hkl hpe HFit.out)
            have HFB := Lib.hid (lfFit_bad (f := f) hkl hpe)
            have HLN : Hid ((lfT f (ps.take k)).length ≤ 10000000) := Lib.hid (by rw [lfT_len, List.length_take]; omega)
            clear hp hpe d0 d1
            obtain ⟨t, ht⟩ : ∃ t, layT f (y - x) = t := ⟨_, rfl⟩
            rw [ht] at HL HSN HFN HFB
            have hsz := mkS_size t
            obtain ⟨z, hz⟩ : ∃ z, mkS t = z := ⟨_, rfl⟩
            rw [hz] at HL HSN hsz
            have HSZ := Lib.hid hsz
            have HL2 := Lib.hid (fun W (e : Ext wr W) => HL.out W e)
            obtain ⟨α, hne, F, hK⟩ := cls_of wr
            have HKF := Lib.hid hK
            have s0 := hK.cell d0'
            have s1 := hK.cell d1'
            clear hK ht hz hsz d0' d1'
            by_cases hbig : 60 < t.length
            · have HC : Hid (lfC L C os (bts nm) cs q = 5) := Lib.hid (by rw [HLL.out, HFB.out hbig]; rfl)
              have hzb : (60 : Int) < (z.size : Int) := by have := HSZ.out; omega
              go_upto_region 11 with fail
              refine wp_region_cls F (by kernel_rfl) (by kernel_rfl) HKF.out.drew ?_
              repeat (go_big_quiet_step ((first | (go_at_call 76; exact HKF.out.retE (HL2.out _ (HKF.out.ext _))))))
              refine wpQuiet_nil ?_
              rintro _ ⟨zz, rfl⟩
              have HZ := Lib.hid (HKF.out.ext zz)
              go_wp2
              go_ret2
              exact HNil.out 5 HC.out (by decide) _ ((HE.out.trans (HE4.out.trans HX2.out)).trans HZ.out)
            · have HFN2 := Lib.hid (HFN.out hbig)
              have hzb : ¬ (60 : Int) < (z.size : Int) := by have := HSZ.out; omega
              have HZS : Hid (z.size ≤ 9223372036854775807) := Lib.hid (by have := HSZ.out; omega)
              go_upto_region 11 with fail
              refine wp_region_cls F (by kernel_rfl) (by kernel_rfl) HKF.out.drew ?_
              repeat (go_big_quiet_step ((first | (go_at_call 76; exact HKF.out.retE (HL2.out _ (HKF.out.ext _))))))
              refine wpQuiet_nil ?_
              rintro _ ⟨zz, rfl⟩
              have HK4 := Lib.hid (HK.out.ext (HKF.out.ext zz))
              go_wp2_with (at_builtin; refine wpList_append_strb (base := w4.heap.size) rfl _ _ rfl _ _ z rfl rfl rfl HK4.out.2.2.1 HK4.out.2.2.2.size HZS.out HLN.out ?_)
              intro v' w5 ho5 hg5
              have HK5 : Hid (KF w4 (w.heap.size + 1) nm bo m d bse (some ⟨gp, 0, none⟩) c4 ps v' (lfT f (ps.take (k + 1))) w5) := Lib.hid (by rw [HSN.out]; exact HK4.out.app hg5 ho5)
              clear ho5 hg5
              go_wp2
              go_roundw
              case rel => first | exact ⟨k + 1, by omega, by go_num, HK5, HFN2⟩ | ((repeat apply Exists.intro); exact ⟨⟨k + 1, by omega, by go_num, HK5, HFN2⟩, rfl⟩)
              case measure => (simp [intOf] <;> omega)
          · obtain rfl : k = ps.length := by omega
            have hfit := HFit.out
            have hst := HK.out.2.2.1
            rw [List.take_of_length_le (Nat.le_refl _)] at hfit hst
            have HC : Hid (lfC L C os (bts nm) cs q = 0) := Lib.hid (by rw [HLL.out, if_pos hfit])
            have HLF2 := Lib.hid (HLF.out hfit)
            have HST := Lib.hid hst
            clear hfit hst
            go_wp2
            go_ret2
            exact RetStrsC.of_own (by rw [HLF2.out]; exact HST.out.mono (HE.out.trans HE4.out).size) (HE.out.trans (HE4.out.trans HX2.out)) HC.out.symm
end Go.Proofs.Ytnhmcmohnpbcjaa
