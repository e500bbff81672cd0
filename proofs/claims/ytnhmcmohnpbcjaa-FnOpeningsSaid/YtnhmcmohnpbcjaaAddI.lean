/- An opening is added to a front: the program's side. -/
import Derived.Test.YtnhmcmohnpbcjaaInsO
import Derived.Test.YtnhmcmohnpbcjaaGaAdd
import Derived.Deep.RegionHeld3
namespace Go.Proofs.Ytnhmcmohnpbcjaa
open Go.RowKit
set_option linter.unusedSimpArgs false
set_option linter.unusedVariables false
set_option linter.unnecessarySimpa false

theorem put_search {L C : Int} {os : List Opn} {x : Opn} (h : okTo L C os os.length = true) (hx : isOpn L C x = true) (hh : hitO os x = false) (i : Nat) (hi : i < os.length) : befB (os.getD i default) x = decide (i < putPos os x os.length) := by
  obtain ⟨hw, h2⟩ := wfo_of h
  unfold hitO at hh
  rw [List.any_eq_false] at hh
  have hno : ∀ o ∈ os, ovl o x = false := fun o ho => by have := hh o ho; simpa using this
  have haft := putPos_aft os x os.length
  have hbef := putPos_bef os x os.length
  have hp := putPos_le os x os.length
  obtain ⟨p, hpe⟩ : ∃ p, putPos os x os.length = p := ⟨_, rfl⟩
  rw [hpe] at haft hbef hp ⊢
  by_cases hlt : i < p
  · rw [decide_eq_true hlt, getD_lt hi]
    have hb0 := hbef (by omega)
    rw [getD_lt (show p - 1 < os.length by omega)] at hb0
    have ham := List.getElem_mem hi
    refine befB_tri (h2 _ ham) hx (hno _ ham) ?_
    by_cases e : i = p - 1
    · subst e; exact hb0
    · cases hc : befB x os[i] with
      | false => rfl
      | true =>
        unfold WFO at hw
        rw [List.pairwise_iff_getElem] at hw
        have := befB_trans hc (hw i (p - 1) (by omega) (by omega) (by omega)).1
        rw [this] at hb0; cases hb0
  · rw [decide_eq_false hlt]
    have h1 := haft i (by omega) hi
    cases hc : befB (os.getD i default) x with
    | false => rfl
    | true => rw [befB_iff] at h1 hc; omega
set_option maxRecDepth 100000 in
set_option maxHeartbeats 4000000 in
theorem i_AddOpening (L C : Int) (ao : Option Addr) (n c : Nat) (os : List Opn) (x : Opn) (w : World) (hx : Opens w ao n os) (hnc : n ≤ c) (hc : ao = none → c = 0) (hxo : x.ok) :
    Calls Try.prog 14 #[.agg #[.int .i64 L, .int .i64 C, .slice ao n c], opnV x] w (RetAdd L C os x w) := by
  have hcode : addC L C os x = if validF L C os then (if isOpn L C x then (if hitO os x then 9 else if os.length < 8 then 0 else 5) else 2) else 1 := rfl
  have hsea : validF L C os = true → isOpn L C x = true → hitO os x = false → ∀ i, i < os.length → befB (os.getD i default) x = decide (i < putPos os x os.length) := fun h1 h2 h3 => put_search (validF_bd h1).2.2.2 h2 h3
  obtain ⟨x1, x2, x3, x4⟩ := x
  have hl := hx.1
  have HW := Lib.hid (addW_ext w L C (.slice ao n c) x1 x2 x3 x4)
  have HA := Lib.hid (addW_three w L C (.slice ao n c) x1 x2 x3 x4)
  have HF := Lib.hid (addW_four w L C (.slice ao n c) x1 x2 x3 x4)
  have HR := Lib.hid (addW_res w L C (.slice ao n c) x1 x2 x3 x4)
  have HX := Lib.hid (hx.ext HW.out)
  have HXO := Lib.hid hxo
  have HV := Lib.hid (i_ValidFront L C ao n c os _ HX.out hnc)
  have HO := Lib.hid (fun W => i_isOpening L C ao n c ⟨x1, x2, x3, x4⟩ W)
  obtain ⟨a0, a1, a2, _⟩ := HA.out
  have hF := HF.out
  simp only [Four, Nat.zero_add] at hF
  obtain ⟨o0, o1, o2, o3⟩ := hF
  obtain ⟨WA, hWA⟩ : ∃ W, addW w L C (.slice ao n c) x1 x2 x3 x4 = W := ⟨_, rfl⟩
  rw [hWA] at HW HA HF HR HX HV a0 a1 a2 o0 o1 o2 o3
  have HCF : Hid (∀ W, Ext WA W → Calls Try.prog 53 #[.slice ao n c, .func (.func 54) #[] #[.pointer (some ⟨w.heap.size + 1, 0, none⟩)]] W (RetE (.bool (hitO os ⟨x1, x2, x3, x4⟩)) W)) := Lib.hid (fun W e => by
    have h := f_ContainsFunc_opn 54 #[.pointer (some ⟨w.heap.size + 1, 0, none⟩)] (fun p => ovl ⟨x1, x2, x3, x4⟩ p) ao n c os W (HX.out.ext e) enters_AddOpening1 (fun p w' hm e' => i_AddOpening_1 p ⟨x1, x2, x3, x4⟩ (w.heap.size + 1) w' (HF.out.ext (e.trans e')))
    have e2 : os.any (fun p => ovl ⟨x1, x2, x3, x4⟩ p) = hitO os ⟨x1, x2, x3, x4⟩ := by unfold hitO; congr 1; funext p; exact ovl_comm _ _
    rwa [e2] at h)
  cases hv : validF L C os with
  | false =>
    have HC : Hid (addC L C os ⟨x1, x2, x3, x4⟩ = 1) := Lib.hid (by rw [hcode, hv]; rfl)
    rw [hv] at HV
    clear hv hcode hx hsea
    go_enter Try.func14, Try.ntmps14
    go_wp2_with fail
    clear hWA a0 a1 a2 o0 o1 o2 o3
    refine HV.out.mono ?_
    rintro e w1 ⟨rfl, e1⟩
    have EE := Lib.hid e1
    clear e1
    obtain ⟨r0, r1, r2, g0, g1, g2, _⟩ := three_cells (EE.out.block HR.out)
    go_wp2
    have hb := heap_setC 2 (.slice none 0 0) (heap_setC 1 (.int .i64 0) (heap_setC 0 (.int .i64 0) (EE.out.block HR.out)))
    obtain ⟨y0, y1, y2, _⟩ := three_cells hb
    refine bodyPost_ret (v := .tuple #[.agg #[.int .i64 0, .int .i64 0, .slice none 0 0], .int .i64 1]) (by simp [results, Try.results14, go_sem, y0, y1, y2]) rfl ?_
    exact RetAdd.bad HC.out (by decide) (ext_set3 (HW.out.trans EE.out) (by omega) _ _ _)
  | true =>
    rw [hv] at HV
    cases ho : isOpn L C ⟨x1, x2, x3, x4⟩ with
    | false =>
      have HC : Hid (addC L C os ⟨x1, x2, x3, x4⟩ = 2) := Lib.hid (by rw [hcode, hv, ho]; rfl)
      rw [ho] at HO
      clear hv ho hcode hx hsea
      go_enter Try.func14, Try.ntmps14
      go_wp2_with fail
      clear hWA a0 a1 a2 o0 o1 o2 o3
      refine HV.out.mono ?_
      rintro e w1 ⟨rfl, e1⟩
      have E1 := Lib.hid e1
      clear e1
      obtain ⟨t0, t1, t2, _⟩ := HA.out.ext E1.out
      have hF := HF.out.ext E1.out
      simp only [Four, Nat.zero_add] at hF
      obtain ⟨k0, k1, k2, k3⟩ := hF
      go_wp2_with fail
      refine (HO.out _).mono ?_
      rintro e w2 ⟨rfl, e2⟩
      have EE := Lib.hid (E1.out.trans e2)
      clear e2 k0 k1 k2 k3 t0 t1 t2
      obtain ⟨r0, r1, r2, g0, g1, g2, _⟩ := three_cells (EE.out.block HR.out)
      go_wp2
      have hb := heap_setC 2 (.slice none 0 0) (heap_setC 1 (.int .i64 0) (heap_setC 0 (.int .i64 0) (EE.out.block HR.out)))
      obtain ⟨y0, y1, y2, _⟩ := three_cells hb
      refine bodyPost_ret (v := .tuple #[.agg #[.int .i64 0, .int .i64 0, .slice none 0 0], .int .i64 2]) (by simp [results, Try.results14, go_sem, y0, y1, y2]) rfl ?_
      exact RetAdd.bad HC.out (by decide) (ext_set3 (HW.out.trans EE.out) (by omega) _ _ _)
    | true =>
      rw [ho] at HO
      have hn8 := (validF_bd hv).2.2.1
      have HSEA := Lib.hid (hsea hv ho)
      cases hh : hitO os ⟨x1, x2, x3, x4⟩ with
      | true =>
        have HC : Hid (addC L C os ⟨x1, x2, x3, x4⟩ = 9) := Lib.hid (by rw [hcode, hv, ho, hh]; rfl)
        rw [hh] at HCF
        clear hv ho hh hcode hx hsea
        go_enter Try.func14, Try.ntmps14
        go_wp2_with fail
        clear hWA a0 a1 a2 o0 o1 o2 o3
        refine HV.out.mono ?_
        rintro e w1 ⟨rfl, e1⟩
        have E1 := Lib.hid e1
        clear e1
        obtain ⟨t0, t1, t2, _⟩ := HA.out.ext E1.out
        have hF := HF.out.ext E1.out
        simp only [Four, Nat.zero_add] at hF
        obtain ⟨k0, k1, k2, k3⟩ := hF
        go_wp2_with fail
        refine (HO.out _).mono ?_
        rintro e w2 ⟨rfl, e2⟩
        have E2 := Lib.hid (E1.out.trans e2)
        clear e2 k0 k1 k2 k3 t0 t1 t2
        obtain ⟨t0, t1, t2, _⟩ := HA.out.ext E2.out
        go_wp2_with fail
        refine (HCF.out _ E2.out).mono ?_
        rintro e w3 ⟨rfl, e3⟩
        have EE := Lib.hid (E2.out.trans e3)
        clear e3 t0 t1 t2
        obtain ⟨r0, r1, r2, g0, g1, g2, _⟩ := three_cells (EE.out.block HR.out)
        go_wp2
        have hb := heap_setC 2 (.slice none 0 0) (heap_setC 1 (.int .i64 0) (heap_setC 0 (.int .i64 0) (EE.out.block HR.out)))
        obtain ⟨y0, y1, y2, _⟩ := three_cells hb
        refine bodyPost_ret (v := .tuple #[.agg #[.int .i64 0, .int .i64 0, .slice none 0 0], .int .i64 9]) (by simp [results, Try.results14, go_sem, y0, y1, y2]) rfl ?_
        exact RetAdd.bad HC.out (by decide) (ext_set3 (HW.out.trans EE.out) (by omega) _ _ _)
      | false =>
        have HSE := Lib.hid (HSEA.out hh)
        have HC2 : Hid (addC L C os ⟨x1, x2, x3, x4⟩ = if os.length < 8 then 0 else 5) := Lib.hid (by rw [hcode, hv, ho, hh]; rfl)
        have hn : n ≤ 8 := by omega
        rw [hh] at HCF
        clear hv ho hh hcode hx hsea
        go_enter Try.func14, Try.ntmps14
        go_wp2_with fail
        clear hWA a0 a1 a2 o0 o1 o2 o3
        refine HV.out.mono ?_
        rintro e w1 ⟨rfl, e1⟩
        have E1 := Lib.hid e1
        clear e1
        obtain ⟨t0, t1, t2, _⟩ := HA.out.ext E1.out
        have hF := HF.out.ext E1.out
        simp only [Four, Nat.zero_add] at hF
        obtain ⟨k0, k1, k2, k3⟩ := hF
        go_wp2_with fail
        refine (HO.out _).mono ?_
        rintro e w2 ⟨rfl, e2⟩
        have E2 := Lib.hid (E1.out.trans e2)
        clear e2 k0 k1 k2 k3 t0 t1 t2
        obtain ⟨t0, t1, t2, _⟩ := HA.out.ext E2.out
        go_wp2_with fail
        refine (HCF.out _ E2.out).mono ?_
        rintro e w3 ⟨rfl, e3⟩
        have E3 := Lib.hid (E2.out.trans e3)
        clear e3 t0 t1 t2
        obtain ⟨t0, t1, t2, _⟩ := HA.out.ext E3.out
        by_cases h8 : n = 8
        · have HC : Hid (addC L C os ⟨x1, x2, x3, x4⟩ = 5) := Lib.hid (by rw [HC2.out, if_neg (by omega)])
          subst h8
          obtain ⟨r0, r1, r2, g0, g1, g2, _⟩ := three_cells (E3.out.block HR.out)
          go_wp2
          have hb := heap_setC 2 (.slice none 0 0) (heap_setC 1 (.int .i64 0) (heap_setC 0 (.int .i64 0) (E3.out.block HR.out)))
          obtain ⟨y0, y1, y2, _⟩ := three_cells hb
          refine bodyPost_ret (v := .tuple #[.agg #[.int .i64 0, .int .i64 0, .slice none 0 0], .int .i64 5]) (by simp [results, Try.results14, go_sem, y0, y1, y2]) rfl ?_
          exact RetAdd.bad HC.out (by decide) (ext_set3 (HW.out.trans E3.out) (by omega) _ _ _)
        · have HC : Hid (addC L C os ⟨x1, x2, x3, x4⟩ = 0) := Lib.hid (by rw [HC2.out, if_pos (by omega)])
          have hn8' : ¬ ((n : Int) = 8) := by omega
          have hpl := putPos_le os ⟨x1, x2, x3, x4⟩ os.length
          have hpo : putO os ⟨x1, x2, x3, x4⟩ = os.take (putPos os ⟨x1, x2, x3, x4⟩ os.length) ++ ⟨x1, x2, x3, x4⟩ :: os.drop (putPos os ⟨x1, x2, x3, x4⟩ os.length) := rfl
          have hse := HSE.out
          have hpn := putO_len os ⟨x1, x2, x3, x4⟩
          obtain ⟨P, hP⟩ : ∃ P, putPos os ⟨x1, x2, x3, x4⟩ os.length = P := ⟨_, rfl⟩
          rw [hP] at hpl hpo hse
          rw [hl] at hpl hse hpn
          have HBS := Lib.hid (fun W (e : Ext WA W) => f_BinSearch ao n c os ⟨x1, x2, x3, x4⟩ P W (HX.out.ext e) hn hpl hse)
          have HPO := Lib.hid hpo
          have HPN := Lib.hid hpn
          have hF := HF.out.ext E3.out
          simp only [Four, Nat.zero_add] at hF
          obtain ⟨k0, k1, k2, k3⟩ := hF
          clear hpo hse hpn hP
          go_wp2_with fail
          refine (HBS.out _ E3.out).mono ?_
          rintro e w4 ⟨bq, rfl, e4⟩
          have E4 := Lib.hid (E3.out.trans e4)
          clear e4 t0 t1 t2 k0 k1 k2 k3
          go_upto_region 10 with fail
          have hCl : ∀ W, Ext WA W → Calls Try.prog 59 #[.slice ao n c] W (fun e w' => ∃ a cap, e = .returned (.slice a n cap) ∧ OwnOpens w' W.heap.size (.slice a n cap) os ∧ Ext W w') := fun W e => by
            have h := f_CloneO ao n c os W (HX.out.ext e) hnc hc (by omega)
            unfold RetOpens at h
            rwa [hl] at h
          have hIns : ∀ W base a cap vb, OwnOpens W base (.slice a n cap) os → W.heap[vb]? = some (.cells #[.int .i64 x1, .int .i64 x2, .int .i64 x3, .int .i64 x4] 34 (0, 0)) → (∀ j, (Value.slice a n cap).ownBlock = some j → j ≠ vb) → base ≤ W.heap.size →
              Calls Try.prog 58 #[.slice a n cap, .int .i64 P, .slice (some ⟨vb, 0, none⟩) 1 1] W (fun e w' => ∃ a' cap', e = .returned (.slice a' (n + 1) cap') ∧ OwnOpens w' base (.slice a' (n + 1) cap') (putO os ⟨x1, x2, x3, x4⟩) ∧ W.grownBy w' (Value.slice a n cap).ownBlock) := fun W base a cap vb h1 h2 h3 h4 => by
            have h := f_InsertO base a n cap P vb os ⟨x1, x2, x3, x4⟩ W h1 hl hn hpl HXO.out h2 h3 h4
            rw [← HPO.out] at h
            unfold RetIns at h
            rwa [HPN.out] at h
          have HCl := Lib.hid hCl
          have HIns := Lib.hid hIns
          have hER := E4.out
          have HFR := E4
          obtain ⟨wr, hwr⟩ : ∃ W, w4 = W := ⟨_, rfl⟩
          subst hwr
          clear hCl hIns
          go_region_held3 (fun W => AddSt w.heap.size (w.heap.size + 1) L C (.slice ao n c) x1 x2 x3 x4 W) (first
            | exact addSt_of HA.out HF.out hER.drew
            | exact addSt_of HA.out HF.out (hER.drew.alloc _)
            | exact addSt_of HA.out HF.out (hER.trans (by assumption))
            | exact addSt_of HA.out HF.out ((hER.trans ec).alloc _)
            | exact addSt_set (addSt_set (addSt_set (addSt_of HA.out HF.out (hER.trans (by assumption))) _ _ _ (by omega) (by omega)) _ _ _ (by omega) (by omega)) _ _ _ (by omega) (by omega)) (first
            | (go_at_call 59; first
                | (refine (HCl.out _ (hER.drew)).mono ?_; rintro e wc ⟨ac, cc, rfl, oc, e3⟩; have ec : Ext w4 wc := (Ext.refl w4).drew.trans e3; have hbc : w4.heap.size ≤ w4.drew.heap.size := Nat.le_refl _)
                | (refine (HCl.out _ (hER.drew.alloc _)).mono ?_; rintro e wc ⟨ac, cc, rfl, oc, e3⟩; have ec : Ext w4 wc := ((Ext.refl w4).drew.alloc _).trans e3; have hz := e3.block (blk_at w4.drew (.cells #[.int .i64 x1, .int .i64 x2, .int .i64 x3, .int .i64 x4] 34) w4.heap.size rfl); have hzn : ∀ j, (Value.slice ac n cc).ownBlock = some j → j ≠ w4.heap.size := fun j hj e => by have := (oc.1.lt j hj).1; rw [World.size_alloc] at this; change w4.heap.size + 1 ≤ j at this; omega))
            | (go_at_call 58; first
                | (refine (HIns.out _ w4.heap.size ac cc _ (oc.mono (by first | exact Nat.le_refl _ | (rw [World.size_alloc]; exact Nat.le_succ _))) hz hzn ec.size).mono ?_; rintro e wi ⟨ai, ci, rfl, oi, gi⟩; have ei : Ext w4 wi := ec.grown gi (fun j hj => by have := (oc.1.lt j hj).1; rw [World.size_alloc] at this; change w4.heap.size + 1 ≤ j at this; omega); obtain ⟨r0, r1, r2, g0, g1, g2, _⟩ := three_cells ((hER.trans ei).block HR.out))
                | (refine (HIns.out _ w4.heap.size ac cc wc.heap.size ((oc.ext ((Ext.refl _).alloc _)).mono (Nat.le_refl _)) (heap_alloc_new wc _) (fun j hj e => by have := (oc.1.lt j hj).2; omega) (by rw [World.size_alloc]; have := ec.size; omega)).mono ?_; rintro e wi ⟨ai, ci, rfl, oi, gi⟩; have ei : Ext w4 wi := (ec.alloc _).grown gi (fun j hj => by have := (oc.1.lt j hj).1; exact this); obtain ⟨r0, r1, r2, g0, g1, g2, _⟩ := three_cells ((hER.trans ei).block HR.out)))
          )
          all_goals
            have O3 := Lib.hid oi
            have E5 := Lib.hid (hER.trans ei)
            have hb := heap_setC 2 (.slice ai (n + 1) ci) (heap_setC 1 (.int .i64 C) (heap_setC 0 (.int .i64 L) (E5.out.block HR.out)))
            obtain ⟨y0, y1, y2, _⟩ := three_cells hb
            have HBS2 : Hid (w.heap.size + 2 < w4.heap.size) := Lib.hid (lt_of_block (E4.out.block HR.out))
            clear oi gi ei ec oc hb hER r0 r1 r2 g0 g1 g2
            go_wp2
            refine bodyPost_ret (v := .tuple #[.agg #[.int .i64 L, .int .i64 C, .slice ai (n + 1) ci], .int .i64 0]) (by simp [results, Try.results14, go_sem, y0, y1, y2]) rfl ?_
            have hbs := HBS2.out
            refine RetAdd.good HC.out HPN.out ?_ (ext_set3 (HW.out.trans E5.out) (by omega) _ _ _)
            exact ((((O3.out.setBelow (by dsimp only; omega) _).setBelow (by dsimp only; omega) _).setBelow (by dsimp only; omega) _).mono (by omega))
end Go.Proofs.Ytnhmcmohnpbcjaa
