/- A group of texts, one behind the other: AddS, PutLaw. -/
import Derived.Test.YtnhmcmohnpbcjaaPut
import Derived.Test.YtnhmcmohnpbcjaaGaFv
import Derived.Deep.RegionHeld3
import Derived.Deep.DeepCutAuto
/- An opening is added to a front: the reference's side. -/
namespace Go.Proofs.Ytnhmcmohnpbcjaa
open Go.RowKit
set_option linter.unusedSimpArgs false
set_option linter.unusedVariables false
set_option linter.unnecessarySimpa false

def hitO (os : List Opn) (x : Opn) : Bool := os.any fun p => ovl p x
/-- the code of adding an opening -/
def addC (L C : Int) (os : List Opn) (x : Opn) : Int := if validF L C os then (if isOpn L C x then (if hitO os x then 9 else if os.length < 8 then 0 else 5) else 2) else 1
/-- a front and a code are handed back, the openings in memory of the call's own -/
def RetFrC (L C : Int) (os : List Opn) (k : Int) (w : World) (e : Ending) (w' : World) : Prop :=
  ∃ ao cap, e = .returned (.tuple #[.agg #[.int .i64 L, .int .i64 C, .slice ao os.length cap], .int .i64 k]) ∧ OwnOpens w' w.heap.size (.slice ao os.length cap) os ∧ Ext w w'
/-- .. as adding an opening does -/
def RetAdd (L C : Int) (os : List Opn) (x : Opn) (w : World) (e : Ending) (w' : World) : Prop :=
  if addC L C os x = 0 then RetFrC L C (putO os x) 0 w e w' else RetFrC 0 0 [] (addC L C os x) w e w'
theorem RetAdd.bad {L C : Int} {os : List Opn} {x : Opn} {w w' : World} {k : Int} (h : addC L C os x = k) (hk : k ≠ 0) (e : Ext w w') : RetAdd L C os x w (.returned (.tuple #[.agg #[.int .i64 0, .int .i64 0, .slice none 0 0], .int .i64 k])) w' := by
  unfold RetAdd
  rw [h, if_neg hk]
  exact ⟨none, 0, rfl, OwnOpens.nilv _ _, e⟩
theorem RetAdd.good {L C : Int} {os : List Opn} {x : Opn} {w w' : World} {ao : Option Addr} {cap m : Nat} (h : addC L C os x = 0) (hm : (putO os x).length = m) (ho : OwnOpens w' w.heap.size (.slice ao m cap) (putO os x)) (e : Ext w w') :
    RetAdd L C os x w (.returned (.tuple #[.agg #[.int .i64 L, .int .i64 C, .slice ao m cap], .int .i64 0])) w' := by
  unfold RetAdd
  rw [if_pos h]
  subst hm
  exact ⟨ao, cap, rfl, ho, e⟩
theorem hit_take {os : List Opn} {x : Opn} {j : Nat} (hj : j < os.length) (h : (os.take j).any (fun p => ovl p x) = false) (h2 : ovl (os.getD j default) x = false) : (os.take (j + 1)).any (fun p => ovl p x) = false := by
  rw [List.getD_eq_getElem?_getD, List.getElem?_eq_getElem hj, Option.getD_some] at h2
  rw [List.take_succ_eq_append_getElem hj, List.any_append, h]
  simp [h2]
theorem hit_at {os : List Opn} {x : Opn} {j : Nat} (hj : j < os.length) (h2 : ovl (os.getD j default) x = true) : hitO os x = true := by
  unfold hitO
  rw [List.any_eq_true]
  rw [List.getD_eq_getElem?_getD, List.getElem?_eq_getElem hj, Option.getD_some] at h2
  exact ⟨_, List.getElem_mem hj, h2⟩
/-- the three boxes of the call -/
abbrev addW (w : World) (L C : Int) (v : Value) (x1 x2 x3 x4 : Int) : World := ((w.alloc (.cells #[.int .i64 L, .int .i64 C, v] 30)).alloc (.cells #[.int .i64 x1, .int .i64 x2, .int .i64 x3, .int .i64 x4] 34)).alloc (.cells #[.int .i64 0, .int .i64 0, .slice none 0 0] 30)
theorem addW_ext (w : World) (L C : Int) (v : Value) (x1 x2 x3 x4 : Int) : Ext w (addW w L C v x1 x2 x3 x4) := (((Ext.refl w).alloc _).alloc _).alloc _
theorem addW_three (w : World) (L C : Int) (v : Value) (x1 x2 x3 x4 : Int) : Three (addW w L C v x1 x2 x3 x4) w.heap.size (.int .i64 L) (.int .i64 C) v :=
  (Three.new w (.int .i64 L) (.int .i64 C) v 30).ext (((Ext.refl _).alloc _).alloc _)
theorem addW_four (w : World) (L C : Int) (v : Value) (x1 x2 x3 x4 : Int) : Four (addW w L C v x1 x2 x3 x4) (w.heap.size + 1) 0 x1 x2 x3 x4 := by
  have hb := blk_old (o := .cells #[.int .i64 0, .int .i64 0, .slice none 0 0] 30) (blk_at (w.alloc (.cells #[.int .i64 L, .int .i64 C, v] 30)) (.cells #[.int .i64 x1, .int .i64 x2, .int .i64 x3, .int .i64 x4] 34) (w.heap.size + 1) (by simp))
  obtain ⟨h0, h1, h2, h3, _⟩ := four_cells hb
  exact ⟨h0, h1, h2, h3⟩
theorem addW_res (w : World) (L C : Int) (v : Value) (x1 x2 x3 x4 : Int) : (addW w L C v x1 x2 x3 x4).heap[w.heap.size + 2]? = some (.cells #[.int .i64 0, .int .i64 0, .slice none 0 0] 30 (0, 0)) :=
  blk_at _ _ _ (by simp)
theorem ext_set3 {w W : World} {b : Nat} (h : Ext w W) (hb : w.heap.size ≤ b) (x y z : Value) : Ext w (((W.setCell ⟨b, 0, none⟩ x).setCell ⟨b, 1, none⟩ y).setCell ⟨b, 2, none⟩ z) :=
  Ext.setCell (Ext.setCell (Ext.setCell h hb _) hb _) hb _
/-- what the last region reads -/
abbrev AddSt (fb ob : Nat) (L C : Int) (v : Value) (x1 x2 x3 x4 : Int) (W : World) : Prop := (W.cell? ⟨fb, 0, none⟩ = some (.int .i64 L) ∧ W.cell? ⟨fb, 1, none⟩ = some (.int .i64 C) ∧ W.cell? ⟨fb, 2, none⟩ = some v) ∧
  (W.cell? ⟨ob, 0, none⟩ = some (.int .i64 x1) ∧ W.cell? ⟨ob, 1, none⟩ = some (.int .i64 x2) ∧ W.cell? ⟨ob, 2, none⟩ = some (.int .i64 x3) ∧ W.cell? ⟨ob, 3, none⟩ = some (.int .i64 x4))
theorem addSt_of {WA W : World} {fb ob : Nat} {L C : Int} {v : Value} {x1 x2 x3 x4 : Int} (hA : Three WA fb (.int .i64 L) (.int .i64 C) v) (hF : Four WA ob 0 x1 x2 x3 x4) (e : Ext WA W) : AddSt fb ob L C v x1 x2 x3 x4 W := by
  have hF2 := hF.ext e
  simp only [Four, Nat.zero_add] at hF2
  obtain ⟨a, b, c, _⟩ := hA.ext e
  exact ⟨⟨a, b, c⟩, hF2⟩
theorem cell_setN {W : World} {b i k j : Nat} {u : Value} (x : Value) (h : W.cell? ⟨b, i, none⟩ = some u) (hne : b ≠ k) : (W.setCell ⟨k, j, none⟩ x).cell? ⟨b, i, none⟩ = some u :=
  (World.cell?_setCell_other _ _ _ _ (fun e => hne (congrArg Addr.block e).symm)).trans h
theorem addSt_set {W : World} {fb ob : Nat} {L C : Int} {v : Value} {x1 x2 x3 x4 : Int} (h : AddSt fb ob L C v x1 x2 x3 x4 W) (k j : Nat) (x : Value) (h1 : fb ≠ k) (h2 : ob ≠ k) : AddSt fb ob L C v x1 x2 x3 x4 (W.setCell ⟨k, j, none⟩ x) :=
  ⟨⟨cell_setN _ h.1.1 h1, cell_setN _ h.1.2.1 h1, cell_setN _ h.1.2.2 h1⟩, cell_setN _ h.2.1 h2, cell_setN _ h.2.2.1 h2, cell_setN _ h.2.2.2.1 h2, cell_setN _ h.2.2.2.2 h2⟩
set_option maxRecDepth 100000 in
set_option maxHeartbeats 4000000 in
theorem s_AddOpening (L C : Int) (ao : Option Addr) (n c : Nat) (os : List Opn) (x : Opn) (w : World) (hx : Opens w ao n os) (hnc : n ≤ c) (hc : ao = none → c = 0) (hc2 : c ≤ 9223372036854775807) (hxo : x.ok) :
    Calls Try.prog 11 #[.agg #[.int .i64 L, .int .i64 C, .slice ao n c], opnV x] w (RetAdd L C os x w) := by
  obtain ⟨x1, x2, x3, x4⟩ := x
  have hl := hx.1
  have hcode : addC L C os ⟨x1, x2, x3, x4⟩ = if validF L C os then (if isOpn L C ⟨x1, x2, x3, x4⟩ then (if hitO os ⟨x1, x2, x3, x4⟩ then 9 else if os.length < 8 then 0 else 5) else 2) else 1 := rfl
  have HW := Lib.hid (addW_ext w L C (.slice ao n c) x1 x2 x3 x4)
  have HA := Lib.hid (addW_three w L C (.slice ao n c) x1 x2 x3 x4)
  have HF := Lib.hid (addW_four w L C (.slice ao n c) x1 x2 x3 x4)
  have HR := Lib.hid (addW_res w L C (.slice ao n c) x1 x2 x3 x4)
  have HX := Lib.hid (hx.ext HW.out)
  have HXO := Lib.hid hxo
  have HV := Lib.hid (s_l09Ok w.heap.size L C ao n c os _ HA.out HX.out)
  have HO := Lib.hid (fun W e => s_l09One w.heap.size L C (.slice ao n c) ⟨x1, x2, x3, x4⟩ W (HA.out.ext e))
  obtain ⟨r0, r1, r2, g0, g1, g2, _⟩ := three_cells HR.out
  obtain ⟨WA, hWA⟩ : ∃ W, addW w L C (.slice ao n c) x1 x2 x3 x4 = W := ⟨_, rfl⟩
  rw [hWA] at HW HA HF HR HX HV HO r0 r1 r2 g0 g1 g2
  cases hv : validF L C os with
  | false =>
    have HC : Hid (addC L C os ⟨x1, x2, x3, x4⟩ = 1) := Lib.hid (by rw [hcode, hv]; rfl)
    rw [hv] at HV
    clear hv hcode hx r0 r1 r2 g0 g1 g2
    go_enter Try.func11, Try.ntmps11
    go_wp2_with fail
    clear hWA
    refine HV.out.mono ?_
    rintro e w1 ⟨rfl, e1⟩
    have EE := Lib.hid e1
    clear e1
    obtain ⟨r0, r1, r2, g0, g1, g2, _⟩ := three_cells (EE.out.block HR.out)
    go_wp2
    have hb := heap_setC 2 (.slice none 0 0) (heap_setC 1 (.int .i64 0) (heap_setC 0 (.int .i64 0) (EE.out.block HR.out)))
    obtain ⟨y0, y1, y2, _⟩ := three_cells hb
    refine bodyPost_ret (v := .tuple #[.agg #[.int .i64 0, .int .i64 0, .slice none 0 0], .int .i64 1]) (by simp [results, Try.results11, go_sem, y0, y1, y2]) rfl ?_
    exact RetAdd.bad HC.out (by decide) (ext_set3 (HW.out.trans EE.out) (by omega) _ _ _)
  | true =>
    rw [hv] at HV
    cases ho : isOpn L C ⟨x1, x2, x3, x4⟩ with
    | false =>
      have HC : Hid (addC L C os ⟨x1, x2, x3, x4⟩ = 2) := Lib.hid (by rw [hcode, hv, ho]; rfl)
      rw [ho] at HO
      clear hv ho hcode hx r0 r1 r2 g0 g1 g2
      go_enter Try.func11, Try.ntmps11
      go_wp2_with fail
      clear hWA
      refine HV.out.mono ?_
      rintro e w1 ⟨rfl, e1⟩
      have E1 := Lib.hid e1
      clear e1
      have hF := HF.out.ext E1.out
      simp only [Four, Nat.zero_add] at hF
      obtain ⟨k0, k1, k2, k3⟩ := hF
      go_wp2_with fail
      refine (HO.out _ E1.out).mono ?_
      rintro e w2 ⟨rfl, e2⟩
      have EE := Lib.hid (E1.out.trans e2)
      clear e2 k0 k1 k2 k3
      obtain ⟨r0, r1, r2, g0, g1, g2, _⟩ := three_cells (EE.out.block HR.out)
      go_wp2
      have hb := heap_setC 2 (.slice none 0 0) (heap_setC 1 (.int .i64 0) (heap_setC 0 (.int .i64 0) (EE.out.block HR.out)))
      obtain ⟨y0, y1, y2, _⟩ := three_cells hb
      refine bodyPost_ret (v := .tuple #[.agg #[.int .i64 0, .int .i64 0, .slice none 0 0], .int .i64 2]) (by simp [results, Try.results11, go_sem, y0, y1, y2]) rfl ?_
      exact RetAdd.bad HC.out (by decide) (ext_set3 (HW.out.trans EE.out) (by omega) _ _ _)
    | true =>
      rw [ho] at HO
      have hn8 := (validF_bd hv).2.2.1
      have HC1 : Hid (hitO os ⟨x1, x2, x3, x4⟩ = true → addC L C os ⟨x1, x2, x3, x4⟩ = 9) := Lib.hid (fun h => by rw [hcode, hv, ho, h]; rfl)
      have HC2 : Hid (hitO os ⟨x1, x2, x3, x4⟩ = false → addC L C os ⟨x1, x2, x3, x4⟩ = if os.length < 8 then 0 else 5) := Lib.hid (fun h => by rw [hcode, hv, ho, h]; rfl)
      have hn : n ≤ 8 := by omega
      have HVL := Lib.hid (fun p W => s_l09Overlap p ⟨x1, x2, x3, x4⟩ W)
      clear hv ho hcode hx r0 r1 r2 g0 g1 g2
      go_enter Try.func11, Try.ntmps11
      go_wp2_with fail
      clear hWA
      refine HV.out.mono ?_
      rintro e w1 ⟨rfl, e1⟩
      have E1 := Lib.hid e1
      clear e1
      have hF := HF.out.ext E1.out
      simp only [Four, Nat.zero_add] at hF
      obtain ⟨k0, k1, k2, k3⟩ := hF
      go_wp2_with fail
      refine (HO.out _ E1.out).mono ?_
      rintro e w2 ⟨rfl, e2⟩
      have E2 := Lib.hid (E1.out.trans e2)
      clear e2 k0 k1 k2 k3
      go_wp2
      go_loopw [6] (fun i wr => ∃ k : Nat, k ≤ n ∧ i = .int .i64 k ∧ Hid ((os.take k).any (fun p => ovl p ⟨x1, x2, x3, x4⟩) = false) ∧ Hid (Ext WA wr)) (fun i _ => n - (intOf i).toNat)
      case atStart => exact ⟨0, Nat.zero_le _, rfl, Lib.hid (by simp), E2⟩
      case round =>
        obtain ⟨k, hk, rfl, HNO, ER⟩ := hrel
        obtain ⟨t0, t1, t2, _⟩ := HA.out.ext ER.out
        by_cases hlt : k < n
        · obtain ⟨bb, off, rfl, c0, c1, c2, c3⟩ := (HX.out.ext ER.out).2.2.1 k hlt
          have hko : k < os.length := by omega
          obtain ⟨y, hy⟩ : ∃ y, os.getD k default = y := ⟨_, rfl⟩
          have HAT : Hid (ovl y ⟨x1, x2, x3, x4⟩ = true → hitO os ⟨x1, x2, x3, x4⟩ = true) := Lib.hid (fun h => hit_at hko (by rw [hy]; exact h))
          have HTK : Hid (ovl y ⟨x1, x2, x3, x4⟩ = false → (os.take (k + 1)).any (fun p => ovl p ⟨x1, x2, x3, x4⟩) = false) := Lib.hid (fun h => hit_take hko HNO.out (by rw [hy]; exact h))
          rw [hy] at c0 c1 c2 c3
          have hVL := HVL.out y
          obtain ⟨bv, hbv⟩ : ∃ b, ovl y ⟨x1, x2, x3, x4⟩ = b := ⟨_, rfl⟩
          rw [hbv] at HAT HTK hVL
          have HVL2 := Lib.hid hVL
          obtain ⟨y1, y2, y3, y4⟩ := y
          have Y : Four wr bb (off + k * 4) y1 y2 y3 y4 := ⟨c0, c1, c2, c3⟩
          have hki : (k : Int) < (n : Int) := by omega
          have hk0 : (0 : Int) ≤ (k : Int) := by omega
          obtain ⟨α, hne, F, hK⟩ := cls_of wr
          have HK := Lib.hid hK
          have q2 := hK.cell t2
          obtain ⟨s0, s1, s2, s3⟩ := hK.four Y
          have hF := hK.four (HF.out.ext ER.out)
          simp only [Nat.zero_add] at hF
          obtain ⟨d0, d1, d2, d3⟩ := hF
          clear hK hy hbv hVL c0 c1 c2 c3 Y
          cases bv with
          | true =>
            have HC : Hid (addC L C os ⟨x1, x2, x3, x4⟩ = 9) := Lib.hid (HC1.out (HAT.out rfl))
            go_upto_region 8 with fail
            refine wp_region_cls F (by kernel_rfl) (by kernel_rfl) HK.out.drew ?_
            repeat (go_big_quiet_step ((first | (go_at_call 48; exact HK.out.retE (HVL2.out _)))))
            refine wpQuiet_nil ?_
            rintro _ ⟨z, rfl⟩
            have EE := Lib.hid (ER.out.trans (HK.out.ext z))
            clear q2 s0 s1 s2 s3 d0 d1 d2 d3 t0 t1 t2
            obtain ⟨r0, r1, r2, g0, g1, g2, _⟩ := three_cells (EE.out.block HR.out)
            go_wp2
            have hb := heap_setC 2 (.slice none 0 0) (heap_setC 1 (.int .i64 0) (heap_setC 0 (.int .i64 0) (EE.out.block HR.out)))
            obtain ⟨y0, y1, y2, _⟩ := three_cells hb
            refine bodyPost_ret (v := .tuple #[.agg #[.int .i64 0, .int .i64 0, .slice none 0 0], .int .i64 9]) (by simp [results, Try.results11, go_sem, y0, y1, y2]) rfl ?_
            exact RetAdd.bad HC.out (by decide) (ext_set3 (HW.out.trans EE.out) (by omega) _ _ _)
          | false =>
            have HTK2 := Lib.hid (HTK.out rfl)
            go_upto_region 8 with fail
            refine wp_region_cls F (by kernel_rfl) (by kernel_rfl) HK.out.drew ?_
            repeat (go_big_quiet_step ((first | (go_at_call 48; exact HK.out.retE (HVL2.out _)))))
            refine wpQuiet_nil ?_
            rintro _ ⟨z, rfl⟩
            have EE := Lib.hid (ER.out.trans (HK.out.ext z))
            clear q2 s0 s1 s2 s3 d0 d1 d2 d3 t0 t1 t2
            go_wp2
            go_roundw
            case rel => first | exact ⟨k + 1, by omega, by go_num, HTK2, EE⟩ | ((repeat apply Exists.intro); exact ⟨⟨k + 1, by omega, by go_num, HTK2, EE⟩, rfl⟩)
            case measure => (simp [intOf] <;> omega)
        · obtain rfl : k = n := by omega
          have hno := HNO.out
          rw [List.take_of_length_le (by omega)] at hno
          have HC3 := Lib.hid (HC2.out hno)
          clear hno
          by_cases h8 : os.length < 8
          · have HC : Hid (addC L C os ⟨x1, x2, x3, x4⟩ = 0) := Lib.hid (by rw [HC3.out, if_pos h8])
            have hk8 : ¬ (8 : Int) ≤ (k : Int) := by omega
            go_upto_region 12 with fail
            have HPut := Lib.hid (fun W (e : Ext WA W) => s_l09Put ao k c os ⟨x1, x2, x3, x4⟩ W (HX.out.ext e) hnc hc (by omega) hc2 HXO.out)
            have hPL := putO_len os ⟨x1, x2, x3, x4⟩
            obtain ⟨ps, hps⟩ : ∃ ps, putO os ⟨x1, x2, x3, x4⟩ = ps := ⟨_, rfl⟩
            obtain ⟨m, hm⟩ : ∃ m, ps.length = m := ⟨_, rfl⟩
            have HML : Hid ((putO os ⟨x1, x2, x3, x4⟩).length = m) := Lib.hid (by rw [hps, hm])
            have HPS := Lib.hid hps
            rw [hps] at HPut
            unfold RetOpens at HPut
            rw [hm] at HPut
            have HPut2 := HPut
            have hER := ER.out
            clear hps hm hPL t0 t1 t2
            go_region_held3 (fun W => AddSt w.heap.size (w.heap.size + 1) L C (.slice ao k c) x1 x2 x3 x4 W) (first | exact addSt_of HA.out HF.out hER.drew | exact addSt_of HA.out HF.out (hER.drew.trans (by assumption)) | exact addSt_set (addSt_set (addSt_set (addSt_of HA.out HF.out (hER.drew.trans (by assumption))) _ _ _ (by omega) (by omega)) _ _ _ (by omega) (by omega)) _ _ _ (by omega) (by omega)) (first
              | (go_at_call 49; refine (HPut2.out _ hER.drew).mono ?_; rintro e w3 ⟨a3, c3, rfl, o3, e3⟩; obtain ⟨r0, r1, r2, g0, g1, g2, _⟩ := three_cells ((hER.drew.trans e3).block HR.out)))
            all_goals
              have O3 := Lib.hid o3
              have E3 := Lib.hid (hER.drew.trans e3)
              have hb := heap_setC 2 (.slice a3 m c3) (heap_setC 1 (.int .i64 C) (heap_setC 0 (.int .i64 L) (E3.out.block HR.out)))
              obtain ⟨y0, y1, y2, _⟩ := three_cells hb
              clear o3 e3 hb hER r0 r1 r2 g0 g1 g2
              go_wp2
              refine bodyPost_ret (v := .tuple #[.agg #[.int .i64 L, .int .i64 C, .slice a3 m c3], .int .i64 0]) (by simp [results, Try.results11, go_sem, y0, y1, y2]) rfl ?_
              refine RetAdd.good HC.out HML.out ?_ (ext_set3 (HW.out.trans E3.out) (by omega) _ _ _)
              rw [HPS.out]
              have hbs : w.heap.size + 2 < wr.drew.heap.size := Nat.lt_of_lt_of_le (lt_of_block HR.out) (ER.out.drew).size
              exact ((((O3.out.setBelow (by dsimp only; omega) _).setBelow (by dsimp only; omega) _).setBelow (by dsimp only; omega) _).mono (by omega))
          · have HC : Hid (addC L C os ⟨x1, x2, x3, x4⟩ = 5) := Lib.hid (by rw [HC3.out, if_neg h8])
            have hk8 : (8 : Int) ≤ (k : Int) := by omega
            have EE := ER
            obtain ⟨r0, r1, r2, g0, g1, g2, _⟩ := three_cells (EE.out.block HR.out)
            go_wp2
            have hb := heap_setC 2 (.slice none 0 0) (heap_setC 1 (.int .i64 0) (heap_setC 0 (.int .i64 0) (EE.out.block HR.out)))
            obtain ⟨y0, y1, y2, _⟩ := three_cells hb
            refine bodyPost_ret (v := .tuple #[.agg #[.int .i64 0, .int .i64 0, .slice none 0 0], .int .i64 5]) (by simp [results, Try.results11, go_sem, y0, y1, y2]) rfl ?_
            exact RetAdd.bad HC.out (by decide) (ext_set3 (HW.out.trans EE.out) (by omega) _ _ _)
end Go.Proofs.Ytnhmcmohnpbcjaa

/- Plain law: an opening that is put in its place keeps a front valid. -/
namespace Go.Proofs.Ytnhmcmohnpbcjaa
open Go.RowKit
set_option linter.unusedSimpArgs false
set_option linter.unusedVariables false
set_option linter.unnecessarySimpa false

theorem befB_iff (a b : Opn) : befB a b = true ↔ a.fr < b.fr ∨ (a.fr = b.fr ∧ a.lo < b.lo) := by
  unfold befB
  split <;> simp only [decide_eq_true_eq] <;> omega
theorem befB_trans {a b c : Opn} (h1 : befB a b = true) (h2 : befB b c = true) : befB a c = true := by
  rw [befB_iff] at *
  omega
theorem ovl_iff (a b : Opn) : ovl a b = true ↔ a.fr < b.en ∧ b.fr < a.en ∧ a.lo < b.hi ∧ b.lo < a.hi := by
  unfold ovl
  simp only [Bool.and_eq_true, decide_eq_true_eq]
theorem isOpn_all (L C : Int) (o : Opn) : isOpn L C o = true ↔ 0 ≤ o.fr ∧ o.fr < o.en ∧ o.en ≤ L ∧ 0 ≤ o.lo ∧ o.lo < o.hi ∧ o.hi ≤ C := by
  unfold isOpn
  simp only [Bool.and_eq_true, decide_eq_true_eq]
theorem befB_tri {L C : Int} {a x : Opn} (ha : isOpn L C a = true) (hx : isOpn L C x = true) (ho : ovl a x = false) (h : befB x a = false) : befB a x = true := by
  rw [isOpn_all] at ha hx
  rw [befB_iff]
  have ho2 : ¬ (ovl a x = true) := by rw [ho]; simp
  have h2 : ¬ (befB x a = true) := by rw [h]; simp
  rw [ovl_iff] at ho2
  rw [befB_iff] at h2
  omega
/-- in order, and apart -/
def WFO (os : List Opn) : Prop := os.Pairwise fun a b => befB a b = true ∧ ovl a b = false
theorem getD_lt {os : List Opn} {i : Nat} (h : i < os.length) : os.getD i default = os[i] := by rw [List.getD_eq_getElem?_getD, List.getElem?_eq_getElem h, Option.getD_some]
theorem wfo_of {L C : Int} {os : List Opn} (h : okTo L C os os.length = true) : WFO os ∧ ∀ o ∈ os, isOpn L C o = true := by
  have hat : ∀ j, j < os.length → isOpn L C (os.getD j default) = true ∧ (j = 0 ∨ befB (os.getD (j - 1) default) (os.getD j default) = true) ∧ ((os.take j).any fun p => ovl p (os.getD j default)) = false := by
    intro j hj
    have := okTo_at h hj
    unfold okAt at this
    simp only [Bool.and_eq_true, Bool.or_eq_true, decide_eq_true_eq, Bool.not_eq_true'] at this
    exact ⟨this.1, this.2.1, this.2.2⟩
  refine ⟨?_, fun o ho => ?_⟩
  · unfold WFO
    rw [List.pairwise_iff_getElem]
    intro i j hi hj hij
    constructor
    · induction j with
      | zero => omega
      | succ j ih =>
        have h1 := (hat (j + 1) hj).2.1
        rw [Nat.add_sub_cancel, getD_lt hj, getD_lt (show j < os.length by omega)] at h1
        have h1 := h1.resolve_left (by omega)
        by_cases e : i = j
        · subst e; exact h1
        · exact befB_trans (ih (by omega) (by omega)) h1
    · have h2 := (hat j hj).2.2
      rw [List.any_eq_false] at h2
      have h3 := h2 os[i] (List.mem_take_iff_getElem.2 ⟨i, by omega, rfl⟩)
      rw [getD_lt hj] at h3
      simpa using h3
  · obtain ⟨i, hi, rfl⟩ := List.mem_iff_getElem.1 ho
    have := (hat i hi).1
    rwa [getD_lt hi] at this
theorem okTo_of {L C : Int} {os : List Opn} (h : WFO os) (h2 : ∀ o ∈ os, isOpn L C o = true) : okTo L C os os.length = true := by
  have hk : ∀ k, k ≤ os.length → okTo L C os k = true := by
    intro k
    induction k with
    | zero => intro _; rfl
    | succ k ih =>
      intro hk
      unfold okTo
      rw [ih (by omega), Bool.true_and]
      unfold okAt
      have hkk : k < os.length := by omega
      rw [getD_lt hkk, h2 _ (List.getElem_mem hkk), Bool.true_and, Bool.and_eq_true]
      unfold WFO at h
      rw [List.pairwise_iff_getElem] at h
      constructor
      · by_cases e : k = 0
        · simp [e]
        · rw [getD_lt (show k - 1 < os.length by omega), (h (k - 1) k (by omega) hkk (by omega)).1]
          simp
      · rw [Bool.not_eq_true', List.any_eq_false]
        intro p hp
        obtain ⟨i, hi, rfl⟩ := List.mem_take_iff_getElem.1 hp
        have := (h i k (by omega) hkk (by omega)).2
        simpa using this
  exact hk _ (Nat.le_refl _)
theorem putPos_aft (os : List Opn) (x : Opn) (k : Nat) : ∀ j, putPos os x k ≤ j → j < k → befB x (os.getD j default) = true := by
  induction k with
  | zero => intro j _ h; omega
  | succ k ih =>
    intro j h1 h2
    unfold putPos at h1
    split at h1
    · rename_i hb
      by_cases e : j = k
      · subst e; exact hb
      · exact ih j h1 (by omega)
    · omega
theorem putPos_bef (os : List Opn) (x : Opn) (k : Nat) : 0 < putPos os x k → befB x (os.getD (putPos os x k - 1) default) = false := by
  induction k with
  | zero => intro h; exact absurd h (by simp [putPos])
  | succ k ih =>
    unfold putPos
    split
    · exact ih
    · rename_i hb
      intro _
      simpa using hb
theorem putO_wfo {L C : Int} {os : List Opn} {x : Opn} (h : WFO os) (h2 : ∀ o ∈ os, isOpn L C o = true) (hx : isOpn L C x = true) (hh : hitO os x = false) : WFO (putO os x) ∧ ∀ o ∈ putO os x, isOpn L C o = true := by
  have hp := putPos_le os x os.length
  have haft := putPos_aft os x os.length
  have hbef := putPos_bef os x os.length
  unfold hitO at hh
  rw [List.any_eq_false] at hh
  have hno : ∀ o ∈ os, ovl o x = false := fun o ho => by have := hh o ho; simpa using this
  unfold putO
  obtain ⟨p, hpe⟩ : ∃ p, putPos os x os.length = p := ⟨_, rfl⟩
  rw [hpe] at hp haft hbef
  rw [hpe]
  clear hpe
  have hsplit : os.take p ++ os.drop p = os := List.take_append_drop p os
  have hw := h
  unfold WFO at h
  rw [← hsplit, List.pairwise_append] at h
  obtain ⟨ht, hd, htd⟩ := h
  unfold WFO at hw
  rw [List.pairwise_iff_getElem] at hw
  refine ⟨?_, fun o ho => ?_⟩
  · unfold WFO
    rw [List.pairwise_append, List.pairwise_cons]
    refine ⟨ht, ⟨fun b hb => ?_, hd⟩, fun a ha b hb => ?_⟩
    · have hbm := List.mem_of_mem_drop hb
      obtain ⟨i, hi, rfl⟩ := List.mem_drop_iff_getElem.1 hb
      have := haft (p + i) (by omega) (by omega)
      rw [getD_lt (show p + i < os.length by omega)] at this
      exact ⟨by simpa [Nat.add_comm] using this, by rw [ovl_comm]; exact hno _ hbm⟩
    · rcases List.mem_cons.1 hb with rfl | hb
      · have ham := List.mem_of_mem_take ha
        refine ⟨?_, hno _ ham⟩
        obtain ⟨i, hi, rfl⟩ := List.mem_take_iff_getElem.1 ha
        have h0 : 0 < p := by omega
        have hb0 := hbef h0
        rw [getD_lt (show p - 1 < os.length by omega)] at hb0
        refine befB_tri (h2 _ ham) hx (hno _ ham) ?_
        by_cases e : i = p - 1
        · subst e; exact hb0
        · cases hc : befB b os[i] with
          | false => rfl
          | true =>
            have := befB_trans hc (hw i (p - 1) (by omega) (by omega) (by omega)).1
            rw [this] at hb0; cases hb0
      · exact htd a ha b hb
  · rcases List.mem_append.1 ho with ho | ho
    · exact h2 o (List.mem_of_mem_take ho)
    · rcases List.mem_cons.1 ho with rfl | ho
      · exact hx
      · exact h2 o (List.mem_of_mem_drop ho)
theorem addC_valid {L C : Int} {os : List Opn} {x : Opn} (h : addC L C os x = 0) : validF L C os = true ∧ isOpn L C x = true ∧ hitO os x = false ∧ os.length < 8 := by
  unfold addC at h
  split at h
  · rename_i h1
    split at h
    · rename_i h2
      split at h
      · omega
      · rename_i h3
        split at h
        · rename_i h4
          exact ⟨h1, h2, by simpa using h3, h4⟩
        · omega
    · omega
  · omega
theorem putO_valid {L C : Int} {os : List Opn} {x : Opn} (h : addC L C os x = 0) : validF L C (putO os x) = true := by
  obtain ⟨hv, hx, hh, h8⟩ := addC_valid h
  obtain ⟨⟨l1, l2⟩, ⟨c1, c2⟩, n8, hok⟩ := validF_bd hv
  obtain ⟨w1, w2⟩ := wfo_of hok
  obtain ⟨w3, w4⟩ := putO_wfo w1 w2 hx hh
  unfold validF
  simp only [Bool.and_eq_true, decide_eq_true_eq, inB_iff]
  exact ⟨⟨l1, l2⟩, ⟨c1, c2⟩, by rw [putO_len]; omega, okTo_of w3 w4⟩
theorem isOpn_ok {L C : Int} {o : Opn} (h : isOpn L C o = true) (hL : L ≤ 200) (hC : C ≤ 40) : o.ok := by
  rw [isOpn_all] at h
  unfold Opn.ok IsI64
  omega
end Go.Proofs.Ytnhmcmohnpbcjaa
