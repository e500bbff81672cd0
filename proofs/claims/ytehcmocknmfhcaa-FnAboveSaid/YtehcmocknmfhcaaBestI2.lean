/- The best course: the program's side, its callers. -/
import Derived.Test.YtehcmocknmfhcaaBestI
import Derived.Test.YtehcmocknmfhcaaBestS2
namespace Go.Proofs.Ytehcmocknmfhcaa
open Go.RowKit
set_option linter.unusedSimpArgs false
set_option linter.unusedVariables false
set_option linter.unnecessarySimpa false

theorem f_IndexFunc_i64m (F : Nat) (caps : Array Value) (p : Int → Bool) (ao : Option Addr) (n c : Nat) (xs : List Int) (w : World) (hx : Ints w ao n xs)
    (eg : ∀ args w', (callFunc F args).run Try.prog w' = .ok (.enter F args) w')
    (hp : ∀ x w', x ∈ xs → Ext w w' → Calls Try.prog F (#[.int .i64 x] ++ caps) w' (RetE (.bool (p x)) w')) :
    Calls Try.prog 106 #[.slice ao n c, .func (.func F) #[] caps] w (fun e w' => (∃ i : Int, e = .returned (.int .i64 i) ∧ (decide (0 ≤ i)) = xs.any p) ∧ Ext w w') := by
  obtain ⟨hxl, hxm, hxc, hxi⟩ := hx
  go_enter Try.func106, Try.ntmps106
  go_wp2
  go_loopw [8] (fun i wr => ∃ k : Nat, k ≤ n ∧ i = .int .i64 k ∧ (xs.take k).any p = false ∧ Ext w wr) (fun i _ => n - (intOf i).toNat)
  case atStart => exact ⟨0, Nat.zero_le _, rfl, by simp, Ext.refl _⟩
  case round =>
    obtain ⟨k, hk, rfl, htk, er⟩ := hrel
    have HT := Lib.hid htk; clear htk
    by_cases hlt : k < n
    · obtain ⟨b, off, rfl, hc⟩ := hxc k hlt
      obtain ⟨x, hxk⟩ : ∃ x, xs.getD k 0 = x := ⟨_, rfl⟩
      have g1 := er.cell hc
      rw [hxk] at g1
      have hkx : k < xs.length := by omega
      rw [List.getD_eq_getElem?_getD, List.getElem?_eq_getElem hkx, Option.getD_some] at hxk
      have hxm2 : x ∈ xs := by rw [← hxk]; exact List.getElem_mem _
      have HX := Lib.hid hxk
      clear hc hxc hxk
      have HP := Lib.hid hp; clear hp
      by_cases hpx : p x = true
      · go_wp2_with (refine (HP.out x _ hxm2 er).mono ?_; rw [hpx]; rintro e w1 ⟨rfl, e1⟩)
        go_ret
        refine ⟨⟨k, rfl, ?_⟩, er.trans e1⟩
        rw [show decide ((0 : Int) ≤ (k : Int)) = true from by simp, eq_comm, List.any_eq_true]
        exact ⟨x, by rw [← HX.out]; exact List.getElem_mem _, hpx⟩
      · rw [Bool.not_eq_true] at hpx
        go_wp2_with (refine (HP.out x _ hxm2 er).mono ?_; rw [hpx]; rintro e w1 ⟨rfl, e1⟩)
        go_roundw
        case rel =>
          refine ⟨k + 1, by omega, by go_num, ?_, er.trans e1⟩
          rw [List.take_succ_eq_append_getElem hkx, List.any_append, HT.out, HX.out]
          simp [hpx]
        case measure => simp [intOf]; omega
    · go_wp2
      go_ret
      refine ⟨⟨-1, rfl, ?_⟩, er⟩
      have h := HT.out
      rw [List.take_of_length_le (by omega)] at h
      rw [h]; rfl
theorem f_ContainsFunc_i64m (F : Nat) (caps : Array Value) (p : Int → Bool) (ao : Option Addr) (n c : Nat) (xs : List Int) (w : World) (hx : Ints w ao n xs)
    (eg : ∀ args w', (callFunc F args).run Try.prog w' = .ok (.enter F args) w')
    (hp : ∀ x w', x ∈ xs → Ext w w' → Calls Try.prog F (#[.int .i64 x] ++ caps) w' (RetE (.bool (p x)) w')) :
    Calls Try.prog 76 #[.slice ao n c, .func (.func F) #[] caps] w (RetE (.bool (xs.any p)) w) := by
  have HI := Lib.hid (f_IndexFunc_i64m F caps p ao n c xs w hx eg hp)
  clear hp
  go_enter Try.func76, Try.ntmps76
  go_wp2_with (go_at_call 106; refine HI.out.mono ?_; rintro e w1 ⟨⟨i, rfl, hi⟩, e1⟩; have HJ := Lib.hid hi; clear hi)
  go_ret
  exact RetE.mk (bool_eq HJ.out) e1

theorem i_BestAbove_1_1 (x y lap : Int) (p q : Addr) (w : World) (hp : w.cell? p = some (.int .i64 y)) (hq : w.cell? q = some (.int .i64 lap)) (x1 : -1000000000000 ≤ x) (x2 : x ≤ 1000000000000) (y1 : -1000000000000 ≤ y) (y2 : y ≤ 1000000000000) :
    Calls Try.prog 77 #[.int .i64 x, .pointer (some p), .pointer (some q)] w (RetE (.bool (decide (dist x y < lap))) w) := by
  have H := Lib.hid (fun W => i_apart x y x1 x2 y1 y2 W)
  go_enter Try.func77, Try.ntmps77
  go_wp2
  go_quiet ((go_at_call 78; exact quiet_retv (H.out _)))
  go_wp2
  go_ret
  exact RetE.mk rfl ((Ext.refl w).drewN _)
theorem enters_BestAbove11 : ∀ args w, (callFunc 77 args).run Try.prog w = .ok (.enter 77 args) w := enters_of Try.func77 (by kernel_rfl) rfl
theorem far_any (lap : Int) (xs : List Int) (y : Int) : farB lap xs y = !(xs.any fun x => decide (dist x y < lap)) := by
  unfold farB
  rw [List.not_any_eq_all_not]
  congr 1
  funext x
  by_cases h : dist x y < lap
  · simp [h]
  · simp [h]; omega
theorem i_BestAbove_1 (y lap : Int) (ao : Option Addr) (n c : Nat) (xs : List Int) (p q : Addr) (w : World) (hx : Ints w ao n xs) (hn : Near xs) (hp : w.cell? p = some (.slice ao n c)) (hq : w.cell? q = some (.int .i64 lap)) (y1 : -1000000000000 ≤ y) (y2 : y ≤ 1000000000000) :
    Calls Try.prog 75 #[.int .i64 y, .pointer (some p), .pointer (some q)] w (RetE (.bool (farB lap xs y)) w) := by
  have e2 : Ext w (w.alloc (.cells #[.int .i64 y] 2)) := (Ext.refl w).alloc _
  have HF := Lib.hid (far_any lap xs y)
  have q2 := e2.cell hq
  have p2 := e2.cell hp
  have hC := f_ContainsFunc_i64m 77 #[.pointer (some ⟨w.heap.size, 0, none⟩), .pointer (some q)] (fun x => decide (dist x y < lap)) ao n c xs _ (hx.ext e2) enters_BestAbove11 (fun x w' hm e3 => i_BestAbove_1_1 x y lap ⟨w.heap.size, 0, none⟩ q w' (e3.cell (by simp)) (e3.cell q2) (hn x hm).1 (hn x hm).2 y1 y2)
  have HC := Lib.hid hC
  clear hC
  go_enter Try.func75, Try.ntmps75
  go_wp2_with (go_at_call 76; refine HC.out.mono ?_; rintro e w1 ⟨rfl, e1⟩)
  go_ret
  exact RetE.mk (bool_eq (by rw [HF.out])) (e2.trans e1)
theorem enters_BestAbove1 : ∀ args w, (callFunc 75 args).run Try.prog w = .ok (.enter 75 args) w := enters_of Try.func75 (by kernel_rfl) rfl
theorem i_isPair (L : Int) (w : World) : Calls Try.prog 68 #[.int .i64 L] w (RetV (.bool (inB L 1 80)) w) := by
  go_enter Try.func68, Try.ntmps68
  go_wp2_with (go_at_call 46; refine (i_within _ _ _ _).mono ?_; rintro e w' ⟨rfl, rfl⟩)
  go_ret
  exact RetV.mk rfl
theorem far_nil : farB 1 [] = fun _ => true := by funext y; rfl
theorem best_true (L : Int) (d : Nat) : (best (fun _ => true) L d).isSome = true := by
  induction d with
  | zero => rfl
  | succ d ih =>
    obtain ⟨r, hr⟩ := Option.isSome_iff_exists.1 ih
    rw [← nowI_four, nowI_succ _ _ _ _ (by omega), nowI_succ _ _ _ _ (by omega), nowI_succ _ _ _ _ (by omega), nowI_succ _ _ _ _ (by omega), nowI_zero]
    have h : cand (fun _ => true) L (d + 1) (rowsT (fun _ => true) L d) (order4.getD 0 0) = some (ahead 67 r) := by
      show cand (fun _ => true) L (d + 1) (rowsT (fun _ => true) L d) 67 = _
      rw [cand_eq _ L d 1 67 qB_C (by decide), if_neg (by omega), show d + 1 - 1 = d by omega, hr]
      simp
    rw [h]
    have hs : ∀ (a : Option Rw) (x : Option Rw), a.isSome = true → (pickBy ltI a x).isSome = true := by
      intro a x ha
      obtain ⟨v, rfl⟩ := Option.isSome_iff_exists.1 ha
      cases x with
      | none => rfl
      | some u => simp only [pickBy]; split <;> rfl
    exact hs _ _ (hs _ _ (hs _ _ rfl))
theorem i_BestCourse_1 (y : Int) (w : World) : Calls Try.prog 70 #[.int .i64 y] w (RetE (.bool true) w) := by
  go_enter Try.func70, Try.ntmps70
  go_wp2
  go_ret
  exact RetE.mk rfl (Ext.refl _)
theorem enters_BestCourse1 : ∀ args w, (callFunc 70 args).run Try.prog w = .ok (.enter 70 args) w := enters_of Try.func70 (by kernel_rfl) rfl
theorem i_BestCourse (L : Int) (w : World) : Calls Try.prog 33 #[.int .i64 L] w (RetTC (bestT L) (sel (inB L 1 80) 0 2) w) := by
  by_cases g : inB L 1 80 = true
  · have ⟨g1, g2⟩ := inB_iff.1 g
    obtain ⟨N, rfl⟩ : ∃ N : Nat, L = N := ⟨L.toNat, by omega⟩
    have H1 := Lib.hid (fun W => i_isPair (N : Int) W)
    rw [g] at H1
    have HA := Lib.hid (fun W => i_bestCourse N 70 #[] (fun _ => true) W (by omega) (by omega) enters_BestCourse1 (fun x w' _ _ _ => i_BestCourse_1 x w'))
    have HT : Hid (bestT N = tS (best (fun _ => true) N N)) := Lib.hid (by unfold bestT; rw [if_pos g, far_nil]; rfl)
    have HC : Hid (sel (inB N 1 80) 0 2 = 0) := Lib.hid (sel_t g _ _)
    obtain ⟨o, ho⟩ : ∃ o, best (fun _ => true) (N : Int) N = o := ⟨_, rfl⟩
    rw [ho] at HA HT
    clear g ho
    go_enter Try.func33, Try.ntmps33
    go_wp2_with (first | (go_at_call 68; refine (H1.out _).mono ?_; rintro e w' ⟨rfl, rfl⟩) | (go_at_call 69; refine (HA.out _).mono ?_; rintro e w1 ⟨rfl, e1⟩))
    go_ret2
    exact RetTC.mk HT.out.symm HC.out.symm e1
  · rw [Bool.not_eq_true] at g
    have H1 := Lib.hid (fun W => i_isPair L W)
    rw [g] at H1
    have HT : Hid (bestT L = ByteArray.empty) := Lib.hid (by unfold bestT; rw [g]; rfl)
    have HC : Hid (sel (inB L 1 80) 0 2 = 2) := Lib.hid (by rw [g]; rfl)
    clear g
    go_enter Try.func33, Try.ntmps33
    go_wp2_with (first | (go_at_call 68; refine (H1.out _).mono ?_; rintro e w' ⟨rfl, rfl⟩))
    go_ret2
    exact RetTC.mk HT.out.symm HC.out.symm (Ext.refl _)
theorem bestT_len (L : Int) : (bestT L).size ≤ 400 := by
  unfold bestT
  split
  · rename_i g
    have ⟨g1, g2⟩ := inB_iff.1 g
    cases h : best (farB 1 []) L L.toNat with
    | none => decide
    | some r => have := (best_good _ _ _ r h).le; simp only [tS]; rw [mkS_size]; omega
  · decide
theorem bestC_cut (L : Int) : bestC L = cutN (bts (bestT L)) := by
  unfold bestC bestT
  split
  · obtain ⟨r, h⟩ := Option.isSome_iff_exists.1 (best_true L L.toNat)
    rw [far_nil, h]
    simp only [cS, tS]
    rw [bts_mkS]
    exact (best_good _ _ _ r h).cuts
  · rfl
theorem i_FewestCuts (L : Int) (w : World) : Calls Try.prog 34 #[.int .i64 L] w (PairE (bestC L) (sel (inB L 1 80) 0 2) w) := by
  have H := Lib.hid (i_BestCourse L w)
  have hs := bestT_len L
  have HB := Lib.hid (bestC_cut L)
  have HC := Lib.hid (fun W => i_cutsIn (bestT L) (by omega) W)
  obtain ⟨t, ht⟩ : ∃ t, bestT L = t := ⟨_, rfl⟩
  obtain ⟨c, hc⟩ : ∃ c, sel (inB L 1 80) 0 2 = c := ⟨_, rfl⟩
  obtain ⟨b, hb⟩ : ∃ b, bestC L = b := ⟨_, rfl⟩
  rw [ht] at H HC HB hs
  rw [hc] at H
  rw [hb] at HB
  rw [hc, hb]
  clear ht hc hb
  go_enter Try.func34, Try.ntmps34
  go_wp2_with (first | (go_at_call 33; refine H.out.mono ?_; rintro e w1 ⟨rfl, e1⟩) | (go_at_call 67; refine (HC.out _).mono ?_; rintro e w' ⟨rfl, rfl⟩))
  go_ret2
  exact PairE.mk HB.out.symm rfl e1
set_option maxHeartbeats 1600000 in
theorem i_BestAbove (s : ByteArray) (lap : Int) (hs : s.size ≤ 9223372036854775807) (w : World) : Calls Try.prog 38 #[.string s, .int .i64 lap] w (RetTC (mkS (askO s lap).t) (askC s lap) w) := by
  have HEW := Lib.hid ((Ext.refl w).alloc (.cells #[.int .i64 lap] 2))
  have HO : Hid (∀ k, askC s lap = k → k ≠ 0 → mkS (askO s lap).t = ⟨#[]⟩) := Lib.hid (fun k h hk => by unfold askO; rw [if_neg (by rw [h]; exact hk)]; rfl)
  by_cases g1 : validC (bts s) = true
  · have H1 : Hid (∀ W, Calls Try.prog 55 #[.string s] W (RetV (.bool true) W)) := Lib.hid (fun W => by rw [← g1]; exact i_ValidCourse s hs W)
    have ⟨u1, u2, u3, u4⟩ := validC_bd g1
    rw [bts_length] at u1 u2
    by_cases g2 : inB lap 1 4 = true
    · have H2 : Hid (∀ W, Calls Try.prog 46 #[.int .i64 lap, .int .i64 1, .int .i64 4] W (RetV (.bool true) W)) := Lib.hid (fun W => by rw [← g2]; exact i_within _ _ _ W)
      have hq1 := qSum_ge (bts s) u3
      rw [bts_length] at hq1
      obtain ⟨N, hN⟩ : ∃ N : Nat, qSum (bts s) = N := ⟨(qSum (bts s)).toNat, by omega⟩
      have H3 : Hid (∀ W, Calls Try.prog 74 #[.string s] W (RetV (.int .i64 N) W)) := Lib.hid (fun W => by rw [← hN]; exact i_lengthOf s (by omega) W)
      have hl : lenS s = (N : Int) := hN
      by_cases g3 : (80 : Int) < N
      · have HV : Hid (askC s lap = 5) := Lib.hid (by unfold askC; rw [if_pos g1, if_pos g2, hl, if_pos g3])
        clear g1 g2 hN hl u3 u4 hq1
        go_enter Try.func38, Try.ntmps38
        go_wp2_with (first | (go_at_call 55; refine (H1.out _).mono ?_; rintro e w' ⟨rfl, rfl⟩) | (go_at_call 46; refine (H2.out _).mono ?_; rintro e w' ⟨rfl, rfl⟩) | (go_at_call 74; refine (H3.out _).mono ?_; rintro e w' ⟨rfl, rfl⟩))
        go_ret2
        exact RetTC.mk (HO.out 5 HV.out (by decide)).symm HV.out.symm HEW.out
      · have hP := fun W => i_coursePerpends s u1 (by omega) W
        have hnear : Near (perps (bts s)) := fun x hx => by have := perps_bd (bts s) x hx; rw [bts_length] at this; omega
        obtain ⟨xs, hxs⟩ : ∃ xs, perps (bts s) = xs := ⟨_, rfl⟩
        have hdef : askC s lap = if (best (farB lap xs) (N : Int) N).isSome then 0 else 3 := by unfold askC; rw [if_pos g1, if_pos g2, hl, if_neg g3, hxs]; rfl
        have hdefO : askO s lap = if askC s lap = 0 then (best (farB lap xs) (N : Int) N).getD ⟨0, 0, []⟩ else ⟨0, 0, []⟩ := by unfold askO; rw [hl, hxs]; rfl
        rw [hxs] at hP hnear
        have hA : Hid (∀ W ao n c (p : Addr), Ints W ao n xs → W.cell? p = some (.slice ao n c) → W.cell? ⟨w.heap.size, 0, none⟩ = some (.int .i64 lap) → Calls Try.prog 69 #[.int .i64 N, .func (.func 75) #[] #[.pointer (some p), .pointer (some ⟨w.heap.size, 0, none⟩)]] W (RetE (.tuple #[.string (tS (best (farB lap xs) N N)), .bool (best (farB lap xs) N N).isSome]) W)) := Lib.hid (fun W ao n c p hx h1 h2 =>
          i_bestCourse N 75 _ (farB lap xs) W (by omega) (by omega) enters_BestAbove1 (fun x w' x1 x2 e => i_BestAbove_1 x lap ao n c xs p _ w' (hx.ext e) hnear (e.cell h1) (e.cell h2) (by omega) (by omega)))
        have HP := Lib.hid hP
        have HD := Lib.hid hdef
        have HDO := Lib.hid hdefO
        obtain ⟨o, ho⟩ : ∃ o, best (farB lap xs) (N : Int) N = o := ⟨_, rfl⟩
        rw [ho] at hA HD HDO
        clear g1 g2 hN hl u3 u4 hq1 hP hnear hxs ho hdef hdefO
        rcases o with _ | r
        · have HV : Hid (askC s lap = 3) := Lib.hid (by rw [HD.out]; rfl)
          go_enter Try.func38, Try.ntmps38
          go_wp2_with (first | (go_at_call 55; refine (H1.out _).mono ?_; rintro e w' ⟨rfl, rfl⟩) | (go_at_call 46; refine (H2.out _).mono ?_; rintro e w' ⟨rfl, rfl⟩) | (go_at_call 74; refine (H3.out _).mono ?_; rintro e w' ⟨rfl, rfl⟩) | (go_at_call 56; refine (HP.out _).mono ?_; rintro e w1 ⟨a1, c1, rfl, o1, e1⟩; have h0 : w1.cell? ⟨w.heap.size, 0, none⟩ = some (.int .i64 lap) := e1.cell (by simp)) | (go_at_call 69; refine (hA.out _ a1 _ c1 ⟨w1.heap.size, 0, none⟩ ((o1.ints).ext ((Ext.refl _).alloc _)) (by simp) (((Ext.refl _).alloc _).cell h0)).mono ?_; rintro e w2 ⟨rfl, e2⟩; have E2 := HEW.out.trans ((e1.alloc (.cells #[.slice a1 xs.length c1] 45)).trans e2)))
          go_ret2
          exact RetTC.mk (HO.out 3 HV.out (by decide)).symm HV.out.symm E2
        · have HV : Hid (askC s lap = 0) := Lib.hid (by rw [HD.out]; rfl)
          have HVO : Hid (askO s lap = r) := Lib.hid (by rw [HDO.out, if_pos HV.out]; rfl)
          go_enter Try.func38, Try.ntmps38
          go_wp2_with (first | (go_at_call 55; refine (H1.out _).mono ?_; rintro e w' ⟨rfl, rfl⟩) | (go_at_call 46; refine (H2.out _).mono ?_; rintro e w' ⟨rfl, rfl⟩) | (go_at_call 74; refine (H3.out _).mono ?_; rintro e w' ⟨rfl, rfl⟩) | (go_at_call 56; refine (HP.out _).mono ?_; rintro e w1 ⟨a1, c1, rfl, o1, e1⟩; have h0 : w1.cell? ⟨w.heap.size, 0, none⟩ = some (.int .i64 lap) := e1.cell (by simp)) | (go_at_call 69; refine (hA.out _ a1 _ c1 ⟨w1.heap.size, 0, none⟩ ((o1.ints).ext ((Ext.refl _).alloc _)) (by simp) (((Ext.refl _).alloc _).cell h0)).mono ?_; rintro e w2 ⟨rfl, e2⟩; have E2 := HEW.out.trans ((e1.alloc (.cells #[.slice a1 xs.length c1] 45)).trans e2)))
          go_ret2
          exact RetTC.mk (by rw [HVO.out]; rfl) HV.out.symm E2
    · rw [Bool.not_eq_true] at g2
      have HV : Hid (askC s lap = 2) := Lib.hid (by unfold askC; rw [if_pos g1, g2]; rfl)
      have H2 : Hid (∀ W, Calls Try.prog 46 #[.int .i64 lap, .int .i64 1, .int .i64 4] W (RetV (.bool false) W)) := Lib.hid (fun W => by rw [← g2]; exact i_within _ _ _ W)
      clear g1 g2 u3 u4
      go_enter Try.func38, Try.ntmps38
      go_wp2_with (first | (go_at_call 55; refine (H1.out _).mono ?_; rintro e w' ⟨rfl, rfl⟩) | (go_at_call 46; refine (H2.out _).mono ?_; rintro e w' ⟨rfl, rfl⟩))
      go_ret2
      exact RetTC.mk (HO.out 2 HV.out (by decide)).symm HV.out.symm HEW.out
  · rw [Bool.not_eq_true] at g1
    have HV : Hid (askC s lap = 1) := Lib.hid (by unfold askC; rw [g1]; rfl)
    have H1 : Hid (∀ W, Calls Try.prog 55 #[.string s] W (RetV (.bool false) W)) := Lib.hid (fun W => by rw [← g1]; exact i_ValidCourse s hs W)
    clear g1
    go_enter Try.func38, Try.ntmps38
    go_wp2_with (first | (go_at_call 55; refine (H1.out _).mono ?_; rintro e w' ⟨rfl, rfl⟩))
    go_ret2
    exact RetTC.mk (HO.out 1 HV.out (by decide)).symm HV.out.symm HEW.out
theorem askO_len (s : ByteArray) (lap : Int) : (mkS (askO s lap).t).size ≤ 400 ∧ (askO s lap).c = cutN (bts (mkS (askO s lap).t)) := by
  rw [bts_mkS, mkS_size]
  unfold askO
  split
  · rename_i g
    have hN : lenS s ≤ 80 := by
      unfold askC at g
      split at g
      · split at g
        · split at g
          · omega
          · omega
        · omega
      · omega
    cases h : best (farB lap (perps (bts s))) (lenS s) (lenS s).toNat with
    | none => exact ⟨by simp, rfl⟩
    | some r => have := best_good _ _ _ r h; have := this.le; exact ⟨by simp; omega, (best_good _ _ _ r h).cuts⟩
  · exact ⟨by simp, rfl⟩
theorem i_CutsAbove (s : ByteArray) (lap : Int) (hs : s.size ≤ 9223372036854775807) (w : World) : Calls Try.prog 39 #[.string s, .int .i64 lap] w (PairE (askO s lap).c (askC s lap) w) := by
  have H := Lib.hid (i_BestAbove s lap hs w)
  have ⟨hl, hb⟩ := askO_len s lap
  have HB := Lib.hid hb
  have HC := Lib.hid (fun W => i_cutsIn (mkS (askO s lap).t) (by omega) W)
  clear hb
  obtain ⟨t, ht⟩ : ∃ t, mkS (askO s lap).t = t := ⟨_, rfl⟩
  obtain ⟨c, hc⟩ : ∃ c, askC s lap = c := ⟨_, rfl⟩
  obtain ⟨b, hb⟩ : ∃ b, (askO s lap).c = b := ⟨_, rfl⟩
  rw [ht] at H HC HB hl
  rw [hc] at H
  rw [hb] at HB
  rw [hc, hb]
  clear ht hc hb
  go_enter Try.func39, Try.ntmps39
  go_wp2_with (first | (go_at_call 38; refine H.out.mono ?_; rintro e w1 ⟨rfl, e1⟩) | (go_at_call 67; refine (HC.out _).mono ?_; rintro e w' ⟨rfl, rfl⟩))
  go_ret2
  exact PairE.mk HB.out.symm rfl e1
end Go.Proofs.Ytehcmocknmfhcaa
