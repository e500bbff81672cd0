/- A group of texts, one behind the other: HouseH, HouseJ, HouseK. -/
import Derived.Test.YtaokeaiehjgbnaaGreatDoorGaHd
import Derived.Test.YtaokeaiehjgbnaaGreatDoorGaHt
import Derived.Test.YtaokeaiehjgbnaaGreatDoorPtsL
import Derived.Test.YtaokeaiehjgbnaaGreatDoorHText
import Derived.Test.YtaokeaiehjgbnaaGreatDoorSpoil
import Derived.Deep.RegionHeld3
/- Contracts: what the law on quoins draws, and its small helpers. -/
namespace Go.Proofs.YtaokeaiehjgbnaaGreatDoor
open Go.RowKit
set_option linter.unusedSimpArgs false
set_option linter.unusedVariables false
set_option linter.unnecessarySimpa false

theorem AskF.put {lo hx tu : Nat} {w w1 : World} {o : Obj} {v : Value} {t : ByteArray} {xs : List Int} (h : AskF lo hx tu (w.alloc o) v t xs w1) (u u' : Value) : AskF lo hx tu w v t xs ((w1.setCell ⟨w.heap.size, 0, none⟩ u).setCell ⟨w.heap.size, 1, none⟩ u') := by
  obtain ⟨hb, cap, rfl, h2, h3, h4, h5, h6, h7, h8⟩ := h
  have hz : (w.alloc o).heap.size = w.heap.size + 1 := by simp
  rw [hz] at h7
  have o2 : OwnInts 2 ((w1.setCell ⟨w.heap.size, 0, none⟩ u).setCell ⟨w.heap.size, 1, none⟩ u') (w.heap.size + 1) (.slice (some ⟨hb, 0, none⟩) xs.length cap) xs := (h7.setBelow (by dsimp only; omega) _).setBelow (by dsimp only; omega) _
  exact ⟨hb, cap, rfl, h2, h3, h4, h5, o2.ints, o2.mono (by omega), ((((Ext.refl w).alloc o).trans h8).setCell (Nat.le_refl _) _).setCell (Nat.le_refl _) _⟩
def RetD2 (w : World) (e : Ending) (w' : World) : Prop := ∃ v t xs r, e = .returned (.tuple #[.agg #[v, .string t], .int .i64 r]) ∧ IsI64 r ∧ AskF 4 14 20 w v t xs w'
def RetD3 (w : World) (e : Ending) (w' : World) : Prop := ∃ v t xs k r, e = .returned (.tuple #[.agg #[v, .string t], .int .i64 k, .int .i64 r]) ∧ IsI64 k ∧ IsI64 r ∧ AskF 4 14 20 w v t xs w'
def RetD3b (w : World) (e : Ending) (w' : World) : Prop := ∃ v t xs k b, e = .returned (.tuple #[.agg #[v, .string t], .int .i64 k, .bool b]) ∧ IsI64 k ∧ AskF 4 14 20 w v t xs w'
def bigC (n : Nat) : Bool := decide (4096 < n)
theorem l_f6big (ao : Option Addr) (n c : Nat) (w : World) (hn : n ≤ 9223372036854775807) : Calls Tryz.prog 4 #[.slice ao n c] w (RetV (.bool (bigC n)) w) := by
  by_cases h1 : 4096 < n
  · have h1' : (4096 : Int) < (n : Int) := by omega
    have HV : Hid (bigC n = true) := Lib.hid (by simp [bigC, h1])
    go_enter Tryz.func4, Tryz.ntmps4
    go_wp2
    go_ret
    exact RetV.mk (bool_eq HV.out.symm)
  · have h1' : ¬ (4096 : Int) < (n : Int) := by omega
    have HV : Hid (bigC n = false) := Lib.hid (by simp [bigC, h1])
    go_enter Tryz.func4, Tryz.ntmps4
    go_wp2
    go_ret
    exact RetV.mk (bool_eq HV.out.symm)
set_option maxHeartbeats 400000 in
theorem l_f6ints (ao bo : Option Addr) (n m c d : Nat) (xs ys : List Int) (w : World) (hx : Ints w ao n xs) (hy : Ints w bo m ys) :
    Calls Tryz.prog 52 #[.slice ao n c, .slice bo m d] w (RetE (.bool (xs == ys)) w) := by
  obtain ⟨hxl, hxm, hxc, hxi⟩ := hx
  obtain ⟨hyl, hym, hyc, hyi⟩ := hy
  by_cases hnm : (n : Int) = m
  · have hnm2 : n = m := by omega
    go_enter Tryz.func52, Tryz.ntmps52
    go_wp2
    go_loopw [5] (fun i wr => ∃ k : Nat, k ≤ n ∧ i = .int .i64 k ∧ xs.take k = ys.take k ∧ Ext w wr) (fun i _ => n - (intOf i).toNat)
    case atStart => exact ⟨0, Nat.zero_le _, rfl, by simp, Ext.refl _⟩
    case round =>
      obtain ⟨k, hk, rfl, htk, er⟩ := hrel
      have HT := Lib.hid htk; clear htk
      by_cases hlt : k < n
      · obtain ⟨b, off, rfl, hc⟩ := hxc k hlt
        obtain ⟨b', off', rfl, hc'⟩ := hyc k (by omega)
        obtain ⟨x, hxk⟩ : ∃ x, xs.getD k 0 = x := ⟨_, rfl⟩
        obtain ⟨y, hyk⟩ : ∃ y, ys.getD k 0 = y := ⟨_, rfl⟩
        have g1 := er.cell hc
        have g2 := er.cell hc'
        rw [hxk] at g1
        rw [hyk] at g2
        have hltm : (k : Int) < m := by omega
        have hkx : k < xs.length := by omega
        have hky : k < ys.length := by omega
        rw [List.getD_eq_getElem?_getD, List.getElem?_eq_getElem hkx, Option.getD_some] at hxk
        rw [List.getD_eq_getElem?_getD, List.getElem?_eq_getElem hky, Option.getD_some] at hyk
        have HX := Lib.hid hxk
        have HY := Lib.hid hyk
        clear hc hc' hxc hyc hxk hyk
        by_cases he : x = y
        · subst he
          go_wp2
          go_quiet (fail)
          go_wp2
          go_roundw
          case rel =>
            refine ⟨k + 1, by omega, by go_num, ?_, er.drewN _⟩
            rw [List.take_succ_eq_append_getElem hkx, List.take_succ_eq_append_getElem hky, HT.out, HX.out, HY.out]
          case measure => simp [intOf]; omega
        · have t2 : ((x : Int) != y) = true := by simp [he]
          have hne : (xs == ys) = false := by
            rw [beq_eq_false_iff_ne]; intro h; subst h; exact he (HX.out.symm.trans HY.out)
          have HN := Lib.hid hne
          clear hne
          go_wp2
          go_quiet (fail)
          go_wp2
          go_ret
          exact RetE.mk (bool_eq HN.out.symm) (er.drewN _)
      · go_wp2
        go_ret
        have h := HT.out
        rw [List.take_of_length_le (by omega), List.take_of_length_le (by omega)] at h
        exact RetE.mk (bool_eq (by rw [h]; simp)) er
  · have hne : (xs == ys) = false := by
      rw [beq_eq_false_iff_ne]; intro h; subst h; omega
    have HN := Lib.hid hne
    clear hne
    go_enter Tryz.func52, Tryz.ntmps52
    go_wp2
    go_ret
    exact RetE.mk (bool_eq HN.out.symm) (Ext.refl _)
theorem sum_bdQ {b : Int} : ∀ (l : List Int), (∀ x ∈ l, 0 ≤ x ∧ x ≤ b) → 0 ≤ l.sum ∧ l.sum ≤ b * l.length
  | [], _ => by simp
  | x :: l, h => by
    have h1 := h x (by simp)
    have ih := sum_bdQ l (fun y hy => h y (List.mem_cons_of_mem _ hy))
    rw [List.sum_cons, List.length_cons, Int.natCast_succ, Int.mul_add, Int.mul_one]
    omega
/-! ### the lengths of a course do not change with the courses together -/
def aQ (k r : Int) : Int := if (k + r) % 2 = 0 then 0 else 2
def cQ (k r : Int) : Int := if (k + r) % 2 = 0 then 2 else 0
theorem aQ_cQ (k r : Int) : aQ k r + cQ k r = 2 := by unfold aQ cQ; split <;> rfl
theorem sideI_pred (xs : List Int) (n k : Nat) (r : Int) (hn : xs.length = n) (hk : k < n) : sideI xs k r = xs.getD k 0 - aQ k r - (if k = 0 then cQ ((n : Int) - 1) r else cQ ((k : Int) - 1) r) := by
  unfold sideI aQ cQ
  rw [hn, Int.toNat_natCast]
  by_cases h0 : k = 0
  · subst h0
    rw [if_pos rfl, show (((0 : Nat) : Int) + (n : Int) - 1) % (n : Int) = (n : Int) - 1 by rw [show ((0 : Nat) : Int) + (n : Int) - 1 = (n : Int) - 1 by omega]; exact Int.emod_eq_of_lt (by omega) (by omega)]
  · rw [if_neg h0, show ((k : Int) + (n : Int) - 1) % (n : Int) = (k : Int) - 1 by rw [show (k : Int) + (n : Int) - 1 = ((k : Int) - 1) + (n : Int) by omega, Int.add_emod_right]; exact Int.emod_eq_of_lt (by omega) (by omega)]
theorem sideI_sums (xs : List Int) (n : Nat) (r : Int) (hn : xs.length = n) : ∀ m : Nat, m + 1 ≤ n → ((List.range (m + 1)).map (fun (k : Nat) => sideI xs k r)).sum = sumN xs (m + 1) - 2 * m - aQ m r - cQ ((n : Int) - 1) r
  | 0, h => by
    rw [arH_snoc, List.sum_append]
    have := sideI_pred xs n 0 r hn h
    simp only [List.range_zero, List.map_nil, List.sum_nil, List.sum_cons]
    rw [this, if_pos rfl]
    simp [sumN]
  | m + 1, h => by
    rw [arH_snoc, List.sum_append, sideI_sums xs n r hn m (by omega)]
    have h1 := sideI_pred xs n (m + 1) r hn h
    rw [if_neg (by omega), show ((m + 1 : Nat) : Int) - 1 = m by omega] at h1
    have h2 := aQ_cQ m r
    simp only [List.sum_cons, List.sum_nil]
    rw [h1]
    show _ = sumN xs (m + 1) + xs.getD (m + 1) 0 - 2 * ((m + 1 : Nat) : Int) - aQ ((m + 1 : Nat) : Int) r - _
    omega
theorem arH_sum {xs : List Int} {t : List UInt8} {r : Int} (h : codeH xs t 0 r = 0) : (arH xs t r).sum = sumN xs xs.length - 2 * (arH xs t r).length ∧ (∀ x ∈ arH xs t r, 0 ≤ x ∧ x ≤ 1000000) := by
  have hv := validH_bd (code_0 h).1
  have e : arH xs t r = (List.range xs.length).map (fun (k : Nat) => sideI xs k r) := by unfold arH; rw [if_pos h]
  obtain ⟨m, hm⟩ : ∃ m, xs.length = m + 1 := ⟨xs.length - 1, by omega⟩
  constructor
  · have h1 := sideI_sums xs xs.length r rfl m (by omega)
    have h2 := aQ_cQ m r
    rw [e, List.length_map, List.length_range]
    rw [← hm] at h1
    rw [h1, show ((xs.length : Int) - 1) = m by omega]
    omega
  · intro x hx
    rw [e] at hx
    obtain ⟨k, hk, rfl⟩ := List.mem_map.1 hx
    have := sideI_i64 (r := r) rfl hv.2.2.1 (List.mem_range.1 hk)
    omega
theorem code_next {xs : List Int} {t : List UInt8} {k r : Int} (h : codeH xs t k r = 0) (hr : r < 1000) : codeH xs t k (r + 1) = 0 := by
  obtain ⟨h1, h2, h3, h4, h5⟩ := code_0 h
  unfold codeH inRange
  rw [h1, show inB k 0 ((xs.length : Int) - 1) = true by rw [inB_iff]; omega, show inB (r + 1) 0 1000 = true by rw [inB_iff]; omega]
  rfl
theorem runs_next {xs : List Int} {t : List UInt8} {k r : Int} (h : codeH xs t k r = 0) (hr : r < 1000) : runsH xs t k (r + 1) = !runsH xs t k r := by
  have h2 := code_next h hr
  unfold runsH thruI
  rw [h, h2]
  simp only [decide_true, Bool.true_and]
  by_cases h3 : (k + r) % 2 = 0
  · rw [show decide ((k + r) % 2 = 0) = true by simp [h3], show decide ((k + (r + 1)) % 2 = 0) = false by simp; omega]; rfl
  · rw [show decide ((k + r) % 2 = 0) = false by simp [h3], show decide ((k + (r + 1)) % 2 = 0) = true by simp; omega]; rfl
theorem lap_in {xs : List Int} {t : List UInt8} {k : Int} {b : Bool} (h : codeH xs t k 0 = 0) : 1 ≤ lapH xs t k b ∧ lapH xs t k b ≤ 2 := by
  unfold lapH sel
  rw [if_pos h]
  split <;> omega
end Go.Proofs.YtaokeaiehjgbnaaGreatDoor

/- Contracts: what the law on houses draws, and its small helpers. -/
namespace Go.Proofs.YtaokeaiehjgbnaaGreatDoor
open Go.RowKit
set_option linter.unusedSimpArgs false
set_option linter.unusedVariables false
set_option linter.unnecessarySimpa false

set_option maxHeartbeats 1000000 in
theorem s_DrawTurnHouse (ao : Option Addr) (n c : Nat) (bs : List UInt8) (w : World) (hbW : U8s w ao n bs) : Calls Tryz.prog 5 #[.slice ao n c] w (RetD2 w) := by
  have HA := Lib.hid (fun w1 (e : Ext w w1) => s_l07Ask ao n c bs w1 (hbW.ext e))
  have HR0 := Lib.hid (blk_at w (.cells #[.slice none 0 0, .string ⟨#[]⟩] 26) _ rfl)
  clear hbW
  go_enter Tryz.func5, Tryz.ntmps5
  go_wp2_with fail
  refine (HA.out _ ((Ext.refl w).alloc _)).mono ?_
  rintro e w1 ⟨v, t, xs, k, r, rfl, hk, hr, hF⟩
  have HF := Lib.hid hF
  have HK := Lib.hid hk
  have e1 : Ext (w.alloc (.cells #[.slice none 0 0, .string ⟨#[]⟩] 26)) w1 := let ⟨_, _, _, _, _, _, _, _, _, h⟩ := hF; h
  obtain ⟨r0, r1, r2, r3, r4⟩ := two_cells (e1.block HR0.out)
  obtain ⟨hb, cap, rfl, _⟩ := hF
  clear e1 hk hr
  have HQ := Lib.hid (fun u v o => resQ_alloc (o := o) r0 r1 u v)
  go_wp2
  have hq := HQ.out
  refine bodyPost_ret (v := .tuple #[.agg #[.slice (some ⟨hb, 0, none⟩) xs.length cap, .string t], .int .i64 k]) (by simp [results, Tryz.results5, go_sem, hq]) rfl ?_
  exact ⟨_, t, xs, k, rfl, HK.out, (HF.out.put _ _).ext ((Ext.refl _).alloc _)⟩
set_option maxHeartbeats 800000 in
theorem l_f6lists (ao bo : Option Addr) (n c d : Nat) (ps : List (Int × Int)) (w : World) (hn : n ≤ 1000000) (hi : Wide ps) (hx : PtsAt w ao n ps) (hy : PtsAt w bo n ps) :
    Calls Tryz.prog 22 #[.slice ao n c, .slice bo n d] w (RetE (.bool true) w) := by
  have HX := Lib.hid hx
  have HY := Lib.hid hy
  have HI := Lib.hid hi
  clear hx hy hi
  go_enter Tryz.func22, Tryz.ntmps22
  go_wp2
  go_loopw [5] (fun i wr => ∃ k : Nat, k ≤ n ∧ i = .int .i64 k ∧ Ext w wr) (fun i _ => n - (intOf i).toNat)
  case atStart => exact ⟨0, Nat.zero_le _, rfl, Ext.refl _⟩
  case round =>
    obtain ⟨k, hk, rfl, er⟩ := hrel
    have HER := Lib.hid er
    by_cases hlt : k < n
    · have hw := HI.out.at (show k < ps.length by have := HX.out.1; omega)
      obtain ⟨rg, g, rfl, d0, i0⟩ := (HX.out.ext er).ints hlt hw
      obtain ⟨rg', g', rfl, c0, i1⟩ := (HY.out.ext er).ints hlt hw
      have HEx := Lib.hid (fun W (e : Ext wr W) => l_f6ints _ _ 2 2 2 2 _ _ W (i0.ext e) (i1.ext e))
      rw [beq_self_eq_true] at HEx
      obtain ⟨α, hne, F, hK⟩ := cls_of wr
      have HK := Lib.hid hK
      have t0 := hK.cell d0
      have s0 := hK.cell c0
      clear hK d0 c0 er i0 i1 hw
      have hkn : (k : Int) < (n : Int) := by omega
      have hk0 : (0 : Int) ≤ (k : Int) := by omega
      go_upto_region 6 with fail
      refine wp_region_cls F (by kernel_rfl) (by kernel_rfl) HK.out.drew ?_
      repeat (go_big_quiet_step ((first | (go_at_call 52; exact HK.out.retE (HEx.out _ (HK.out.ext _))))))
      refine wpQuiet_nil ?_
      rintro _ ⟨z, rfl⟩
      go_wp2
      go_roundw
      case rel => first | exact ⟨k + 1, by omega, by go_num, HER.out.trans (HK.out.ext z)⟩ | ((repeat apply Exists.intro); exact ⟨⟨k + 1, by omega, by go_num, HER.out.trans (HK.out.ext z)⟩, rfl⟩)
      case measure => (simp [intOf] <;> omega)
    · go_wp2
      go_ret
      exact RetE.mk rfl HER.out
theorem runT_len {xs : List Int} {ts : List UInt8} (h : ts.length = xs.length) (h1 : 1 ≤ xs.length) (h2 : xs.length ≤ 8) (hb : ∀ x ∈ xs, 0 ≤ x ∧ x ≤ 200) : 1 ≤ (runT xs ts).length ∧ (runT xs ts).length ≤ 176 := by
  rw [runT_eq]
  have hw := runW_bd (ts := ts) hb
  have hl := runW_len h
  constructor
  · have hne : runW xs ts ≠ [] := fun e => by rw [e] at hl; simp at hl; omega
    have := join_ne hne (fun x hx => (hw x hx).1)
    exact List.length_pos_iff.2 this
  · have := join_len [32] 21 (runW xs ts) (fun x hx => (hw x hx).2)
    simp only [List.length_singleton] at this
    omega
set_option maxHeartbeats 1000000 in
theorem s_DrawReadHouse (ao : Option Addr) (n c : Nat) (bs : List UInt8) (w : World) (hbW : U8s w ao n bs) : Calls Tryz.prog 18 #[.slice ao n c] w (RetTxt w 400) := by
  have HD := Lib.hid (fun w1 (h1 : SrcAt w1 w.heap.size ao n c ⟨0, 0⟩) (e1 : Ext w w1) => s_l07DrawV hbW (Nat.le_refl _) 0 (by omega) ⟨0, 0⟩ ⟨by decide, by decide⟩ w1 h1 e1)
  have HO := Lib.hid (fun (B : Nat) (hB : B ≤ 2900000000000000000) (st : Src) (ha : st.Ok B) (w1 : World) (h : SrcAt w1 w.heap.size ao n c st) (e0 : Ext w w1) => s_oneQ 3 (by decide) (by decide) hbW (Nat.le_refl _) B hB st ha w1 h e0)
  have HSp := Lib.hid (fun (B : Nat) (hB : B ≤ 2800000000000000000) (st : Src) (ha : st.Ok B) (t : ByteArray) (ht1 : 1 ≤ t.size) (ht2 : t.size ≤ 190) (w1 : World) (h : SrcAt w1 w.heap.size ao n c st) (e0 : Ext w w1) => s_l01Spoil hbW (Nat.le_refl _) B hB st ha t ht1 ht2 w1 h e0)
  clear hbW
  go_enter Tryz.func18, Tryz.ntmps18
  go_wp2_with fail
  refine (s_l00From ao n c _).mono ?_
  rintro e w1 ⟨rfl, s1, e1, z1⟩
  have HS1 := Lib.hid s1
  have HE1 := Lib.hid e1
  clear s1 e1 z1
  go_wp2_with fail
  refine (HD.out _ HS1.out HE1.out).mono ?_
  rintro e w2 ⟨hb, cap, xs, t, st2, rfl, l1, l2, l0, t1, t2, o2, OK2, s2, g2, htx, hxv⟩
  obtain ⟨m, hm⟩ : ∃ m, xs.length = m := ⟨_, rfl⟩
  have hrl := runT_len (xs := xs) (ts := bts t) (by rw [bts_length]; exact htx) (by omega) l2 hxv
  rw [hm] at l0 l1 l2 o2 htx
  rw [hm]
  have HI2 := Lib.hid (o2.ints.ext ((Ext.refl w2).alloc (.cells #[.slice (some ⟨hb, 0, none⟩) m cap, .string t] 26)))
  have HS2 : Hid (SrcAt (w2.alloc (.cells #[.slice (some ⟨hb, 0, none⟩) m cap, .string t] 26)) w.heap.size ao n c st2) := Lib.hid (blk_old s2)
  have HE2 := Lib.hid ((extQ_of_src g2 HE1.out (Nat.le_refl _)).alloc (.cells #[.slice (some ⟨hb, 0, none⟩) m cap, .string t] 26))
  have HOK2 := Lib.hid OK2
  have HTw := Lib.hid (Two.new w2 (.slice (some ⟨hb, 0, none⟩) m cap) (.string t) 26)
  have HTx := Lib.hid htx
  have HXV := Lib.hid hxv
  have hts := mkS_size (runT xs (bts t))
  have hl07 := Lib.hid (s_l07Text w2.heap.size (some ⟨hb, 0, none⟩) m cap xs t _ HTw.out HI2.out htx (by omega) hxv)
  obtain ⟨z, hz⟩ : ∃ z, mkS (runT xs (bts t)) = z := ⟨_, rfl⟩
  rw [hz] at hl07 hts
  have hz1 : 1 ≤ z.size ∧ z.size ≤ 176 := by omega
  clear o2 OK2 s2 g2 htx hxv hrl hts hz hm
  go_wp2_with fail
  refine hl07.out.mono ?_
  rintro e w3 ⟨rfl, e3⟩
  have HS3 : Hid (SrcAt w3 w.heap.size ao n c st2) := Lib.hid (e3.block HS2.out)
  have HE3 := Lib.hid (HE2.out.trans e3)
  clear e3 HS2 HE2
  go_wp2_with fail
  refine (HO.out _ (by omega) st2 HOK2.out w3 HS3.out HE3.out).mono ?_
  rintro e w4 ⟨b, st4, rfl, OK4, s4, g4⟩
  have HE4 := Lib.hid (extQ_of_src g4 HE3.out (Nat.le_refl _))
  have HS4 := Lib.hid s4
  have HOK4 := Lib.hid OK4
  clear OK4 s4 g4
  cases b
  · go_wp2
    go_ret
    exact ⟨z, rfl, by omega, HE4.out⟩
  · go_wp2_with fail
    refine (HSp.out _ (by omega) st4 HOK4.out z hz1.1 (by omega) w4 HS4.out HE4.out).mono ?_
    rintro e w5 ⟨u, rfl, hu, e5⟩
    have HE5 := Lib.hid e5
    clear e5
    go_wp2
    go_ret
    exact ⟨u, rfl, hu, HE5.out⟩
end Go.Proofs.YtaokeaiehjgbnaaGreatDoor

/- Contract: two plans that are drawn, seldom equal. -/
namespace Go.Proofs.YtaokeaiehjgbnaaGreatDoor
open Go.RowKit
set_option linter.unusedSimpArgs false
set_option linter.unusedVariables false
set_option linter.unnecessarySimpa false

/-- two plans are handed back -/
def RetPairH (w : World) (e : Ending) (w' : World) : Prop := ∃ ha m c s hb k d t xs ys, e = .returned (.tuple #[.agg #[.slice (some ⟨ha, 0, none⟩) m c, .string s], .agg #[.slice (some ⟨hb, 0, none⟩) k d, .string t]]) ∧ Ints w' (some ⟨ha, 0, none⟩) m xs ∧ Ints w' (some ⟨hb, 0, none⟩) k ys ∧ s.size ≤ 100 ∧ t.size ≤ 100 ∧ Ext w w'
theorem RetPairH.drew {w w' : World} {e : Ending} (h : RetPairH w e w') : RetPairH w e w'.drew := by
  obtain ⟨ha, m, c, s, hb, k, d, t, xs, ys, h1, h2, h3, h4, h5, h6⟩ := h
  exact ⟨ha, m, c, s, hb, k, d, t, xs, ys, h1, h2.ext (Ext.refl _).drew, h3.ext (Ext.refl _).drew, h4, h5, h6.drew⟩
theorem res_four {w : World} {P : Nat} {x0 x1 y0 y1 : Value} (a b c d : Value) (r0 : w.cell? ⟨P, 0, none⟩ = some x0) (r1 : w.cell? ⟨P, 1, none⟩ = some x1) (u0 : w.cell? ⟨P + 1, 0, none⟩ = some y0) (u1 : w.cell? ⟨P + 1, 1, none⟩ = some y1) :
    ((((w.setCell ⟨P, 0, none⟩ a).setCell ⟨P, 1, none⟩ b).setCell ⟨P + 1, 0, none⟩ c).setCell ⟨P + 1, 1, none⟩ d).cell? ⟨P, 0, none⟩ = some a ∧
    ((((w.setCell ⟨P, 0, none⟩ a).setCell ⟨P, 1, none⟩ b).setCell ⟨P + 1, 0, none⟩ c).setCell ⟨P + 1, 1, none⟩ d).cell? ⟨P, 1, none⟩ = some b ∧
    ((((w.setCell ⟨P, 0, none⟩ a).setCell ⟨P, 1, none⟩ b).setCell ⟨P + 1, 0, none⟩ c).setCell ⟨P + 1, 1, none⟩ d).cell? ⟨P + 1, 0, none⟩ = some c ∧
    ((((w.setCell ⟨P, 0, none⟩ a).setCell ⟨P, 1, none⟩ b).setCell ⟨P + 1, 0, none⟩ c).setCell ⟨P + 1, 1, none⟩ d).cell? ⟨P + 1, 1, none⟩ = some d := by
  have ne1 : ∀ i j, (⟨P + 1, i, none⟩ : Addr) ≠ ⟨P, j, none⟩ := fun i j e => by simp at e
  have ne2 : ∀ i j, (⟨P, i, none⟩ : Addr) ≠ ⟨P + 1, j, none⟩ := fun i j e => by simp at e
  have X1 := resQ_two a b r0 r1
  have Y0 : ((w.setCell ⟨P, 0, none⟩ a).setCell ⟨P, 1, none⟩ b).cell? ⟨P + 1, 0, none⟩ = some y0 := by
    rw [World.cell?_setCell_other _ _ _ _ (by first | exact ne1 _ _ | exact ne2 _ _), World.cell?_setCell_other _ _ _ _ (by first | exact ne1 _ _ | exact ne2 _ _)]; exact u0
  have Y1 : ((w.setCell ⟨P, 0, none⟩ a).setCell ⟨P, 1, none⟩ b).cell? ⟨P + 1, 1, none⟩ = some y1 := by
    rw [World.cell?_setCell_other _ _ _ _ (by first | exact ne1 _ _ | exact ne2 _ _), World.cell?_setCell_other _ _ _ _ (by first | exact ne1 _ _ | exact ne2 _ _)]; exact u1
  have X2 := resQ_two c d Y0 Y1
  refine ⟨?_, ?_, X2.1, X2.2⟩
  · rw [World.cell?_setCell_other _ _ _ _ (by first | exact ne1 _ _ | exact ne2 _ _), World.cell?_setCell_other _ _ _ _ (by first | exact ne1 _ _ | exact ne2 _ _)]; exact X1.1
  · rw [World.cell?_setCell_other _ _ _ _ (by first | exact ne1 _ _ | exact ne2 _ _), World.cell?_setCell_other _ _ _ _ (by first | exact ne1 _ _ | exact ne2 _ _)]; exact X1.2
theorem Ints.other {w : World} {g n : Nat} {xs : List Int} (h : Ints w (some ⟨g, 0, none⟩) n xs) {b : Nat} (i : Nat) (v : Value) (hne : b ≠ g) : Ints (w.setCell ⟨b, i, none⟩ v) (some ⟨g, 0, none⟩) n xs := by
  refine ⟨h.1, h.2.1, fun j hj => ?_, h.2.2.2⟩
  obtain ⟨b', off, he, hc⟩ := h.2.2.1 j hj
  simp only [Option.some.injEq, Addr.mk.injEq, and_true] at he
  obtain ⟨rfl, rfl⟩ := he
  exact ⟨g, 0, rfl, by rw [World.cell?_setCell_other _ _ _ _ (fun e => hne (by have := congrArg Addr.block e; exact this))]; exact hc⟩
theorem Ints.set0 {w : World} {g n : Nat} {xs : List Int} (h : Ints w (some ⟨g, 0, none⟩) n xs) (y : Int) (hy : IsI64 y) (hn : 0 < n) : Ints (w.setCell ⟨g, 0, none⟩ (.int .i64 y)) (some ⟨g, 0, none⟩) n (xs.set 0 y) := by
  refine ⟨by rw [List.length_set]; exact h.1, h.2.1, fun j hj => ⟨g, 0, rfl, ?_⟩, fun x hx => ?_⟩
  · obtain ⟨b', off, he, hc⟩ := h.2.2.1 j hj
    simp only [Option.some.injEq, Addr.mk.injEq, and_true] at he
    obtain ⟨rfl, rfl⟩ := he
    rw [Nat.zero_add] at hc ⊢
    by_cases h0 : j = 0
    · subst h0
      have := World.cell?_setCell_same w ⟨g, 0, none⟩ (.int .i64 y) hc
      rw [this, List.getD_eq_getElem?_getD, List.getElem?_set_self (by rw [h.1]; exact hn)]; rfl
    · rw [World.cell?_setCell_other _ _ _ _ (neQ_off (by omega)), hc, List.getD_eq_getElem?_getD, List.getD_eq_getElem?_getD, List.getElem?_set_ne (Ne.symm h0)]
  · rcases List.mem_or_eq_of_mem_set hx with hx | rfl
    · exact h.2.2.2 x hx
    · exact hy
theorem Ints.grownK {w w' : World} {b n g : Nat} {xs : List Int} (h : Ints w (some ⟨b, 0, none⟩) n xs) (hg : w.grownBy w' (some g)) (hne : b ≠ g) : Ints w' (some ⟨b, 0, none⟩) n xs := by
  refine ⟨h.1, h.2.1, fun j hj => ?_, h.2.2.2⟩
  obtain ⟨b', off, he, hc⟩ := h.2.2.1 j hj
  simp only [Option.some.injEq, Addr.mk.injEq, and_true] at he
  obtain ⟨rfl, rfl⟩ := he
  exact ⟨b, 0, rfl, cell_grown hc hg (fun e => hne (by simpa using e))⟩
theorem own_block {E : TypeId} {w : World} {base k m c : Nat} {xs : List Int} (h : OwnInts E w base (.slice (some ⟨k, 0, none⟩) m c) xs) : ∃ cur, w.heap[k]? = some (.cells cur E (0, 0)) := by
  rcases h.1.2 with ⟨hv, _⟩ | ⟨g, cap, cur, hv, _, hh, _⟩
  · simp at hv
  · simp only [Value.slice.injEq, Option.some.injEq, Addr.mk.injEq, and_true] at hv
    obtain ⟨rfl, _⟩ := hv
    exact ⟨cur, hh⟩
theorem frozen_of {E : TypeId} {w : World} {k i : Nat} {cur : Array Value} (h : w.heap[k]? = some (.cells cur E (0, 0))) : w.frozen? ⟨k, i, none⟩ = false := by simp [World.frozen?, h]
set_option maxRecDepth 100000 in
set_option maxHeartbeats 8000000 in
theorem s_DrawSameHouse (ao : Option Addr) (n c : Nat) (bs : List UInt8) (w : World) (hbW : U8s w ao n bs) : Calls Tryz.prog 20 #[.slice ao n c] w (RetPairH w) := by
  have HD := Lib.hid (fun w1 (h1 : SrcAt w1 (w.heap.size + 1 + 1) ao n c ⟨0, 0⟩) (e1 : Ext w w1) => s_l07DrawV hbW (show w.heap.size ≤ w.heap.size + 1 + 1 by omega) 0 (by omega) ⟨0, 0⟩ ⟨by decide, by decide⟩ w1 h1 e1)
  have HP := Lib.hid (fun (B : Nat) (hB : B ≤ 2900000000000000000) (st : Src) (ha : st.Ok B) (w1 : World) (h : SrcAt w1 (w.heap.size + 1 + 1) ao n c st) (e0 : Ext w w1) => s_pickQ 4 (by decide) (by decide) hbW (show w.heap.size ≤ w.heap.size + 1 + 1 by omega) B hB st ha w1 h e0)
  have hr0 := blk_old (o := .cells #[.slice none 0 0, .string ⟨#[]⟩] 26) (blk_at w (.cells #[.slice none 0 0, .string ⟨#[]⟩] 26) _ rfl)
  have hr1 := blk_at (w.alloc (.cells #[.slice none 0 0, .string ⟨#[]⟩] 26)) (.cells #[.slice none 0 0, .string ⟨#[]⟩] 26) (w.heap.size + 1) (by simp)
  have e0 : Ext w ((w.alloc (.cells #[.slice none 0 0, .string ⟨#[]⟩] 26)).alloc (.cells #[.slice none 0 0, .string ⟨#[]⟩] 26)) := ((Ext.refl w).alloc _).alloc _
  have hz0 : ((w.alloc (.cells #[.slice none 0 0, .string ⟨#[]⟩] 26)).alloc (.cells #[.slice none 0 0, .string ⟨#[]⟩] 26)).heap.size = w.heap.size + 1 + 1 := by simp
  have HR0 := Lib.hid hr0
  have HR1 := Lib.hid hr1
  have HE0 := Lib.hid e0
  have HZ0 := Lib.hid hz0
  clear hbW hr0 hr1 e0 hz0
  go_enter Tryz.func20, Tryz.ntmps20
  go_wp2_with fail
  refine (s_l00From ao n c _).mono ?_
  rw [HZ0.out]
  rintro e w1 ⟨rfl, s1, e1, z1⟩
  have HS1 := Lib.hid s1
  have HE1 := Lib.hid (HE0.out.trans e1)
  have HR01 := Lib.hid (e1.block HR0.out)
  have HR11 := Lib.hid (e1.block HR1.out)
  have HZ1 := Lib.hid z1
  clear s1 e1 z1 HR0 HR1 HE0
  go_wp2_with fail
  refine (HD.out _ HS1.out HE1.out).mono ?_
  rintro e w2 ⟨hb, cap, xs, t, st2, rfl, l1, l2, l0, t1, t2, o2, OK2, s2, g2, htx, hxv⟩
  obtain ⟨m, hm⟩ : ∃ m, xs.length = m := ⟨_, rfl⟩
  have HM := Lib.hid hm
  rw [hm] at l0 l1 l2 o2 htx
  rw [hm]
  have HI2 := Lib.hid (o2.ints.ext ((Ext.refl w2).alloc (.cells #[.slice (some ⟨hb, 0, none⟩) m cap, .string t] 26)))
  have HS2 : Hid (SrcAt (w2.alloc (.cells #[.slice (some ⟨hb, 0, none⟩) m cap, .string t] 26)) (w.heap.size + 1 + 1) ao n c st2) := Lib.hid (blk_old s2)
  have HE2 := Lib.hid ((extQ_of_src g2 HE1.out (by omega)).alloc (.cells #[.slice (some ⟨hb, 0, none⟩) m cap, .string t] 26))
  have HR02 : Hid ((w2.alloc (.cells #[.slice (some ⟨hb, 0, none⟩) m cap, .string t] 26)).heap[w.heap.size]? = _) := Lib.hid (blk_old (blkQ_grown HR01.out g2 (fun e => by simp at e; omega)))
  have HR12 : Hid ((w2.alloc (.cells #[.slice (some ⟨hb, 0, none⟩) m cap, .string t] 26)).heap[w.heap.size + 1]? = _) := Lib.hid (blk_old (blkQ_grown HR11.out g2 (fun e => by simp at e)))
  have HOK2 := Lib.hid OK2
  have A := Two.new w2 (.slice (some ⟨hb, 0, none⟩) m cap) (.string t) 26
  have HHB : Hid (w.heap.size + 1 + 1 < hb ∧ hb < w2.heap.size) := Lib.hid (by
    have h1 := o2.blk hb rfl
    have h2 := HZ1.out
    omega)
  have HXV := Lib.hid hxv
  have HXN : Hid (xs ≠ []) := Lib.hid (fun e => by have := HM.out; rw [e] at this; simp at this; omega)
  clear o2 OK2 s2 g2 hxv hm HR01 HR11
  go_upto_region 3 with fail
  go_region_held3 (fun W => Two W w2.heap.size (.slice (some ⟨hb, 0, none⟩) m cap) (.string t) ∧ Ext (w2.alloc (.cells #[.slice (some ⟨hb, 0, none⟩) m cap, .string t] 26)) W) (first | exact ⟨A.ext (Ext.refl _).drew, (Ext.refl _).drew⟩ | exact keepT1 (by assumption) (by assumption) | exact keepT1 (by assumption) ((Ext.refl _).alloc _) | (refine keepA A ?_; repeat' (first | exact HE3.out | refine Ext.alloc ?_ _ | refine Ext.setCell ?_ ?_ _ | exact Nat.le_refl _ | (simp; done)))) (first
    | (go_at_call 32; refine (s_l00Own ⟨hb, 0, none⟩ m cap xs _ ?_ ?_).mono ?_; exact HI2.out.ext (heldT1 (by assumption)); omega; rintro e w3 ⟨a3, c3, rfl, o3, e3⟩; rw [HM.out] at o3 ⊢; obtain ⟨k3, c3', he, hcap⟩ := own_shape o3 HXN.out m HM.out; simp only [Value.slice.injEq, true_and] at he; obtain ⟨rfl, rfl⟩ := he; clear hcap; have HO3 := Lib.hid o3; have HE3 := Lib.hid ((heldT1 (by assumption)).trans e3); have HZ3 := Lib.hid (heldT1 (by assumption)).size; (try (have HB5 : Hid (w3.heap[w2.heap.size + 1]? = some (.cells #[.slice none 0 0, .string ⟨#[]⟩] 26 (0, 0))) := Lib.hid (e3.block (blk_at ((w2.alloc (.cells #[.slice (some ⟨hb, 0, none⟩) m cap, .string t] 26)).drew) (.cells #[.slice none 0 0, .string ⟨#[]⟩] 26) (w2.heap.size + 1) (by simp))); obtain ⟨z0, z1, z2, z3, z4⟩ := two_cells HB5.out)); clear o3))
  · have eW := HE3.out.alloc (.cells #[.slice (some ⟨k3, 0, none⟩) m c3, .string t] 26)
    have HBW := Lib.hid (blk_at w3 (.cells #[.slice (some ⟨k3, 0, none⟩) m c3, .string t] 26) _ rfl)
    have HObW := Lib.hid (HO3.out.ext ((Ext.refl w3).alloc (.cells #[.slice (some ⟨k3, 0, none⟩) m c3, .string t] 26)))
    have HK3 : Hid (w2.heap.size < k3) := Lib.hid (by have := (HO3.out.blk k3 rfl).1; simp at this; omega)
    have HN3 : Hid (w3.heap.size ≠ k3 ∧ w2.heap.size < w3.heap.size) := Lib.hid (by have := (HO3.out.blk k3 rfl).2; have := HK3.out; omega)
    obtain ⟨pb, hpb⟩ : ∃ pb, w3.heap.size = pb := ⟨_, rfl⟩
    rw [hpb] at HBW HN3 ⊢
    obtain ⟨W, hW⟩ : ∃ W, w3.alloc (.cells #[.slice (some ⟨k3, 0, none⟩) m c3, .string t] 26) = W := ⟨_, rfl⟩
    rw [hW] at eW HBW HObW ⊢
    have HEW := Lib.hid (HE2.out.trans eW)
    have HSW : Hid (SrcAt W (w.heap.size + 1 + 1) ao n c st2) := Lib.hid (eW.block HS2.out)
    have HAW := Lib.hid (eW.block (blk_at w2 (.cells #[.slice (some ⟨hb, 0, none⟩) m cap, .string t] 26) _ rfl))
    have HR0W := Lib.hid (eW.block HR02.out)
    have HR1W := Lib.hid (eW.block HR12.out)
    have HIaW := Lib.hid (HI2.out.ext eW)
    have HIbW := Lib.hid HObW.out.ints
    clear hW hpb eW
    go_wp2_with fail
    refine (HP.out _ (by omega) st2 HOK2.out W HSW.out HEW.out).mono ?_
    rintro e w4 ⟨q, st4, rfl, q1, q2, _, s4, g4⟩
    have HH := HHB.out
    have HK := HK3.out
    have HNK := HN3.out
    have HE4 := Lib.hid (extQ_of_src g4 HEW.out (by omega))
    have HA4 := Lib.hid (blkQ_grown HAW.out g4 (fun e => by simp at e; omega))
    have HB4 := Lib.hid (blkQ_grown HBW.out g4 (fun e => by simp at e; omega))
    have HR04 := Lib.hid (blkQ_grown HR0W.out g4 (fun e => by simp at e; omega))
    have HR14 := Lib.hid (blkQ_grown HR1W.out g4 (fun e => by simp at e))
    have HIa4 := Lib.hid (HIaW.out.grownK g4 (by omega))
    have HIb4 := Lib.hid (HIbW.out.grownK g4 (by omega))
    obtain ⟨cur, hcur⟩ := own_block HObW.out
    have HC4 := Lib.hid (blkQ_grown hcur g4 (fun e => by simp at e; omega))
    clear s4 g4 HH HK hcur
    by_cases h0 : q = 0
    · subst h0
      obtain ⟨b', off', he, hc0⟩ := HIb4.out.2.2.1 0 (by omega)
      simp only [Option.some.injEq, Addr.mk.injEq, and_true] at he
      obtain ⟨rfl, rfl⟩ := he
      rw [Nat.zero_add] at hc0
      have hf0 := frozen_of (i := 0) HC4.out
      obtain ⟨x0, hx0⟩ : ∃ x, xs.getD 0 0 = x := ⟨_, rfl⟩
      have hxb : 0 ≤ x0 ∧ x0 ≤ 200 := by
        rw [← hx0, List.getD_eq_getElem?_getD, List.getElem?_eq_getElem (by rw [HM.out]; omega)]
        exact HXV.out _ (List.getElem_mem _)
      rw [hx0] at hc0
      obtain ⟨q0, q1', q2', q3, q4⟩ := two_cells HB4.out
      have hm0 : (0 : Int) < (m : Int) := by omega
      have hkl := lt_of_block HC4.out
      clear hx0 q1 q2
      go_upto_region 9 with fail
      have HIb5' := Lib.hid (HIb4.out.set0 (x0 + 1) (by unfold IsI64; omega) (by omega))
      have HIa5' := Lib.hid (HIa4.out.other (b := k3) 0 (.int .i64 (x0 + 1)) (by have := HHB.out; have := HK3.out; omega))
      have HA5' := Lib.hid (heapQ_setO k3 0 (.int .i64 (x0 + 1)) HA4.out (by have := HK3.out; omega))
      have HB5' := Lib.hid (heapQ_setO k3 0 (.int .i64 (x0 + 1)) HB4.out (by have := HN3.out; omega))
      have HR05' := Lib.hid (heapQ_setO k3 0 (.int .i64 (x0 + 1)) HR04.out (by have := HHB.out; have := HK3.out; omega))
      have HR15' := Lib.hid (heapQ_setO k3 0 (.int .i64 (x0 + 1)) HR14.out (by have := HHB.out; have := HK3.out; omega))
      have HE5' := Lib.hid (HE4.out.setCell (p := ⟨k3, 0, none⟩) (by have := HHB.out; have := HK3.out; dsimp only; omega) (.int .i64 (x0 + 1)))
      clear hc0 hf0 q0 q1' q2' q3 q4 hkl HC4
      obtain ⟨w5, hw5⟩ : ∃ W, w4.setCell ⟨k3, 0, none⟩ (.int .i64 (x0 + 1)) = W := ⟨_, rfl⟩
      rw [hw5] at HIb5' HIa5' HA5' HB5' HR05' HR15' HE5' ⊢
      clear hw5
      obtain ⟨ys, hys⟩ : ∃ ys, xs.set 0 (x0 + 1) = ys := ⟨_, rfl⟩
      rw [hys] at HIb5'
      clear hys
      have HIb5 := HIb5'
      have HIa5 := HIa5'
      have HA5 := HA5'
      have HB5 := HB5'
      have HR05 := HR05'
      have HR15 := HR15'
      have HE5 := HE5'
      clear HIb5' HIa5' HA5' HB5' HR05' HR15' HE5' HIa4 HIb4 HA4 HB4 HR04 HR14 HE4
      have HT5 : Hid (t.size ≤ 100) := Lib.hid (by omega)
      obtain ⟨p0, p1, p2, p3, p4⟩ := two_cells HA5.out
      obtain ⟨q0, q1, q2, q3, q4⟩ := two_cells HB5.out
      obtain ⟨r0, r1, r2, r3, r4⟩ := two_cells HR05.out
      obtain ⟨u0, u1, u2, u3, u4⟩ := two_cells HR15.out
      have g1 := HHB.out
      have g2 := HN3.out
      have n1 : ¬ (pb = w.heap.size) := by omega
      have n2 : ¬ (w.heap.size = pb) := by omega
      have n3 : ¬ (pb = w.heap.size + 1) := by omega
      have n4 : ¬ (w.heap.size + 1 = pb) := by omega
      have n5 : ¬ (w2.heap.size = w.heap.size) := by omega
      have n6 : ¬ (w.heap.size = w2.heap.size) := by omega
      have n7 : ¬ (w2.heap.size = w.heap.size + 1) := by omega
      have n8 : ¬ (w.heap.size + 1 = w2.heap.size) := by omega
      clear g1 g2
      go_region
      all_goals
        have HH := HHB.out
        have HK := HK3.out
        have HF : RetPairH w (.returned (.tuple #[.agg #[.slice (some ⟨hb, 0, none⟩) m cap, .string t], .agg #[.slice (some ⟨k3, 0, none⟩) m c3, .string t]])) ((((w5.setCell ⟨w.heap.size, 0, none⟩ (.slice (some ⟨hb, 0, none⟩) m cap)).setCell ⟨w.heap.size, 1, none⟩ (.string t)).setCell ⟨w.heap.size + 1, 0, none⟩ (.slice (some ⟨k3, 0, none⟩) m c3)).setCell ⟨w.heap.size + 1, 1, none⟩ (.string t)) := by
          refine ⟨hb, m, cap, t, k3, m, c3, t, xs, ys, rfl, ?_, ?_, by omega, HT5.out, ?_⟩
          · exact (((HIa5.out.other _ _ (by omega)).other _ _ (by omega)).other _ _ (by omega)).other _ _ (by omega)
          · exact (((HIb5.out.other _ _ (by omega)).other _ _ (by omega)).other _ _ (by omega)).other _ _ (by omega)
          · exact (((HE5.out.setCell (by dsimp only; omega) _).setCell (by dsimp only; omega) _).setCell (by dsimp only; omega) _).setCell (by dsimp only; omega) _
        have HQ := Lib.hid (res_four (.slice (some ⟨hb, 0, none⟩) m cap) (.string t) (.slice (some ⟨k3, 0, none⟩) m c3) (.string t) r0 r1 u0 u1)
        have HF2 := Lib.hid HF.drew
        clear HF r0 r1 r2 r3 r4 u0 u1 u2 u3 u4
        go_wp2
        obtain ⟨f0, f1, f2, f3⟩ := HQ.out
        refine bodyPost_ret (v := .tuple #[.agg #[.slice (some ⟨hb, 0, none⟩) m cap, .string t], .agg #[.slice (some ⟨k3, 0, none⟩) m c3, .string t]]) (by simp [results, Tryz.results20, go_sem, f0, f1, f2, f3]) rfl ?_
        exact HF2.out
    · by_cases h1 : q = 1
      · subst h1
        obtain ⟨q0, q1', q2', q3, q4⟩ := two_cells HB4.out
        have hcat : ¬ (9223372036854775807 < t.size + 1) := by omega
        have hne := HN3.out
        clear q1 q2
        go_upto_region 9 with fail
        have HBx := heap_setS w4 pb 1 (.string (t ++ ⟨#[76]⟩)) HB4.out
        have HB5' : Hid ((w4.setCell ⟨pb, 1, none⟩ (.string (t ++ ⟨#[76]⟩))).heap[pb]? = some (.cells #[.slice (some ⟨k3, 0, none⟩) m c3, .string (t ++ ⟨#[76]⟩)] 26 (0, 0))) := Lib.hid HBx
        have HIb5' := Lib.hid (HIb4.out.other (b := pb) 1 (.string (t ++ ⟨#[76]⟩)) (by omega))
        have HIa5' := Lib.hid (HIa4.out.other (b := pb) 1 (.string (t ++ ⟨#[76]⟩)) (by have := HHB.out; omega))
        have HA5' := Lib.hid (heapQ_setO pb 1 (.string (t ++ ⟨#[76]⟩)) HA4.out (by omega))
        have HR05' := Lib.hid (heapQ_setO pb 1 (.string (t ++ ⟨#[76]⟩)) HR04.out (by have := HHB.out; omega))
        have HR15' := Lib.hid (heapQ_setO pb 1 (.string (t ++ ⟨#[76]⟩)) HR14.out (by have := HHB.out; omega))
        have HE5' := Lib.hid (HE4.out.setCell (p := ⟨pb, 1, none⟩) (by have := HHB.out; dsimp only; omega) (.string (t ++ ⟨#[76]⟩)))
        clear q0 q1' q2' q3 q4 HC4 HBx
        obtain ⟨w5, hw5⟩ : ∃ W, w4.setCell ⟨pb, 1, none⟩ (.string (t ++ ⟨#[76]⟩)) = W := ⟨_, rfl⟩
        rw [hw5] at HIb5' HIa5' HA5' HB5' HR05' HR15' HE5' ⊢
        clear hw5
        have HT5' : (t ++ ⟨#[76]⟩ : ByteArray).size ≤ 100 := by have e1 : (⟨#[76]⟩ : ByteArray).size = 1 := rfl; rw [ByteArray.size_append, e1]; omega
        obtain ⟨t', ht'⟩ : ∃ t', t ++ ⟨#[76]⟩ = t' := ⟨_, rfl⟩
        rw [ht'] at HB5' HT5' ⊢
        clear ht'
        have HT5 := Lib.hid HT5'
        have HIb5 := HIb5'
        have HIa5 := HIa5'
        have HA5 := HA5'
        have HB5 := HB5'
        have HR05 := HR05'
        have HR15 := HR15'
        have HE5 := HE5'
        clear HIb5' HIa5' HA5' HB5' HR05' HR15' HE5' HT5' HIa4 HIb4 HA4 HB4 HR04 HR14 HE4
        obtain ⟨p0, p1, p2, p3, p4⟩ := two_cells HA5.out
        obtain ⟨q0, q1, q2, q3, q4⟩ := two_cells HB5.out
        obtain ⟨r0, r1, r2, r3, r4⟩ := two_cells HR05.out
        obtain ⟨u0, u1, u2, u3, u4⟩ := two_cells HR15.out
        have g1 := HHB.out
        have g2 := HN3.out
        have n1 : ¬ (pb = w.heap.size) := by omega
        have n2 : ¬ (w.heap.size = pb) := by omega
        have n3 : ¬ (pb = w.heap.size + 1) := by omega
        have n4 : ¬ (w.heap.size + 1 = pb) := by omega
        have n5 : ¬ (w2.heap.size = w.heap.size) := by omega
        have n6 : ¬ (w.heap.size = w2.heap.size) := by omega
        have n7 : ¬ (w2.heap.size = w.heap.size + 1) := by omega
        have n8 : ¬ (w.heap.size + 1 = w2.heap.size) := by omega
        clear g1 g2
        go_region
        all_goals
          have HH := HHB.out
          have HK := HK3.out
          have HF : RetPairH w (.returned (.tuple #[.agg #[.slice (some ⟨hb, 0, none⟩) m cap, .string t], .agg #[.slice (some ⟨k3, 0, none⟩) m c3, .string t']])) ((((w5.setCell ⟨w.heap.size, 0, none⟩ (.slice (some ⟨hb, 0, none⟩) m cap)).setCell ⟨w.heap.size, 1, none⟩ (.string t)).setCell ⟨w.heap.size + 1, 0, none⟩ (.slice (some ⟨k3, 0, none⟩) m c3)).setCell ⟨w.heap.size + 1, 1, none⟩ (.string t')) := by
            refine ⟨hb, m, cap, t, k3, m, c3, t', xs, xs, rfl, ?_, ?_, by omega, HT5.out, ?_⟩
            · exact (((HIa5.out.other _ _ (by omega)).other _ _ (by omega)).other _ _ (by omega)).other _ _ (by omega)
            · exact (((HIb5.out.other _ _ (by omega)).other _ _ (by omega)).other _ _ (by omega)).other _ _ (by omega)
            · exact (((HE5.out.setCell (by dsimp only; omega) _).setCell (by dsimp only; omega) _).setCell (by dsimp only; omega) _).setCell (by dsimp only; omega) _
          have HQ := Lib.hid (res_four (.slice (some ⟨hb, 0, none⟩) m cap) (.string t) (.slice (some ⟨k3, 0, none⟩) m c3) (.string t') r0 r1 u0 u1)
          have HF2 := Lib.hid HF.drew
          clear HF r0 r1 r2 r3 r4 u0 u1 u2 u3 u4
          go_wp2
          obtain ⟨f0, f1, f2, f3⟩ := HQ.out
          refine bodyPost_ret (v := .tuple #[.agg #[.slice (some ⟨hb, 0, none⟩) m cap, .string t], .agg #[.slice (some ⟨k3, 0, none⟩) m c3, .string t']]) (by simp [results, Tryz.results20, go_sem, f0, f1, f2, f3]) rfl ?_
          exact HF2.out
      · have HIb5 := HIb4
        have HIa5 := HIa4
        have HA5 := HA4
        have HB5 := HB4
        have HR05 := HR04
        have HR15 := HR14
        have HE5 := HE4
        obtain ⟨w5, hw5⟩ : ∃ W, w4 = W := ⟨_, rfl⟩
        subst hw5
        clear HC4
        go_upto_region 9 with fail
        have HT5 : Hid (t.size ≤ 100) := Lib.hid (by omega)
        obtain ⟨p0, p1, p2, p3, p4⟩ := two_cells HA5.out
        obtain ⟨q0, q1, q2, q3, q4⟩ := two_cells HB5.out
        obtain ⟨r0, r1, r2, r3, r4⟩ := two_cells HR05.out
        obtain ⟨u0, u1, u2, u3, u4⟩ := two_cells HR15.out
        have g1 := HHB.out
        have g2 := HN3.out
        have n1 : ¬ (pb = w.heap.size) := by omega
        have n2 : ¬ (w.heap.size = pb) := by omega
        have n3 : ¬ (pb = w.heap.size + 1) := by omega
        have n4 : ¬ (w.heap.size + 1 = pb) := by omega
        have n5 : ¬ (w2.heap.size = w.heap.size) := by omega
        have n6 : ¬ (w.heap.size = w2.heap.size) := by omega
        have n7 : ¬ (w2.heap.size = w.heap.size + 1) := by omega
        have n8 : ¬ (w.heap.size + 1 = w2.heap.size) := by omega
        clear g1 g2
        go_region
        all_goals
          have HH := HHB.out
          have HK := HK3.out
          have HF : RetPairH w (.returned (.tuple #[.agg #[.slice (some ⟨hb, 0, none⟩) m cap, .string t], .agg #[.slice (some ⟨k3, 0, none⟩) m c3, .string t]])) ((((w4.setCell ⟨w.heap.size, 0, none⟩ (.slice (some ⟨hb, 0, none⟩) m cap)).setCell ⟨w.heap.size, 1, none⟩ (.string t)).setCell ⟨w.heap.size + 1, 0, none⟩ (.slice (some ⟨k3, 0, none⟩) m c3)).setCell ⟨w.heap.size + 1, 1, none⟩ (.string t)) := by
            refine ⟨hb, m, cap, t, k3, m, c3, t, xs, xs, rfl, ?_, ?_, by omega, HT5.out, ?_⟩
            · exact (((HIa5.out.other _ _ (by omega)).other _ _ (by omega)).other _ _ (by omega)).other _ _ (by omega)
            · exact (((HIb5.out.other _ _ (by omega)).other _ _ (by omega)).other _ _ (by omega)).other _ _ (by omega)
            · exact (((HE5.out.setCell (by dsimp only; omega) _).setCell (by dsimp only; omega) _).setCell (by dsimp only; omega) _).setCell (by dsimp only; omega) _
          have HQ := Lib.hid (res_four (.slice (some ⟨hb, 0, none⟩) m cap) (.string t) (.slice (some ⟨k3, 0, none⟩) m c3) (.string t) r0 r1 u0 u1)
          have HF2 := Lib.hid HF.drew
          clear HF r0 r1 r2 r3 r4 u0 u1 u2 u3 u4
          go_wp2
          obtain ⟨f0, f1, f2, f3⟩ := HQ.out
          refine bodyPost_ret (v := .tuple #[.agg #[.slice (some ⟨hb, 0, none⟩) m cap, .string t], .agg #[.slice (some ⟨k3, 0, none⟩) m c3, .string t]]) (by simp [results, Tryz.results20, go_sem, f0, f1, f2, f3]) rfl ?_
          exact HF2.out
  · have eW := (HE3.out.setCell (p := ⟨w2.heap.size + 1, 0, none⟩) (by simp) (.slice (some ⟨k3, 0, none⟩) m c3)).setCell (p := ⟨w2.heap.size + 1, 1, none⟩) (by simp) (.string t)
    have HBW : Hid (((w3.setCell ⟨w2.heap.size + 1, 0, none⟩ (.slice (some ⟨k3, 0, none⟩) m c3)).setCell ⟨w2.heap.size + 1, 1, none⟩ (.string t)).heap[w2.heap.size + 1]? = some (.cells #[.slice (some ⟨k3, 0, none⟩) m c3, .string t] 26 (0, 0))) := Lib.hid (heap_setS _ _ 1 _ (heap_setS _ _ 0 _ HB5.out))
    have HObW := Lib.hid (HO3.out.setsH HB5.out (.slice (some ⟨k3, 0, none⟩) m c3) (.string t))
    have HK3 : Hid (w2.heap.size < k3) := Lib.hid (by have := (HO3.out.blk k3 rfl).1; simp at this; omega)
    have HN3 : Hid (w2.heap.size + 1 ≠ k3 ∧ w2.heap.size < w2.heap.size + 1) := Lib.hid (by have := (HO3.out.blk k3 rfl).1; simp at this; omega)
    clear z0 z1 z2 z3 z4
    obtain ⟨pb, hpb⟩ : ∃ pb, w2.heap.size + 1 = pb := ⟨_, rfl⟩
    obtain ⟨W, hW⟩ : ∃ W, (w3.setCell ⟨w2.heap.size + 1, 0, none⟩ (.slice (some ⟨k3, 0, none⟩) m c3)).setCell ⟨w2.heap.size + 1, 1, none⟩ (.string t) = W := ⟨_, rfl⟩
    rw [hW] at eW HBW HObW ⊢
    rw [hpb] at HBW HN3 ⊢
    have HEW := Lib.hid (HE2.out.trans eW)
    have HSW : Hid (SrcAt W (w.heap.size + 1 + 1) ao n c st2) := Lib.hid (eW.block HS2.out)
    have HAW := Lib.hid (eW.block (blk_at w2 (.cells #[.slice (some ⟨hb, 0, none⟩) m cap, .string t] 26) _ rfl))
    have HR0W := Lib.hid (eW.block HR02.out)
    have HR1W := Lib.hid (eW.block HR12.out)
    have HIaW := Lib.hid (HI2.out.ext eW)
    have HIbW := Lib.hid HObW.out.ints
    clear hW hpb eW
    go_wp2_with fail
    refine (HP.out _ (by omega) st2 HOK2.out W HSW.out HEW.out).mono ?_
    rintro e w4 ⟨q, st4, rfl, q1, q2, _, s4, g4⟩
    have HH := HHB.out
    have HK := HK3.out
    have HNK := HN3.out
    have HE4 := Lib.hid (extQ_of_src g4 HEW.out (by omega))
    have HA4 := Lib.hid (blkQ_grown HAW.out g4 (fun e => by simp at e; omega))
    have HB4 := Lib.hid (blkQ_grown HBW.out g4 (fun e => by simp at e; omega))
    have HR04 := Lib.hid (blkQ_grown HR0W.out g4 (fun e => by simp at e; omega))
    have HR14 := Lib.hid (blkQ_grown HR1W.out g4 (fun e => by simp at e))
    have HIa4 := Lib.hid (HIaW.out.grownK g4 (by omega))
    have HIb4 := Lib.hid (HIbW.out.grownK g4 (by omega))
    obtain ⟨cur, hcur⟩ := own_block HObW.out
    have HC4 := Lib.hid (blkQ_grown hcur g4 (fun e => by simp at e; omega))
    clear s4 g4 HH HK hcur
    by_cases h0 : q = 0
    · subst h0
      obtain ⟨b', off', he, hc0⟩ := HIb4.out.2.2.1 0 (by omega)
      simp only [Option.some.injEq, Addr.mk.injEq, and_true] at he
      obtain ⟨rfl, rfl⟩ := he
      rw [Nat.zero_add] at hc0
      have hf0 := frozen_of (i := 0) HC4.out
      obtain ⟨x0, hx0⟩ : ∃ x, xs.getD 0 0 = x := ⟨_, rfl⟩
      have hxb : 0 ≤ x0 ∧ x0 ≤ 200 := by
        rw [← hx0, List.getD_eq_getElem?_getD, List.getElem?_eq_getElem (by rw [HM.out]; omega)]
        exact HXV.out _ (List.getElem_mem _)
      rw [hx0] at hc0
      obtain ⟨q0, q1', q2', q3, q4⟩ := two_cells HB4.out
      have hm0 : (0 : Int) < (m : Int) := by omega
      have hkl := lt_of_block HC4.out
      clear hx0 q1 q2
      go_upto_region 9 with fail
      have HIb5' := Lib.hid (HIb4.out.set0 (x0 + 1) (by unfold IsI64; omega) (by omega))
      have HIa5' := Lib.hid (HIa4.out.other (b := k3) 0 (.int .i64 (x0 + 1)) (by have := HHB.out; have := HK3.out; omega))
      have HA5' := Lib.hid (heapQ_setO k3 0 (.int .i64 (x0 + 1)) HA4.out (by have := HK3.out; omega))
      have HB5' := Lib.hid (heapQ_setO k3 0 (.int .i64 (x0 + 1)) HB4.out (by have := HN3.out; omega))
      have HR05' := Lib.hid (heapQ_setO k3 0 (.int .i64 (x0 + 1)) HR04.out (by have := HHB.out; have := HK3.out; omega))
      have HR15' := Lib.hid (heapQ_setO k3 0 (.int .i64 (x0 + 1)) HR14.out (by have := HHB.out; have := HK3.out; omega))
      have HE5' := Lib.hid (HE4.out.setCell (p := ⟨k3, 0, none⟩) (by have := HHB.out; have := HK3.out; dsimp only; omega) (.int .i64 (x0 + 1)))
      clear hc0 hf0 q0 q1' q2' q3 q4 hkl HC4
      obtain ⟨w5, hw5⟩ : ∃ W, w4.setCell ⟨k3, 0, none⟩ (.int .i64 (x0 + 1)) = W := ⟨_, rfl⟩
      rw [hw5] at HIb5' HIa5' HA5' HB5' HR05' HR15' HE5' ⊢
      clear hw5
      obtain ⟨ys, hys⟩ : ∃ ys, xs.set 0 (x0 + 1) = ys := ⟨_, rfl⟩
      rw [hys] at HIb5'
      clear hys
      have HIb5 := HIb5'
      have HIa5 := HIa5'
      have HA5 := HA5'
      have HB5 := HB5'
      have HR05 := HR05'
      have HR15 := HR15'
      have HE5 := HE5'
      clear HIb5' HIa5' HA5' HB5' HR05' HR15' HE5' HIa4 HIb4 HA4 HB4 HR04 HR14 HE4
      have HT5 : Hid (t.size ≤ 100) := Lib.hid (by omega)
      obtain ⟨p0, p1, p2, p3, p4⟩ := two_cells HA5.out
      obtain ⟨q0, q1, q2, q3, q4⟩ := two_cells HB5.out
      obtain ⟨r0, r1, r2, r3, r4⟩ := two_cells HR05.out
      obtain ⟨u0, u1, u2, u3, u4⟩ := two_cells HR15.out
      have g1 := HHB.out
      have g2 := HN3.out
      have n1 : ¬ (pb = w.heap.size) := by omega
      have n2 : ¬ (w.heap.size = pb) := by omega
      have n3 : ¬ (pb = w.heap.size + 1) := by omega
      have n4 : ¬ (w.heap.size + 1 = pb) := by omega
      have n5 : ¬ (w2.heap.size = w.heap.size) := by omega
      have n6 : ¬ (w.heap.size = w2.heap.size) := by omega
      have n7 : ¬ (w2.heap.size = w.heap.size + 1) := by omega
      have n8 : ¬ (w.heap.size + 1 = w2.heap.size) := by omega
      clear g1 g2
      go_region
      all_goals
        have HH := HHB.out
        have HK := HK3.out
        have HF : RetPairH w (.returned (.tuple #[.agg #[.slice (some ⟨hb, 0, none⟩) m cap, .string t], .agg #[.slice (some ⟨k3, 0, none⟩) m c3, .string t]])) ((((w5.setCell ⟨w.heap.size, 0, none⟩ (.slice (some ⟨hb, 0, none⟩) m cap)).setCell ⟨w.heap.size, 1, none⟩ (.string t)).setCell ⟨w.heap.size + 1, 0, none⟩ (.slice (some ⟨k3, 0, none⟩) m c3)).setCell ⟨w.heap.size + 1, 1, none⟩ (.string t)) := by
          refine ⟨hb, m, cap, t, k3, m, c3, t, xs, ys, rfl, ?_, ?_, by omega, HT5.out, ?_⟩
          · exact (((HIa5.out.other _ _ (by omega)).other _ _ (by omega)).other _ _ (by omega)).other _ _ (by omega)
          · exact (((HIb5.out.other _ _ (by omega)).other _ _ (by omega)).other _ _ (by omega)).other _ _ (by omega)
          · exact (((HE5.out.setCell (by dsimp only; omega) _).setCell (by dsimp only; omega) _).setCell (by dsimp only; omega) _).setCell (by dsimp only; omega) _
        have HQ := Lib.hid (res_four (.slice (some ⟨hb, 0, none⟩) m cap) (.string t) (.slice (some ⟨k3, 0, none⟩) m c3) (.string t) r0 r1 u0 u1)
        have HF2 := Lib.hid HF.drew
        clear HF r0 r1 r2 r3 r4 u0 u1 u2 u3 u4
        go_wp2
        obtain ⟨f0, f1, f2, f3⟩ := HQ.out
        refine bodyPost_ret (v := .tuple #[.agg #[.slice (some ⟨hb, 0, none⟩) m cap, .string t], .agg #[.slice (some ⟨k3, 0, none⟩) m c3, .string t]]) (by simp [results, Tryz.results20, go_sem, f0, f1, f2, f3]) rfl ?_
        exact HF2.out
    · by_cases h1 : q = 1
      · subst h1
        obtain ⟨q0, q1', q2', q3, q4⟩ := two_cells HB4.out
        have hcat : ¬ (9223372036854775807 < t.size + 1) := by omega
        have hne := HN3.out
        clear q1 q2
        go_upto_region 9 with fail
        have HBx := heap_setS w4 pb 1 (.string (t ++ ⟨#[76]⟩)) HB4.out
        have HB5' : Hid ((w4.setCell ⟨pb, 1, none⟩ (.string (t ++ ⟨#[76]⟩))).heap[pb]? = some (.cells #[.slice (some ⟨k3, 0, none⟩) m c3, .string (t ++ ⟨#[76]⟩)] 26 (0, 0))) := Lib.hid HBx
        have HIb5' := Lib.hid (HIb4.out.other (b := pb) 1 (.string (t ++ ⟨#[76]⟩)) (by omega))
        have HIa5' := Lib.hid (HIa4.out.other (b := pb) 1 (.string (t ++ ⟨#[76]⟩)) (by have := HHB.out; omega))
        have HA5' := Lib.hid (heapQ_setO pb 1 (.string (t ++ ⟨#[76]⟩)) HA4.out (by omega))
        have HR05' := Lib.hid (heapQ_setO pb 1 (.string (t ++ ⟨#[76]⟩)) HR04.out (by have := HHB.out; omega))
        have HR15' := Lib.hid (heapQ_setO pb 1 (.string (t ++ ⟨#[76]⟩)) HR14.out (by have := HHB.out; omega))
        have HE5' := Lib.hid (HE4.out.setCell (p := ⟨pb, 1, none⟩) (by have := HHB.out; dsimp only; omega) (.string (t ++ ⟨#[76]⟩)))
        clear q0 q1' q2' q3 q4 HC4 HBx
        obtain ⟨w5, hw5⟩ : ∃ W, w4.setCell ⟨pb, 1, none⟩ (.string (t ++ ⟨#[76]⟩)) = W := ⟨_, rfl⟩
        rw [hw5] at HIb5' HIa5' HA5' HB5' HR05' HR15' HE5' ⊢
        clear hw5
        have HT5' : (t ++ ⟨#[76]⟩ : ByteArray).size ≤ 100 := by have e1 : (⟨#[76]⟩ : ByteArray).size = 1 := rfl; rw [ByteArray.size_append, e1]; omega
        obtain ⟨t', ht'⟩ : ∃ t', t ++ ⟨#[76]⟩ = t' := ⟨_, rfl⟩
        rw [ht'] at HB5' HT5' ⊢
        clear ht'
        have HT5 := Lib.hid HT5'
        have HIb5 := HIb5'
        have HIa5 := HIa5'
        have HA5 := HA5'
        have HB5 := HB5'
        have HR05 := HR05'
        have HR15 := HR15'
        have HE5 := HE5'
        clear HIb5' HIa5' HA5' HB5' HR05' HR15' HE5' HT5' HIa4 HIb4 HA4 HB4 HR04 HR14 HE4
        obtain ⟨p0, p1, p2, p3, p4⟩ := two_cells HA5.out
        obtain ⟨q0, q1, q2, q3, q4⟩ := two_cells HB5.out
        obtain ⟨r0, r1, r2, r3, r4⟩ := two_cells HR05.out
        obtain ⟨u0, u1, u2, u3, u4⟩ := two_cells HR15.out
        have g1 := HHB.out
        have g2 := HN3.out
        have n1 : ¬ (pb = w.heap.size) := by omega
        have n2 : ¬ (w.heap.size = pb) := by omega
        have n3 : ¬ (pb = w.heap.size + 1) := by omega
        have n4 : ¬ (w.heap.size + 1 = pb) := by omega
        have n5 : ¬ (w2.heap.size = w.heap.size) := by omega
        have n6 : ¬ (w.heap.size = w2.heap.size) := by omega
        have n7 : ¬ (w2.heap.size = w.heap.size + 1) := by omega
        have n8 : ¬ (w.heap.size + 1 = w2.heap.size) := by omega
        clear g1 g2
        go_region
        all_goals
          have HH := HHB.out
          have HK := HK3.out
          have HF : RetPairH w (.returned (.tuple #[.agg #[.slice (some ⟨hb, 0, none⟩) m cap, .string t], .agg #[.slice (some ⟨k3, 0, none⟩) m c3, .string t']])) ((((w5.setCell ⟨w.heap.size, 0, none⟩ (.slice (some ⟨hb, 0, none⟩) m cap)).setCell ⟨w.heap.size, 1, none⟩ (.string t)).setCell ⟨w.heap.size + 1, 0, none⟩ (.slice (some ⟨k3, 0, none⟩) m c3)).setCell ⟨w.heap.size + 1, 1, none⟩ (.string t')) := by
            refine ⟨hb, m, cap, t, k3, m, c3, t', xs, xs, rfl, ?_, ?_, by omega, HT5.out, ?_⟩
            · exact (((HIa5.out.other _ _ (by omega)).other _ _ (by omega)).other _ _ (by omega)).other _ _ (by omega)
            · exact (((HIb5.out.other _ _ (by omega)).other _ _ (by omega)).other _ _ (by omega)).other _ _ (by omega)
            · exact (((HE5.out.setCell (by dsimp only; omega) _).setCell (by dsimp only; omega) _).setCell (by dsimp only; omega) _).setCell (by dsimp only; omega) _
          have HQ := Lib.hid (res_four (.slice (some ⟨hb, 0, none⟩) m cap) (.string t) (.slice (some ⟨k3, 0, none⟩) m c3) (.string t') r0 r1 u0 u1)
          have HF2 := Lib.hid HF.drew
          clear HF r0 r1 r2 r3 r4 u0 u1 u2 u3 u4
          go_wp2
          obtain ⟨f0, f1, f2, f3⟩ := HQ.out
          refine bodyPost_ret (v := .tuple #[.agg #[.slice (some ⟨hb, 0, none⟩) m cap, .string t], .agg #[.slice (some ⟨k3, 0, none⟩) m c3, .string t']]) (by simp [results, Tryz.results20, go_sem, f0, f1, f2, f3]) rfl ?_
          exact HF2.out
      · have HIb5 := HIb4
        have HIa5 := HIa4
        have HA5 := HA4
        have HB5 := HB4
        have HR05 := HR04
        have HR15 := HR14
        have HE5 := HE4
        obtain ⟨w5, hw5⟩ : ∃ W, w4 = W := ⟨_, rfl⟩
        subst hw5
        clear HC4
        go_upto_region 9 with fail
        have HT5 : Hid (t.size ≤ 100) := Lib.hid (by omega)
        obtain ⟨p0, p1, p2, p3, p4⟩ := two_cells HA5.out
        obtain ⟨q0, q1, q2, q3, q4⟩ := two_cells HB5.out
        obtain ⟨r0, r1, r2, r3, r4⟩ := two_cells HR05.out
        obtain ⟨u0, u1, u2, u3, u4⟩ := two_cells HR15.out
        have g1 := HHB.out
        have g2 := HN3.out
        have n1 : ¬ (pb = w.heap.size) := by omega
        have n2 : ¬ (w.heap.size = pb) := by omega
        have n3 : ¬ (pb = w.heap.size + 1) := by omega
        have n4 : ¬ (w.heap.size + 1 = pb) := by omega
        have n5 : ¬ (w2.heap.size = w.heap.size) := by omega
        have n6 : ¬ (w.heap.size = w2.heap.size) := by omega
        have n7 : ¬ (w2.heap.size = w.heap.size + 1) := by omega
        have n8 : ¬ (w.heap.size + 1 = w2.heap.size) := by omega
        clear g1 g2
        go_region
        all_goals
          have HH := HHB.out
          have HK := HK3.out
          have HF : RetPairH w (.returned (.tuple #[.agg #[.slice (some ⟨hb, 0, none⟩) m cap, .string t], .agg #[.slice (some ⟨k3, 0, none⟩) m c3, .string t]])) ((((w4.setCell ⟨w.heap.size, 0, none⟩ (.slice (some ⟨hb, 0, none⟩) m cap)).setCell ⟨w.heap.size, 1, none⟩ (.string t)).setCell ⟨w.heap.size + 1, 0, none⟩ (.slice (some ⟨k3, 0, none⟩) m c3)).setCell ⟨w.heap.size + 1, 1, none⟩ (.string t)) := by
            refine ⟨hb, m, cap, t, k3, m, c3, t, xs, xs, rfl, ?_, ?_, by omega, HT5.out, ?_⟩
            · exact (((HIa5.out.other _ _ (by omega)).other _ _ (by omega)).other _ _ (by omega)).other _ _ (by omega)
            · exact (((HIb5.out.other _ _ (by omega)).other _ _ (by omega)).other _ _ (by omega)).other _ _ (by omega)
            · exact (((HE5.out.setCell (by dsimp only; omega) _).setCell (by dsimp only; omega) _).setCell (by dsimp only; omega) _).setCell (by dsimp only; omega) _
          have HQ := Lib.hid (res_four (.slice (some ⟨hb, 0, none⟩) m cap) (.string t) (.slice (some ⟨k3, 0, none⟩) m c3) (.string t) r0 r1 u0 u1)
          have HF2 := Lib.hid HF.drew
          clear HF r0 r1 r2 r3 r4 u0 u1 u2 u3 u4
          go_wp2
          obtain ⟨f0, f1, f2, f3⟩ := HQ.out
          refine bodyPost_ret (v := .tuple #[.agg #[.slice (some ⟨hb, 0, none⟩) m cap, .string t], .agg #[.slice (some ⟨k3, 0, none⟩) m c3, .string t]]) (by simp [results, Tryz.results20, go_sem, f0, f1, f2, f3]) rfl ?_
          exact HF2.out
end Go.Proofs.YtaokeaiehjgbnaaGreatDoor
