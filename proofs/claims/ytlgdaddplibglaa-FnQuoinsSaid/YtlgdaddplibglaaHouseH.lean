/- Contracts: what the law on quoins draws, and its small helpers. -/
import Derived.Test.YtlgdaddplibglaaHouseG
import Derived.Test.YtlgdaddplibglaaHouse12
namespace Go.Proofs.Ytlgdaddplibglaa
open Go.RowKit
set_option linter.unusedSimpArgs false
set_option linter.unusedVariables false
set_option linter.unnecessarySimpa false

theorem AskF.put {lo hx tu : Nat} {w w1 : World} {o : Obj} {v : Value} {t : ByteArray} {xs : List Int} (h : AskF lo hx tu (w.alloc o) v t xs w1) (u u' : Value) : AskF lo hx tu w v t xs ((w1.setCell ⟨w.heap.size, 0, none⟩ u).setCell ⟨w.heap.size, 1, none⟩ u') := by
  obtain ⟨hb, cap, rfl, h2, h3, h4, h5, h6, h7, h8⟩ := h
  have hz : (w.alloc o).heap.size = w.heap.size + 1 := by simp
  rw [hz] at h7
  have o2 : OwnInts 2 ((w1.setCell ⟨w.heap.size, 0, none⟩ u).setCell ⟨w.heap.size, 1, none⟩ u') (w.heap.size + 1) (.slice (some ⟨hb, 0, none⟩) xs.length cap) xs := (h7.setBelow (by dsimp only; omega) _).setBelow (by dsimp only; omega) _
  exact ⟨hb, cap, rfl, h2, h3, h4, h5, o2.ints, o2.mono (by omega), ((((Ext.refl w).alloc o).trans h8).setCell (Nat.le_refl _) _).setCell (Nat.le_refl _) _⟩
def RetD2 (w : World) (e : Ending) (w' : World) : Prop := ∃ v t xs r, e = .returned (.tuple #[.agg #[v, .string t], .int .i64 r]) ∧ IsI64 r ∧ AskF 4 14 20 w v t xs w'
def RetD3 (w : World) (e : Ending) (w' : World) : Prop := ∃ v t xs k r, e = .returned (.tuple #[.agg #[v, .string t], .int .i64 k, .int .i64 r]) ∧ IsI64 k ∧ IsI64 r ∧ AskF 4 14 20 w v t xs w'
def RetD3b (w : World) (e : Ending) (w' : World) : Prop := ∃ v t xs k b, e = .returned (.tuple #[.agg #[v, .string t], .int .i64 k, .bool b]) ∧ IsI64 k ∧ AskF 4 14 20 w v t xs w'
set_option maxHeartbeats 1000000 in
theorem s_DrawCourseAround (ao : Option Addr) (n c : Nat) (bs : List UInt8) (w : World) (hbW : U8s w ao n bs) : Calls Try.prog 13 #[.slice ao n c] w (RetD2 w) := by
  have HA := Lib.hid (fun w1 (e : Ext w w1) => s_l07Ask ao n c bs w1 (hbW.ext e))
  have HR0 := Lib.hid (blk_at w (.cells #[.slice none 0 0, .string ⟨#[]⟩] 26) _ rfl)
  clear hbW
  go_enter Try.func13, Try.ntmps13
  go_wp2_with fail
  refine (HA.out _ ((Ext.refl w).alloc _)).mono ?_
  rintro e w1 ⟨v, t, xs, k, r, rfl, hk, hr, hF⟩
  have HF := Lib.hid hF
  have HR := Lib.hid hr
  have e1 : Ext (w.alloc (.cells #[.slice none 0 0, .string ⟨#[]⟩] 26)) w1 := let ⟨_, _, _, _, _, _, _, _, _, h⟩ := hF; h
  obtain ⟨r0, r1, r2, r3, r4⟩ := two_cells (e1.block HR0.out)
  obtain ⟨hb, cap, rfl, _⟩ := hF
  clear e1 hk hr
  have HQ := Lib.hid (fun u v o => resQ_alloc (o := o) r0 r1 u v)
  go_wp2
  have hq := HQ.out
  refine bodyPost_ret (v := .tuple #[.agg #[.slice (some ⟨hb, 0, none⟩) xs.length cap, .string t], .int .i64 r]) (by simp [results, Try.results13, go_sem, hq]) rfl ?_
  exact ⟨_, t, xs, r, rfl, HR.out, (HF.out.put _ _).ext ((Ext.refl _).alloc _)⟩
set_option maxHeartbeats 1000000 in
theorem s_DrawSideInCourse (ao : Option Addr) (n c : Nat) (bs : List UInt8) (w : World) (hbW : U8s w ao n bs) : Calls Try.prog 16 #[.slice ao n c] w (RetD3 w) := by
  have HA := Lib.hid (fun w1 (e : Ext w w1) => s_l07Ask ao n c bs w1 (hbW.ext e))
  have HR0 := Lib.hid (blk_at w (.cells #[.slice none 0 0, .string ⟨#[]⟩] 26) _ rfl)
  clear hbW
  go_enter Try.func16, Try.ntmps16
  go_wp2_with fail
  refine (HA.out _ ((Ext.refl w).alloc _)).mono ?_
  rintro e w1 ⟨v, t, xs, k, r, rfl, hk, hr, hF⟩
  have HF := Lib.hid hF
  have HR := Lib.hid hr
  have HK := Lib.hid hk
  have e1 : Ext (w.alloc (.cells #[.slice none 0 0, .string ⟨#[]⟩] 26)) w1 := let ⟨_, _, _, _, _, _, _, _, _, h⟩ := hF; h
  obtain ⟨r0, r1, r2, r3, r4⟩ := two_cells (e1.block HR0.out)
  obtain ⟨hb, cap, rfl, _⟩ := hF
  clear e1 hk hr
  have HQ := Lib.hid (fun u v => resQ_two u v r0 r1)
  go_wp2
  have hq := HQ.out
  refine bodyPost_ret (v := .tuple #[.agg #[.slice (some ⟨hb, 0, none⟩) xs.length cap, .string t], .int .i64 k, .int .i64 r]) (by simp [results, Try.results16, go_sem, hq]) rfl ?_
  exact ⟨_, t, xs, k, r, rfl, HK.out, HR.out, HF.out.put _ _⟩
set_option maxHeartbeats 1000000 in
theorem s_DrawQuoinLap (ao : Option Addr) (n c : Nat) (bs : List UInt8) (w : World) (hbW : U8s w ao n bs) : Calls Try.prog 21 #[.slice ao n c] w (RetD3b w) := by
  have HA := Lib.hid (fun w1 (e : Ext w w1) => s_l07Ask ao n c bs w1 (hbW.ext e))
  have HR0 := Lib.hid (blk_at w (.cells #[.slice none 0 0, .string ⟨#[]⟩] 26) _ rfl)
  clear hbW
  go_enter Try.func21, Try.ntmps21
  go_wp2_with fail
  refine (HA.out _ ((Ext.refl w).alloc _)).mono ?_
  rintro e w1 ⟨v, t, xs, k, r, rfl, hk, hr, hF⟩
  have HF := Lib.hid hF
  have HK := Lib.hid hk
  have e1 : Ext (w.alloc (.cells #[.slice none 0 0, .string ⟨#[]⟩] 26)) w1 := let ⟨_, _, _, _, _, _, _, _, _, h⟩ := hF; h
  obtain ⟨r0, r1, r2, r3, r4⟩ := two_cells (e1.block HR0.out)
  obtain ⟨hb, cap, rfl, _⟩ := hF
  unfold IsI64 at hr
  obtain ⟨hr1, hr2⟩ := hr
  clear e1 hk
  have HQ := Lib.hid (fun u v o => resQ_alloc (o := o) r0 r1 u v)
  go_wp2
  have hq := HQ.out
  refine bodyPost_ret (v := .tuple #[.agg #[.slice (some ⟨hb, 0, none⟩) xs.length cap, .string t], .int .i64 k, .bool _]) (by simp [results, Try.results21, go_sem, hq]; rfl) rfl ?_
  exact ⟨_, t, xs, k, _, rfl, HK.out, (HF.out.put _ _).ext ((Ext.refl _).alloc _)⟩
def bigC (n : Nat) : Bool := decide (4096 < n)
theorem l_f6big (ao : Option Addr) (n c : Nat) (w : World) (hn : n ≤ 9223372036854775807) : Calls Try.prog 12 #[.slice ao n c] w (RetV (.bool (bigC n)) w) := by
  by_cases h1 : 4096 < n
  · have h1' : (4096 : Int) < (n : Int) := by omega
    have HV : Hid (bigC n = true) := Lib.hid (by simp [bigC, h1])
    go_enter Try.func12, Try.ntmps12
    go_wp2
    go_ret
    exact RetV.mk (bool_eq HV.out.symm)
  · have h1' : ¬ (4096 : Int) < (n : Int) := by omega
    have HV : Hid (bigC n = false) := Lib.hid (by simp [bigC, h1])
    go_enter Try.func12, Try.ntmps12
    go_wp2
    go_ret
    exact RetV.mk (bool_eq HV.out.symm)
set_option maxHeartbeats 400000 in
theorem l_f6ints (ao bo : Option Addr) (n m c d : Nat) (xs ys : List Int) (w : World) (hx : Ints w ao n xs) (hy : Ints w bo m ys) :
    Calls Try.prog 24 #[.slice ao n c, .slice bo m d] w (RetE (.bool (xs == ys)) w) := by
  obtain ⟨hxl, hxm, hxc, hxi⟩ := hx
  obtain ⟨hyl, hym, hyc, hyi⟩ := hy
  by_cases hnm : (n : Int) = m
  · have hnm2 : n = m := by omega
    go_enter Try.func24, Try.ntmps24
    go_wp2
    go_loopw [5] (fun i wr => ∃ k : Nat, k ≤ n ∧ i = .int .i64 k ∧ xs.take k = ys.take k ∧ Ext w wr) (fun i _ => n - (intOf i).toNat)
    case atStart => exact ⟨0, Nat.zero_le _, rfl, by simp, Ext.refl _⟩
    case round =>
      obtain ⟨k, hk, rfl, htk, er⟩ := hrel
      have HT := Lib.hid htk; clear htk
      by_cases hlt : k < n
      · obtain ⟨b, off, rfl, hc⟩ := hxc k hlt
        obtain ⟨b', off', rfl, hc'⟩ := hyc k (by omega)
        obtain ⟨x, hxk⟩ : ∃ x, xs.getD k 0 = x := ⟨_, rfl⟩
        obtain ⟨y, hyk⟩ : ∃ y, ys.getD k 0 = y := ⟨_, rfl⟩
        have g1 := er.cell hc
        have g2 := er.cell hc'
        rw [hxk] at g1
        rw [hyk] at g2
        have hltm : (k : Int) < m := by omega
        have hkx : k < xs.length := by omega
        have hky : k < ys.length := by omega
        rw [List.getD_eq_getElem?_getD, List.getElem?_eq_getElem hkx, Option.getD_some] at hxk
        rw [List.getD_eq_getElem?_getD, List.getElem?_eq_getElem hky, Option.getD_some] at hyk
        have HX := Lib.hid hxk
        have HY := Lib.hid hyk
        clear hc hc' hxc hyc hxk hyk
        by_cases he : x = y
        · subst he
          go_wp2
          go_quiet (fail)
          go_wp2
          go_roundw
          case rel =>
            refine ⟨k + 1, by omega, by go_num, ?_, er.drewN _⟩
            rw [List.take_succ_eq_append_getElem hkx, List.take_succ_eq_append_getElem hky, HT.out, HX.out, HY.out]
          case measure => simp [intOf]; omega
        · have t2 : ((x : Int) != y) = true := by simp [he]
          have hne : (xs == ys) = false := by
            rw [beq_eq_false_iff_ne]; intro h; subst h; exact he (HX.out.symm.trans HY.out)
          have HN := Lib.hid hne
          clear hne
          go_wp2
          go_quiet (fail)
          go_wp2
          go_ret
          exact RetE.mk (bool_eq HN.out.symm) (er.drewN _)
      · go_wp2
        go_ret
        have h := HT.out
        rw [List.take_of_length_le (by omega), List.take_of_length_le (by omega)] at h
        exact RetE.mk (bool_eq (by rw [h]; simp)) er
  · have hne : (xs == ys) = false := by
      rw [beq_eq_false_iff_ne]; intro h; subst h; omega
    have HN := Lib.hid hne
    clear hne
    go_enter Try.func24, Try.ntmps24
    go_wp2
    go_ret
    exact RetE.mk (bool_eq HN.out.symm) (Ext.refl _)
theorem sum_bdQ {b : Int} : ∀ (l : List Int), (∀ x ∈ l, 0 ≤ x ∧ x ≤ b) → 0 ≤ l.sum ∧ l.sum ≤ b * l.length
  | [], _ => by simp
  | x :: l, h => by
    have h1 := h x (by simp)
    have ih := sum_bdQ l (fun y hy => h y (List.mem_cons_of_mem _ hy))
    rw [List.sum_cons, List.length_cons, Int.natCast_succ, Int.mul_add, Int.mul_one]
    omega
set_option maxHeartbeats 800000 in
theorem l_f6sum (ao : Option Addr) (n c : Nat) (xs : List Int) (w : World) (hx : Ints w ao n xs) (hb : ∀ x ∈ xs, 0 ≤ x ∧ x ≤ 1000000) (hn : n ≤ 1000) :
    Calls Try.prog 26 #[.slice ao n c] w (RetV (.int .i64 xs.sum) w) := by
  obtain ⟨hxl, hxm, hxc, hxi⟩ := hx
  go_enter Try.func26, Try.ntmps26
  go_wp2
  go_loop [3, 4] (fun q i => ∃ k : Nat, k ≤ n ∧ i = .int .i64 k ∧ q = .int .i64 (xs.take k).sum) (fun _ i => n - (intOf i).toNat)
  case atStart => exact ⟨0, Nat.zero_le _, rfl, by simp⟩
  case round =>
    obtain ⟨k, hk, rfl, rfl⟩ := hrel
    have hsb := sum_bdQ (xs.take k) (fun x hx => hb x (List.mem_of_mem_take hx))
    have hlt' : ((xs.take k).length : Int) ≤ k := by have := List.length_take_le k xs; omega
    have hs2 : (xs.take k).sum ≤ 1000000 * 1000 := by omega
    by_cases hlt : k < n
    · obtain ⟨b, off, rfl, hc⟩ := hxc k hlt
      have hkx : k < xs.length := by omega
      obtain ⟨x, hxk⟩ : ∃ x, xs.getD k 0 = x := ⟨_, rfl⟩
      rw [hxk] at hc
      rw [List.getD_eq_getElem?_getD, List.getElem?_eq_getElem hkx, Option.getD_some] at hxk
      have hxb := hb x (by rw [← hxk]; exact List.getElem_mem _)
      have HSS : Hid ((xs.take (k + 1)).sum = (xs.take k).sum + x) := Lib.hid (by rw [List.take_succ_eq_append_getElem hkx, List.sum_append, hxk]; simp)
      obtain ⟨s, hs⟩ : ∃ s, (xs.take k).sum = s := ⟨_, rfl⟩
      rw [hs] at hsb hs2 HSS ⊢
      obtain ⟨s1, s2⟩ := hsb
      clear hxc hb hxk hs s2 hlt'
      go_wp2
      go_round
      case rel => exact ⟨k + 1, by omega, by go_num, by rw [HSS.out]⟩
      case measure => simp [intOf]; omega
    · have HT : Hid (xs.take k = xs) := Lib.hid (List.take_of_length_le (by omega))
      go_wp2
      go_ret
      exact RetV.mk (int_eq (by rw [HT.out]))
/-! ### the lengths of a course do not change with the courses together -/
def aQ (k r : Int) : Int := if (k + r) % 2 = 0 then 0 else 2
def cQ (k r : Int) : Int := if (k + r) % 2 = 0 then 2 else 0
theorem aQ_cQ (k r : Int) : aQ k r + cQ k r = 2 := by unfold aQ cQ; split <;> rfl
theorem sideI_pred (xs : List Int) (n k : Nat) (r : Int) (hn : xs.length = n) (hk : k < n) : sideI xs k r = xs.getD k 0 - aQ k r - (if k = 0 then cQ ((n : Int) - 1) r else cQ ((k : Int) - 1) r) := by
  unfold sideI aQ cQ
  rw [hn, Int.toNat_natCast]
  by_cases h0 : k = 0
  · subst h0
    rw [if_pos rfl, show (((0 : Nat) : Int) + (n : Int) - 1) % (n : Int) = (n : Int) - 1 by rw [show ((0 : Nat) : Int) + (n : Int) - 1 = (n : Int) - 1 by omega]; exact Int.emod_eq_of_lt (by omega) (by omega)]
  · rw [if_neg h0, show ((k : Int) + (n : Int) - 1) % (n : Int) = (k : Int) - 1 by rw [show (k : Int) + (n : Int) - 1 = ((k : Int) - 1) + (n : Int) by omega, Int.add_emod_right]; exact Int.emod_eq_of_lt (by omega) (by omega)]
theorem sideI_sums (xs : List Int) (n : Nat) (r : Int) (hn : xs.length = n) : ∀ m : Nat, m + 1 ≤ n → ((List.range (m + 1)).map (fun (k : Nat) => sideI xs k r)).sum = sumN xs (m + 1) - 2 * m - aQ m r - cQ ((n : Int) - 1) r
  | 0, h => by
    rw [arH_snoc, List.sum_append]
    have := sideI_pred xs n 0 r hn h
    simp only [List.range_zero, List.map_nil, List.sum_nil, List.sum_cons]
    rw [this, if_pos rfl]
    simp [sumN]
  | m + 1, h => by
    rw [arH_snoc, List.sum_append, sideI_sums xs n r hn m (by omega)]
    have h1 := sideI_pred xs n (m + 1) r hn h
    rw [if_neg (by omega), show ((m + 1 : Nat) : Int) - 1 = m by omega] at h1
    have h2 := aQ_cQ m r
    simp only [List.sum_cons, List.sum_nil]
    rw [h1]
    show _ = sumN xs (m + 1) + xs.getD (m + 1) 0 - 2 * ((m + 1 : Nat) : Int) - aQ ((m + 1 : Nat) : Int) r - _
    omega
theorem arH_sum {xs : List Int} {t : List UInt8} {r : Int} (h : codeH xs t 0 r = 0) : (arH xs t r).sum = sumN xs xs.length - 2 * (arH xs t r).length ∧ (∀ x ∈ arH xs t r, 0 ≤ x ∧ x ≤ 1000000) := by
  have hv := validH_bd (code_0 h).1
  have e : arH xs t r = (List.range xs.length).map (fun (k : Nat) => sideI xs k r) := by unfold arH; rw [if_pos h]
  obtain ⟨m, hm⟩ : ∃ m, xs.length = m + 1 := ⟨xs.length - 1, by omega⟩
  constructor
  · have h1 := sideI_sums xs xs.length r rfl m (by omega)
    have h2 := aQ_cQ m r
    rw [e, List.length_map, List.length_range]
    rw [← hm] at h1
    rw [h1, show ((xs.length : Int) - 1) = m by omega]
    omega
  · intro x hx
    rw [e] at hx
    obtain ⟨k, hk, rfl⟩ := List.mem_map.1 hx
    have := sideI_i64 (r := r) rfl hv.2.2.1 (List.mem_range.1 hk)
    omega
theorem code_next {xs : List Int} {t : List UInt8} {k r : Int} (h : codeH xs t k r = 0) (hr : r < 1000) : codeH xs t k (r + 1) = 0 := by
  obtain ⟨h1, h2, h3, h4, h5⟩ := code_0 h
  unfold codeH inRange
  rw [h1, show inB k 0 ((xs.length : Int) - 1) = true by rw [inB_iff]; omega, show inB (r + 1) 0 1000 = true by rw [inB_iff]; omega]
  rfl
theorem runs_next {xs : List Int} {t : List UInt8} {k r : Int} (h : codeH xs t k r = 0) (hr : r < 1000) : runsH xs t k (r + 1) = !runsH xs t k r := by
  have h2 := code_next h hr
  unfold runsH thruI
  rw [h, h2]
  simp only [decide_true, Bool.true_and]
  by_cases h3 : (k + r) % 2 = 0
  · rw [show decide ((k + r) % 2 = 0) = true by simp [h3], show decide ((k + (r + 1)) % 2 = 0) = false by simp; omega]; rfl
  · rw [show decide ((k + r) % 2 = 0) = false by simp [h3], show decide ((k + (r + 1)) % 2 = 0) = true by simp; omega]; rfl
theorem lap_in {xs : List Int} {t : List UInt8} {k : Int} {b : Bool} (h : codeH xs t k 0 = 0) : 1 ≤ lapH xs t k b ∧ lapH xs t k b ≤ 2 := by
  unfold lapH sel
  rw [if_pos h]
  split <;> omega
end Go.Proofs.Ytlgdaddplibglaa
