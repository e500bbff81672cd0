/- Contracts: the perpends of a course of a bond (the reference's), a bond drawn off some bytes; two rows of numbers are alike. -/
import Derived.Test.YtehcmocknmfhcaaDrawC
import Derived.Test.YtehcmocknmfhcaaA2
namespace Go.Proofs.Ytehcmocknmfhcaa
open Go.RowKit
set_option linter.unusedSimpArgs false
set_option linter.unusedVariables false
set_option linter.unnecessarySimpa false

set_option maxHeartbeats 800000 in
theorem l_a2Same (ao bo : Option Addr) (n m c d : Nat) (xs ys : List Int) (w : World) (hx : Ints w ao n xs) (hy : Ints w bo m ys) :
    Calls Try.prog 27 #[.slice ao n c, .slice bo m d] w (RetE (.bool (xs == ys)) w) := by
  obtain ⟨hxl, hxm, hxc, hxi⟩ := hx
  obtain ⟨hyl, hym, hyc, hyi⟩ := hy
  by_cases hnm : (n : Int) = m
  · have hnm2 : n = m := by omega
    go_enter Try.func27, Try.ntmps27
    go_wp2
    go_loopw [5] (fun i wr => ∃ k : Nat, k ≤ n ∧ i = .int .i64 k ∧ xs.take k = ys.take k ∧ Ext w wr) (fun i _ => n - (intOf i).toNat)
    case atStart => exact ⟨0, Nat.zero_le _, rfl, by simp, Ext.refl _⟩
    case round =>
      obtain ⟨k, hk, rfl, htk, er⟩ := hrel
      have HT := Lib.hid htk; clear htk
      by_cases hlt : k < n
      · obtain ⟨b, off, rfl, hc⟩ := hxc k hlt
        obtain ⟨b', off', rfl, hc'⟩ := hyc k (by omega)
        obtain ⟨x, hxk⟩ : ∃ x, xs.getD k 0 = x := ⟨_, rfl⟩
        obtain ⟨y, hyk⟩ : ∃ y, ys.getD k 0 = y := ⟨_, rfl⟩
        have g1 := er.cell hc
        have g2 := er.cell hc'
        rw [hxk] at g1
        rw [hyk] at g2
        have hltm : (k : Int) < m := by omega
        have hkx : k < xs.length := by omega
        have hky : k < ys.length := by omega
        rw [List.getD_eq_getElem?_getD, List.getElem?_eq_getElem hkx, Option.getD_some] at hxk
        rw [List.getD_eq_getElem?_getD, List.getElem?_eq_getElem hky, Option.getD_some] at hyk
        have HX := Lib.hid hxk
        have HY := Lib.hid hyk
        clear hc hc' hxc hyc hxk hyk
        by_cases he : x = y
        · subst he
          go_wp2
          go_quiet (fail)
          go_wp2
          go_roundw
          case rel =>
            refine ⟨k + 1, by omega, by go_num, ?_, er.drewN _⟩
            rw [List.take_succ_eq_append_getElem hkx, List.take_succ_eq_append_getElem hky, HT.out, HX.out, HY.out]
          case measure => simp [intOf]; omega
        · have t2 : ((x : Int) != y) = true := by simp [he]
          have hne : (xs == ys) = false := by
            rw [beq_eq_false_iff_ne]; intro h; subst h; exact he (HX.out.symm.trans HY.out)
          have HN := Lib.hid hne
          clear hne
          go_wp2
          go_quiet (fail)
          go_wp2
          go_ret
          exact RetE.mk (bool_eq HN.out.symm) (er.drewN _)
      · go_wp2
        go_ret
        have h := HT.out
        rw [List.take_of_length_le (by omega), List.take_of_length_le (by omega)] at h
        exact RetE.mk (bool_eq (by rw [h]; simp)) er
  · have hne : (xs == ys) = false := by
      rw [beq_eq_false_iff_ne]; intro h; subst h; omega
    have HN := Lib.hid hne
    clear hne
    go_enter Try.func27, Try.ntmps27
    go_wp2
    go_ret
    exact RetE.mk (bool_eq HN.out.symm) (Ext.refl _)
/-- the perpends behind the first i letters but the last of these -/
def pfL (f : Nat → UInt8) (i : Nat) : List Int := (List.range (i - 1)).map fun j => preQ f (j + 1)
theorem pfL_len (f : Nat → UInt8) (i : Nat) : (pfL f i).length = i - 1 := by simp [pfL]
theorem pfL_succ (f : Nat → UInt8) (i : Nat) (h : 1 ≤ i) : pfL f (i + 1) = pfL f i ++ [preQ f i] := by
  unfold pfL
  rw [show i + 1 - 1 = (i - 1) + 1 by omega, List.range_succ, List.map_append, List.map_singleton, show i - 1 + 1 = i by omega]
theorem perpTo_eq (l : List UInt8) (f : Nat → UInt8) (i : Nat) (h : ∀ j, j ≤ i → qSum (l.take j) = preQ f j) : perpTo l i = (List.range i).map fun j => preQ f (j + 1) := by
  induction i with
  | zero => rfl
  | succ i ih =>
    rw [perpTo, ih (fun j hj => h j (by omega)), List.range_succ, List.map_append, List.map_singleton, h (i + 1) (Nat.le_refl _)]
theorem layT_take (f : Nat → UInt8) (n : Int) (j : Nat) (h : j ≤ layK f n) : qSum ((layT f n).take j) = preQ f j := by
  unfold layT
  rw [List.take_append_of_le_length (by simp; exact h), ← List.map_take, List.take_range, Nat.min_eq_left h, qSum_range]
theorem pfL_end {f : Nat → UInt8} {n : Int} {i : Nat} (hq : ∀ i, 1 ≤ qB (f i)) (hi : 1 ≤ i) (h1 : preQ f (i - 1) < n) (h2 : n ≤ preQ f i) : pfL f i = perps (layT f n) := by
  have hl : (layT f n).length = i := by
    by_cases he : n = preQ f i
    · have hk : layK f n = i := layK_eq hq (by omega) (by have := hq i; show n < preQ f i + qB (f i); omega)
      unfold layT
      rw [hk, he, Int.sub_self, List.length_append, List.length_map, List.length_range]
      rfl
    · have hk : layK f n = i - 1 := layK_eq hq (by omega) (by rw [show i - 1 + 1 = i by omega]; omega)
      have h3 : preQ f i = preQ f (i - 1) + qB (f (i - 1)) := by conv => lhs; rw [show i = i - 1 + 1 by omega]; unfold preQ
      have h4 := qB_bd (f (i - 1))
      unfold layT
      rw [hk, List.length_append, List.length_map, List.length_range]
      have : n - preQ f (i - 1) = 1 ∨ n - preQ f (i - 1) = 2 ∨ n - preQ f (i - 1) = 3 := by omega
      rcases this with h | h | h <;> rw [h] <;> simp [tailB] <;> omega
  have hk : i - 1 ≤ layK f n := by
    have := tailB_len (n - preQ f (layK f n))
    have h3 : (layT f n).length = layK f n + (tailB (n - preQ f (layK f n))).length := by unfold layT; simp
    omega
  unfold perps
  rw [hl, perpTo_eq _ f _ (fun j hj => layT_take f n j (by omega))]
  rfl
set_option maxRecDepth 100000 in
set_option maxHeartbeats 1600000 in
theorem s_l04Perpends (xa xb : ByteArray) (f : Nat → UInt8) (u : Int) (w : World) (HP : Hid (∀ (j : Nat) W, j ≤ 1000 → Calls Try.prog 83 #[.agg #[.string xa, .string xb], .int .i64 j] W (RetE (.int .u8 ((f j).toNat : Int)) W))) (hq : ∀ i, 1 ≤ qB (f i)) (u1 : 1 ≤ u) (u2 : u ≤ 200) :
    Calls Try.prog 57 #[.agg #[.string xa, .string xb], .int .i64 u] w (RetInts (perps (layT f u)) w) := by
  have HQ := Lib.hid hq
  have hz : (w.alloc (.cells #[.string xa, .string xb] 80)).heap.size = w.heap.size + 1 := by simp
  obtain ⟨wb, hwb⟩ : ∃ wb, w.alloc (.cells #[.string xa, .string xb] 80) = wb := ⟨_, rfl⟩
  have HB0 : Hid (wb.heap[w.heap.size]? = some (.cells #[.string xa, .string xb] 80 (0, 0))) := Lib.hid (by rw [← hwb]; exact blk_at _ _ _ rfl)
  have HE0 : Hid (Ext w wb) := Lib.hid (by rw [← hwb]; exact (Ext.refl w).alloc _)
  rw [hwb] at hz
  have HZ := Lib.hid hz
  have HWB := Lib.hid hwb
  clear hq hz hwb
  go_enter Try.func57, Try.ntmps57
  go_wp2
  rw [HWB.out]
  go_loopw [5, 6, 7] (fun v q i wr => ∃ j : Nat, i = .int .i64 j ∧ q = .int .i64 (preQ f j) ∧ (j = 0 ∨ preQ f (j - 1) < u) ∧ Hid (OwnInts 2 wr wb.heap.size v (pfL f j)) ∧ Hid (Ext wb wr)) (fun _ q _ _ => (u - intOf q).toNat)
  case atStart =>
    refine ⟨0, rfl, rfl, .inl rfl, Lib.hid ?_, Lib.hid ((Ext.refl wb).alloc _)⟩
    have h := OwnInts.empty (E := 2) (Ext.refl wb)
    rw [HZ.out] at h ⊢
    exact h
  case round =>
    obtain ⟨j, rfl, rfl, hj, HO, HE⟩ := hrel
    have hge := preQ_ge HQ.out j
    have hle : (preQ f j : Int) ≤ u + 4 ∧ (j : Int) ≤ u + 1 := by
      rcases hj with rfl | hj
      · simp [preQ]; omega
      · by_cases h0 : j = 0
        · subst h0; simp [preQ]; omega
        · have h3 : preQ f j = preQ f (j - 1) + qB (f (j - 1)) := by conv => lhs; rw [show j = j - 1 + 1 by omega]; unfold preQ
          have h4 := qB_bd (f (j - 1))
          have h5 := preQ_ge HQ.out (j - 1)
          omega
    have HLEN := Lib.hid (pfL_len f j)
    have HB := Lib.hid (HE.out.block HB0.out)
    obtain ⟨q0, q1, q2, q3, q4⟩ := two_cells HB.out
    have HP2 := Lib.hid (fun W => HP.out j W (by omega))
    have HQE : Hid (qI ((f j).toNat : Int) = qB (f j)) := Lib.hid rfl
    have hqb := HQ.out j
    have hqb4 := qB_bd (f j)
    have HP1 : Hid (preQ f (j + 1) = preQ f j + qB (f j)) := Lib.hid rfl
    have HSN : Hid (1 ≤ j → pfL f (j + 1) = pfL f j ++ [preQ f j]) := Lib.hid (fun h => pfL_succ f j h)
    have HEND : Hid (1 ≤ j → preQ f (j - 1) < u → u ≤ preQ f j → pfL f j = perps (layT f u)) := Lib.hid (fun h h1 h2 => pfL_end HQ.out h h1 h2)
    obtain ⟨p, hp⟩ : ∃ p, preQ f j = p := ⟨_, rfl⟩
    obtain ⟨b, hbb⟩ : ∃ b, f j = b := ⟨_, rfl⟩
    obtain ⟨qq, hqq⟩ : ∃ qq, qB b = qq := ⟨_, rfl⟩
    rw [hbb] at hqb hqb4 HQE HP2 HP1
    rw [hqq] at hqb hqb4 HQE HP1
    have HPP := Lib.hid hp
    rw [hp] at hge HP1 HSN HEND hle
    rw [hp]
    have HQC : Hid (∀ W, Calls Try.prog 84 #[.int .u8 (b.toNat : Int)] W (RetV (.int .i64 qq) W)) := Lib.hid (fun W => by rw [← HQE.out]; exact s_l02Quarters _ W)
    by_cases hlt : p < u
    · by_cases h0 : j = 0
      · subst h0
        have hp0 : p = 0 := by rw [← hp]; rfl
        subst hp0
        clear hp hbb hqq hj
        go_wp2_with (first
          | (go_at_call 83; refine (HP2.out _).mono ?_; rintro e w2 ⟨rfl, e2⟩; have E2 := Lib.hid e2; clear e2)
          | (go_at_call 84; refine (HQC.out _).mono ?_; rintro e w3 ⟨rfl, rfl⟩))
        go_roundw
        case rel => exact ⟨1, by go_num, by rw [HP1.out, Int.zero_add], .inr (by rw [HPP.out]; omega), Lib.hid (HO.out.ext E2.out), Lib.hid (HE.out.trans E2.out)⟩
        case measure => (simp [intOf] <;> omega)
      · have hpos : (0 : Int) < p := by omega
        have HSN2 := Lib.hid (HSN.out (by omega))
        have hi64 : IsI64 p := by unfold IsI64; omega
        have hlen : (pfL f j).length ≤ 1000000000 := by rw [HLEN.out]; omega
        have HI := Lib.hid hi64
        have HLL := Lib.hid hlen
        clear hp hbb hqq hj hi64 hlen
        go_wp2_with (first
          | (go_at_call 83; refine (HP2.out _).mono ?_; rintro e w2 ⟨rfl, e2⟩; have E2 := Lib.hid e2; clear e2)
          | (go_at_call 84; refine (HQC.out _).mono ?_; rintro e w3 ⟨rfl, rfl⟩)
          | (at_builtin; refine wpList_append_int (W := wb) rfl _ _ rfl _ _ _ rfl rfl rfl HO.out HE.out HI.out HLL.out ?_; intro v' w1 ho1 er1; have HO1 := Lib.hid ho1; have HE1 := Lib.hid er1; obtain ⟨z0, z1, z2, z3, z4⟩ := two_cells (er1.block HB0.out); clear ho1 er1))
        go_roundw
        case rel => exact ⟨j + 1, by go_num, by rw [HP1.out], .inr (by rw [show j + 1 - 1 = j by omega, HPP.out]; omega), Lib.hid (by rw [HSN2.out]; exact HO1.out.ext E2.out), Lib.hid (HE1.out.trans E2.out)⟩
        case measure => (simp [intOf] <;> omega)
    · have hj1 : 1 ≤ j := by rcases Nat.eq_zero_or_pos j with h | h; subst h; rw [← hp] at hlt; simp [preQ] at hlt; omega; exact h
      have HR := Lib.hid (HEND.out hj1 (by rcases hj with h | h; omega; exact h) (by omega))
      clear hp hbb hqq hj
      go_wp2
      go_ret
      have HO2 := HO.out
      rw [HR.out, HZ.out] at HO2
      exact RetInts.of_own (HO2.mono (Nat.le_succ _)) (HE0.out.trans HE.out)
set_option maxHeartbeats 1600000 in
theorem s_PerpendsOf (nm : ByteArray) (ao : Option Addr) (n c : Nat) (cs : List Crs) (k u : Int) (w : World) (hn : nm.size ≤ 9223372036854775807) (hx : Crss w ao n cs) (hc : codeB (bts nm) cs k u = 0) :
    Calls Try.prog 25 #[.agg #[.string nm, .slice ao n c], .int .i64 k, .int .i64 u] w (RetIntsC (perps (layT (ltrAt cs k) u)) 0 w) := by
  have e0 : Ext w (w.alloc (.cells #[.string nm, .slice ao n c] 30)) := (Ext.refl w).alloc _
  have B0 := Two.new w (.string nm) (.slice ao n c) 30
  obtain ⟨b1, b2, b3, b4, b5⟩ := codeB_0 hc
  obtain ⟨d1, d2, d3⟩ := bondB_bd b1
  have hl := hx.1
  have HO := Lib.hid (s_l04Code w.heap.size nm ao n c cs k u _ B0 hn (hx.ext e0))
  rw [hc] at HO
  obtain ⟨x, hxc⟩ : ∃ x, crsAt cs k = x := ⟨_, rfl⟩
  obtain ⟨s1, s2, s3⟩ := crs_small hx.1 (by omega) d3 k hxc
  have hfe := ltrAt_eq cs k hxc
  have hC := fun W (e : Ext (w.alloc (.cells #[.string nm, .slice ao n c] 30)) W) => s_l04At w.heap.size nm ao n c cs k W (B0.ext e) ((hx.ext e0).ext e) (by omega) (by omega) b2 (by omega)
  rw [hxc] at hC
  have hq := fun i => ltrAt_q (cs := cs) (by omega) d3 k i
  obtain ⟨xa, xb⟩ := x
  obtain ⟨f, hf⟩ : ∃ f, ltrAt cs k = f := ⟨_, rfl⟩
  rw [hf] at hq hfe ⊢
  have HC : Hid (∀ W, Ext (w.alloc (.cells #[.string nm, .slice ao n c] 30)) W → Calls Try.prog 58 #[.pointer (some ⟨w.heap.size, 0, none⟩), .int .i64 k] W (RetE (.agg #[.string xa, .string xb]) W)) := Lib.hid hC
  have HP : Hid (∀ (j : Nat) W, j ≤ 1000 → Calls Try.prog 83 #[.agg #[.string xa, .string xb], .int .i64 j] W (RetE (.int .u8 ((f j).toNat : Int)) W)) := Lib.hid (fun j W hj => by rw [hfe j]; exact s_l04Letter xa xb j (by dsimp only at s1; omega) (by dsimp only at s3; omega) s2 (by omega) W)
  have HL := Lib.hid (fun W => s_l04Perpends xa xb f u W HP hq b4 b5)
  obtain ⟨ps, hps⟩ : ∃ ps, perps (layT f u) = ps := ⟨_, rfl⟩
  rw [hps] at HL ⊢
  have E0 := Lib.hid e0
  clear hx hc b1 d3 hfe hC hq hf B0 e0 hps
  go_enter Try.func25, Try.ntmps25
  go_wp2_with (first
    | (go_at_call 42; refine HO.out.mono ?_; rintro e w1 ⟨rfl, e1⟩; have E1 := Lib.hid e1; clear e1)
    | (go_at_call 58; refine (HC.out _ E1.out).mono ?_; rintro e w2 ⟨rfl, e2⟩; have E2 := Lib.hid (E1.out.trans e2); clear e2)
    | (go_at_call 57; refine (HL.out _).mono ?_; rintro e w3 ⟨a3, c3, rfl, o3, e3⟩; have HO3 := Lib.hid o3; have E3 := Lib.hid e3; clear o3 e3))
  go_ret2
  exact ⟨a3, c3, rfl, HO3.out.mono (E0.out.trans E2.out).size, (E0.out.trans E2.out).trans E3.out⟩
/-- a valid bond is handed back -/
def RetA2B (w : World) (e : Ending) (w' : World) : Prop := ∃ nm cs a cap, e = .returned (.agg #[.string nm, .slice a cs.length cap]) ∧ bondB (bts nm) cs = true ∧ nm.size ≤ 12 ∧ Crss w' a cs.length cs ∧ Ext w w'
set_option maxRecDepth 100000 in
set_option maxHeartbeats 1600000 in
theorem s_A2Bond (ao : Option Addr) (n c : Nat) (bs : List UInt8) (w : World) (hb : U8s w ao n bs) : Calls Try.prog 21 #[.slice ao n c] w (RetA2B w) := by
  have H1 := Lib.hid (fun W (h : SrcAt W (w.heap.size + 1) ao n c ⟨0, 0⟩) (e : Ext w W) => s_l04Draw (w.heap.size + 1) ao n c bs ⟨0, 0⟩ W h w e hb (Nat.le_succ _) 0 (by decide) ⟨by decide, by decide⟩)
  have B0 := Lib.hid (blk_at w (.cells #[.string ByteArray.empty, .slice none 0 0] 30) w.heap.size rfl)
  clear hb
  go_enter Try.func21, Try.ntmps21
  go_wp2_with fail
  refine (s_l00From ao n c _).mono ?_
  rintro e w1 ⟨rfl, s1, e1, z1⟩
  rw [show (w.alloc (.cells #[.string ⟨#[]⟩, .slice none 0 0] 30)).heap.size = w.heap.size + 1 by simp] at s1 ⊢
  have HS1 := Lib.hid s1
  have HE1 := Lib.hid (((Ext.refl w).alloc _).trans e1)
  have HR1 := Lib.hid (e1.block B0.out)
  clear s1 e1 z1
  go_wp2_with fail
  refine (H1.out _ HS1.out HE1.out).mono ?_
  rintro e w2 ⟨nm, cs, st', a, cap, rfl, hbd, hns, o2, _, s2, g2⟩
  have HR2 := Lib.hid (blk_grownS HR1.out g2 (fun e => by have h := Option.some.inj e; omega))
  obtain ⟨r0, r1, r2, r3, r4⟩ := two_cells HR2.out
  have HE2 := Lib.hid (ext_of_src g2 HE1.out (Nat.le_succ _))
  have HO2 := Lib.hid (o2.mono (show w.heap.size + 1 ≤ w1.heap.size from Nat.succ_le_of_lt (lt_of_block HR1.out)))
  have HBD := Lib.hid hbd
  have HNS := Lib.hid hns
  obtain ⟨n4, hn4⟩ : ∃ n, cs.length = n := ⟨_, rfl⟩
  rw [hn4] at HO2 ⊢
  have HN4 := Lib.hid hn4
  clear s2 g2 o2 hbd hns hn4
  go_wp2
  have c0 : ((w2.setCell ⟨w.heap.size, 0, none⟩ (.string nm)).setCell ⟨w.heap.size, 1, none⟩ (.slice a n4 cap)).cell? ⟨w.heap.size, 0, none⟩ = some (.string nm) := by
    rw [World.cell?_setCell_other _ _ _ _ (ne_off (by decide))]; exact World.cell?_setCell_same _ _ _ r0
  have c1 : ((w2.setCell ⟨w.heap.size, 0, none⟩ (.string nm)).setCell ⟨w.heap.size, 1, none⟩ (.slice a n4 cap)).cell? ⟨w.heap.size, 1, none⟩ = some (.slice a n4 cap) :=
    World.cell?_setCell_same _ _ _ ((World.cell?_setCell_other _ _ _ _ (ne_off (by decide))).trans r1)
  refine bodyPost_ret (v := .agg #[.string nm, .slice a n4 cap]) (by simp [results, Try.results21, go_sem, c0, c1]) rfl ?_
  refine ⟨nm, cs, a, cap, by rw [HN4.out], HBD.out, HNS.out, ?_, ?_⟩
  · rw [HN4.out]
    exact ((HO2.out.setBelow (Nat.lt_succ_self _) _).setBelow (Nat.lt_succ_self _) _).crss
  · exact (HE2.out.setCell (Nat.le_refl _) _).setCell (Nat.le_refl _) _
end Go.Proofs.Ytehcmocknmfhcaa
