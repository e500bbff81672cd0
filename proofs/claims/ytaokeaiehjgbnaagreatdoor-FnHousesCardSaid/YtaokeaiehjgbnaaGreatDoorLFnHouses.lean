/- For every row of bytes the law FnHouses answers true: around a house one comes back, beginning with another side changes neither area nor length, and plans are read back from their texts; the library's tables and its error value are as its text lays them. -/
import Derived.Test.YtaokeaiehjgbnaaGreatDoorGaHj
import Derived.Test.YtaokeaiehjgbnaaGreatDoorGaLex
import Derived.Test.YtaokeaiehjgbnaaGreatDoorGaHb
import Derived.Test.YtaokeaiehjgbnaaGreatDoorGaHc
import Derived.Test.YtaokeaiehjgbnaaGreatDoorGaHt
import Derived.Test.YtaokeaiehjgbnaaGreatDoorTurnM
import Derived.Test.YtaokeaiehjgbnaaGreatDoorGaRead
import Derived.Test.YtaokeaiehjgbnaaGreatDoorOpenU
import Derived.Test.YtaokeaiehjgbnaaGreatDoorDoor
namespace Go.Proofs.YtaokeaiehjgbnaaGreatDoor
open Go.RowKit
set_option linter.unusedSimpArgs false
set_option linter.unusedVariables false
set_option linter.unnecessarySimpa false

theorem bts_turn (s : ByteArray) (k : Nat) (h : k ≤ s.size) : bts (turnT s k) = (bts s).drop k ++ (bts s).take k := by
  unfold turnT
  show (s.extract k s.size ++ s.extract 0 k).data.toList = _
  rw [ByteArray.data_append, Array.toList_append, ByteArray.data_extract, ByteArray.data_extract, Array.toList_extract, Array.toList_extract, List.extract_eq_take_drop, List.extract_eq_take_drop, List.drop_zero]
  show ((bts s).drop k).take (s.size - k) ++ (bts s).take (k - 0) = _
  rw [List.take_of_length_le (by rw [List.length_drop, bts_length]; exact Nat.le_refl _)]
  rfl
/-- a plan that was turned has all as before -/
theorem turn_good {xs : List Int} {s : ByteArray} {k : Int} (h : codeH xs (bts s) k 0 = 0) : validH (trX xs (bts s) k) (bts (trT xs s k)) = true ∧
    areaH (trX xs (bts s) k) (bts (trT xs s k)) (trX xs (bts s) k).length = areaH xs (bts s) xs.length ∧
    simpH (trX xs (bts s) k) (bts (trT xs s k)) (trX xs (bts s) k).length = simpH xs (bts s) xs.length ∧
    sumN (trX xs (bts s) k) (trX xs (bts s) k).length = sumN xs xs.length := by
  obtain ⟨hv, k0, k1, _, _⟩ := code_0 h
  obtain ⟨j, rfl⟩ := Int.eq_ofNat_of_zero_le k0
  have hb := validH_bd hv
  have e1 : trX xs (bts s) j = xs.drop j ++ xs.take j := by unfold trX; rw [if_pos h, Int.toNat_natCast]
  have e2 : bts (trT xs s j) = (bts s).drop j ++ (bts s).take j := by
    unfold trT
    rw [if_pos h, Int.toNat_natCast, bts_turn s j (by have := hb.2.2.2.1; rw [bts_length] at this; omega)]
  obtain ⟨a1, a2, a3, a4, a5⟩ := turn_all hv j (by omega)
  rw [e1, e2, a2]
  exact ⟨a1, a3, a4, a5⟩
theorem trT_len (xs : List Int) (s : ByteArray) (k : Int) : (trT xs s k).size ≤ 2 * s.size := by
  unfold trT
  split
  · unfold turnT
    rw [ByteArray.size_append, ByteArray.size_extract, ByteArray.size_extract]
    omega
  · exact Nat.zero_le _
theorem corn_at {xs : List Int} {t : List UInt8} (h : validH xs t = true) {k : Nat} (hk : k < xs.length) : (cornL xs t).getD k (0, 0) = ptH xs t k := by
  unfold cornL
  rw [if_pos h, List.getD_eq_getElem?_getD, List.getElem?_map, List.getElem?_range hk]; rfl
theorem corn_end {xs : List Int} {t : List UInt8} (h : validH xs t = true) : ptH xs t xs.length = ptH xs t 0 := by
  have hc := closed_of h
  unfold ptH
  rw [hc.px, hc.py]; rfl
set_option maxRecDepth 100000 in
set_option maxHeartbeats 20000000 in
theorem walk_FnHouses (ao : Option Addr) (n c : Nat) (bs : List UInt8) (w : World) (hx : U8x w ao n bs) (hT : TabP w) (hE : ErrP w) (hMx : MaxP w) :
    Calls Tryz.prog 3 #[.slice ao n c] w fun e w' => e = .returned (.bool true) ∧ Below w.heap.size w w' := by
  have HLO := Lib.hid (fun W => l_f6big ao n c W hx.2.1)
  cases hl : bigC n with
  | true =>
    rw [hl] at HLO
    clear hx hl
    go_enter Tryz.func3, Tryz.ntmps3
    go_wp2_with (go_at_call 4; refine (HLO.out _).mono ?_; rintro e w' ⟨rfl, rfl⟩)
    go_ret
    exact ⟨rfl, Below.refl _ _⟩
  | false =>
    rw [hl] at HLO
    have HX := Lib.hid (hx.small (by have h := hl; unfold bigC at h; simp at h; omega))
    have HTb := Lib.hid hT
    have HEr := Lib.hid hE
    have HMx := Lib.hid hMx
    clear hx hl hT hE hMx
    go_enter Tryz.func3, Tryz.ntmps3
    go_wp2_with (go_at_call 4; refine (HLO.out _).mono ?_; rintro e w' ⟨rfl, rfl⟩)
    refine (s_DrawTurnHouse ao n c bs _ HX.out).mono ?_
    rintro e w1 ⟨v1, t, xs, k, rfl, hk, hF⟩
    obtain ⟨b1, c1, rfl, l1, l2, lc, lt, hI1, _, e1⟩ := hF
    have hiT := fun W (h : Ints W (some ⟨b1, 0, none⟩) xs.length xs) => i_TurnHouse (some ⟨b1, 0, none⟩) xs.length c1 xs t k W h lc (by omega)
    have hsT := fun W (h : Ints W (some ⟨b1, 0, none⟩) xs.length xs) => s_TurnHouse (some ⟨b1, 0, none⟩) xs.length c1 xs t k W h lc (by omega)
    have hiC := fun W (h : Ints W (some ⟨b1, 0, none⟩) xs.length xs) => i_CornerPoints (some ⟨b1, 0, none⟩) xs.length c1 xs t W h (by omega)
    have hsC := fun W (h : Ints W (some ⟨b1, 0, none⟩) xs.length xs) => s_CornerPoints (some ⟨b1, 0, none⟩) xs.length c1 xs t W h (by omega)
    have hiS := fun W (h : Ints W (some ⟨b1, 0, none⟩) xs.length xs) => i_IsSimple (some ⟨b1, 0, none⟩) xs.length c1 xs t W h (by omega)
    have hsS := fun W (h : Ints W (some ⟨b1, 0, none⟩) xs.length xs) => s_IsSimple (some ⟨b1, 0, none⟩) xs.length c1 xs t W h (by omega)
    have hiA := fun W (h : Ints W (some ⟨b1, 0, none⟩) xs.length xs) => i_AreaInside (some ⟨b1, 0, none⟩) xs.length c1 xs t W h (by omega)
    have hsA := fun W (h : Ints W (some ⟨b1, 0, none⟩) xs.length xs) => s_AreaInside (some ⟨b1, 0, none⟩) xs.length c1 xs t W h (by omega)
    have hiR := fun W (h : Ints W (some ⟨b1, 0, none⟩) xs.length xs) => i_RoundHouse (some ⟨b1, 0, none⟩) xs.length c1 xs t W h (by omega)
    have hsR := fun W (h : Ints W (some ⟨b1, 0, none⟩) xs.length xs) => s_RoundHouse (some ⟨b1, 0, none⟩) xs.length c1 xs t W h (by omega)
    have hiX := fun W (h : Ints W (some ⟨b1, 0, none⟩) xs.length xs) (e : Ext w W) => i_HouseText (some ⟨b1, 0, none⟩) xs.length c1 xs t W h (by omega) (HTb.out.ext e)
    have hsX := fun W (h : Ints W (some ⟨b1, 0, none⟩) xs.length xs) => s_HouseText (some ⟨b1, 0, none⟩) xs.length c1 xs t W h (by omega)
    have hiV := fun W (h : Ints W (some ⟨b1, 0, none⟩) xs.length xs) => i_ValidHouse (some ⟨b1, 0, none⟩) xs.length c1 xs t W h (by omega)
    have hsV := fun W (h : Ints W (some ⟨b1, 0, none⟩) xs.length xs) => s_ValidHouse (some ⟨b1, 0, none⟩) xs.length c1 xs t W h (by omega)
    have htl := hTxt_len xs (bts t)
    have hiB := fun W (e : Ext w W) => i_ReadHouse (mkS (hTxt xs (bts t))) (by rw [mkS_size]; omega) W (HTb.out.ext e) (HEr.out.ext e) (HMx.out.ext e)
    rw [bts_mkS] at hiB
    have hPW := cornL_wide xs (bts t)
    have hPL := cornL_len xs (bts t)
    have hown : validH xs (bts t) = true → rhB (hTxt xs (bts t)) = true ∧ rhX (hTxt xs (bts t)) = xs ∧ rhT (hTxt xs (bts t)) = t ∧ hTxt xs (bts t) ≠ [] := fun h => by
      have := rh_own h
      rwa [mkS_bts] at this
    have hnone : ¬ validH xs (bts t) = true → rhB (hTxt xs (bts t)) = false ∧ hTxt xs (bts t) = [] := rh_none
    have hcor : validH xs (bts t) = true → 4 ≤ xs.length ∧ xs.length ≤ 12 ∧ (cornL xs (bts t)).length = xs.length ∧ ∀ j, j < xs.length → ∃ p q : Int × Int, (cornL xs (bts t)).getD j (0, 0) = p ∧ (cornL xs (bts t)).getD (if j + 1 < xs.length then j + 1 else 0) (0, 0) = q ∧ (-2400 ≤ p.1 ∧ p.1 ≤ 2400 ∧ -2400 ≤ p.2 ∧ p.2 ≤ 2400) ∧ (-2400 ≤ q.1 ∧ q.1 ≤ 2400 ∧ -2400 ≤ q.2 ∧ q.2 ≤ 2400) ∧ (max (q.1 - p.1) (-(q.1 - p.1)) + max (q.2 - p.2) (-(q.2 - p.2)) = xs.getD j 0) ∧ (q.1 - p.1 = 0 ∨ q.2 - p.2 = 0) := fun h => by
      obtain ⟨h4, h12, hb, _, _⟩ := validH_bd h
      refine ⟨h4, h12, by unfold cornL; rw [if_pos h]; simp, fun j hj => ⟨ptH xs (bts t) j, ptH xs (bts t) (j + 1), corn_at h hj, ?_, ?_, ?_, (side_len h hj).1, (side_len h hj).2⟩⟩
      · split
        · rename_i hj1; exact corn_at h hj1
        · rw [corn_at h (by omega), show j + 1 = xs.length by omega, corn_end h]
      · have := ptH_bd (bts t) hb h12 j (by omega); omega
      · have := ptH_bd (bts t) hb h12 (j + 1) (by omega); omega
    have hturn : codeH xs (bts t) k 0 = 0 → _ := fun h => turn_good h
    have hxl := trX_len xs (bts t) k
    have htl2 := trT_len xs t k
    have hiA2 := fun W a2 c2 (h : Ints W a2 (trX xs (bts t) k).length (trX xs (bts t) k)) => i_AreaInside a2 (trX xs (bts t) k).length c2 (trX xs (bts t) k) (trT xs t k) W h (by omega)
    have hiS2 := fun W a2 c2 (h : Ints W a2 (trX xs (bts t) k).length (trX xs (bts t) k)) => i_IsSimple a2 (trX xs (bts t) k).length c2 (trX xs (bts t) k) (trT xs t k) W h (by omega)
    have hiR2 := fun W a2 c2 (h : Ints W a2 (trX xs (bts t) k).length (trX xs (bts t) k)) => i_RoundHouse a2 (trX xs (bts t) k).length c2 (trX xs (bts t) k) (trT xs t k) W h (by omega)
    have hcdv : codeH xs (bts t) k 0 = 0 → validH xs (bts t) = true := fun h => (code_0 h).1
    obtain ⟨xr, hxr⟩ : ∃ x, trX xs (bts t) k = x := ⟨_, rfl⟩
    obtain ⟨tr, htr⟩ : ∃ x, trT xs t k = x := ⟨_, rfl⟩
    obtain ⟨cd, hcd⟩ : ∃ x, codeH xs (bts t) k 0 = x := ⟨_, rfl⟩
    obtain ⟨ps, hps⟩ : ∃ x, cornL xs (bts t) = x := ⟨_, rfl⟩
    obtain ⟨S, hS⟩ : ∃ x, simpH xs (bts t) xs.length = x := ⟨_, rfl⟩
    obtain ⟨A, hA⟩ : ∃ x, areaH xs (bts t) xs.length = x := ⟨_, rfl⟩
    obtain ⟨R, hR⟩ : ∃ x, sumN xs xs.length = x := ⟨_, rfl⟩
    obtain ⟨yx, hyx⟩ : ∃ x, rhX (hTxt xs (bts t)) = x := ⟨_, rfl⟩
    obtain ⟨yt, hyt⟩ : ∃ x, rhT (hTxt xs (bts t)) = x := ⟨_, rfl⟩
    obtain ⟨yb, hyb⟩ : ∃ x, rhB (hTxt xs (bts t)) = x := ⟨_, rfl⟩
    obtain ⟨tx, htx⟩ : ∃ x, hTxt xs (bts t) = x := ⟨_, rfl⟩
    obtain ⟨V, hV⟩ : ∃ x, validH xs (bts t) = x := ⟨_, rfl⟩
    rw [hxr, htr, hcd] at hiT hsT
    rw [hps, hV] at hiC hsC
    rw [hS, hV] at hiS hsS
    rw [hA, hV] at hiA hsA
    rw [hR, hV] at hiR hsR
    rw [htx] at hiX hsX
    rw [hV] at hiV hsV
    rw [hyx, hyt, hyb, htx] at hiB
    rw [hps] at hPW hPL
    rw [hyb, hyx, hyt, htx, hV] at hown
    rw [hyb, htx, hV] at hnone
    rw [hps, hV] at hcor
    rw [hcd, hxr, htr, hA, hS, hR] at hturn
    rw [hcd, hV] at hcdv
    rw [hxr, htr] at hiA2 hiS2 hiR2
    rw [hxr] at hxl
    have HiT := Lib.hid hiT
    have HsT := Lib.hid hsT
    have HiC := Lib.hid hiC
    have HsC := Lib.hid hsC
    have HiS := Lib.hid hiS
    have HsS := Lib.hid hsS
    have HiA := Lib.hid hiA
    have HsA := Lib.hid hsA
    have HiR := Lib.hid hiR
    have HsR := Lib.hid hsR
    have HiX := Lib.hid hiX
    have HsX := Lib.hid hsX
    have HiV := Lib.hid hiV
    have HsV := Lib.hid hsV
    have HiB := Lib.hid hiB
    have HPW := Lib.hid hPW
    have HPL := Lib.hid hPL
    have HOWN := Lib.hid hown
    have HNONE := Lib.hid hnone
    have HCOR := Lib.hid hcor
    have HTURN := Lib.hid hturn
    have HiA2 := Lib.hid hiA2
    have HiS2 := Lib.hid hiS2
    have HiR2 := Lib.hid hiR2
    have HCDV := Lib.hid hcdv
    have HSS := Lib.hid (fun W (X : List Int) (T : ByteArray) a1 c1 a2 c2 (h1 : Ints W a1 X.length X) (h2 : Ints W a2 X.length X) => show Calls Tryz.prog 21 #[.agg #[.slice a1 X.length c1, .string T], .agg #[.slice a2 X.length c2, .string T]] W (RetE (.bool true) W) from (by have := s_SameHouse a1 a2 X.length X.length c1 c2 X X T T W h1 h2; rwa [show sameH X X T T = true by simp [sameH]] at this))
    have HDR := Lib.hid (fun W (e : Ext w W) => s_DrawReadHouse ao n c bs W (HX.out.ext e))
    have HDS := Lib.hid (fun W (e : Ext w W) => s_DrawSameHouse ao n c bs W (HX.out.ext e))
    have HRI := Lib.hid (fun (sx : ByteArray) (h : sx.size ≤ 400) W (e : Ext w W) => i_ReadHouse sx (by omega) W (HTb.out.ext e) (HEr.out.ext e) (HMx.out.ext e))
    have HRS := Lib.hid (fun (sx : ByteArray) (h : sx.size ≤ 400) W => s_ReadHouse sx (by omega) W)
    have HE := Lib.hid (e1.alloc (.cells #[.slice (some ⟨b1, 0, none⟩) xs.length c1, .string t] 26))
    have HBh := Lib.hid (heap_alloc_new w1 (.cells #[.slice (some ⟨b1, 0, none⟩) xs.length c1, .string t] 26))
    have HIh := Lib.hid (hI1.ext ((Ext.refl w1).alloc (.cells #[.slice (some ⟨b1, 0, none⟩) xs.length c1, .string t] 26)))
    clear hiT hsT hiC hsC hiS hsS hiA hsA hiR hsR hiX hsX hiV hsV hiB hPW hPL hown hnone hcor hturn hiA2 hiS2 hiR2 hcdv hxr htr hcd hps hS hA hR hyx hyt hyb htx hV hI1 e1 htl htl2 hk l1 l2 lc lt
    generalize hTX : mkS tx = TX at *
    have HTX := Lib.hid hTX
    clear hTX
    obtain ⟨p00, p01, p02, p03, p04⟩ := two_cells HBh.out
    go_wp2_with fail
    refine (HiT.out _ HIh.out).mono ?_
    rintro e w2 ⟨a2, c2, rfl, o2, e2⟩
    clear p00 p01 p02 p03 p04
    have e2a := e2.alloc (.cells #[.slice a2 xr.length c2, .string tr] 26)
    replace HE := Lib.hid (HE.out.trans e2a)
    replace HBh := Lib.hid (e2a.block HBh.out)
    replace HIh := Lib.hid (HIh.out.ext e2a)
    have HBx := Lib.hid (heap_alloc_new w2 (.cells #[.slice a2 xr.length c2, .string tr] 26))
    have HIx := Lib.hid (o2.ints.ext ((Ext.refl w2).alloc (.cells #[.slice a2 xr.length c2, .string tr] 26)))
    clear o2
    clear e2 e2a
    obtain ⟨p00, p01, p02, p03, p04⟩ := two_cells HBh.out
    go_wp2_with fail
    refine (HsT.out _ HIh.out).mono ?_
    rintro e w3 ⟨a3, c3, rfl, o3, e3⟩
    clear p00 p01 p02 p03 p04
    have e3a := e3.alloc (.cells #[.slice a3 xr.length c3, .string tr] 26)
    replace HE := Lib.hid (HE.out.trans e3a)
    replace HBh := Lib.hid (e3a.block HBh.out)
    replace HIh := Lib.hid (HIh.out.ext e3a)
    replace HBx := Lib.hid (e3a.block HBx.out)
    replace HIx := Lib.hid (HIx.out.ext e3a)
    have HBm := Lib.hid (heap_alloc_new w3 (.cells #[.slice a3 xr.length c3, .string tr] 26))
    have HIm := Lib.hid (o3.ints.ext ((Ext.refl w3).alloc (.cells #[.slice a3 xr.length c3, .string tr] 26)))
    clear o3
    clear e3 e3a
    obtain ⟨p00, p01, p02, p03, p04⟩ := two_cells HBh.out
    go_wp2_with fail
    refine (HiC.out _ HIh.out).mono ?_
    rintro e w4 ⟨a4, c4, rfl, o4, e4⟩
    clear p00 p01 p02 p03 p04
    replace HE := Lib.hid (HE.out.trans e4)
    replace HBh := Lib.hid (e4.block HBh.out)
    replace HIh := Lib.hid (HIh.out.ext e4)
    replace HBx := Lib.hid (e4.block HBx.out)
    replace HIx := Lib.hid (HIx.out.ext e4)
    replace HBm := Lib.hid (e4.block HBm.out)
    replace HIm := Lib.hid (HIm.out.ext e4)
    have HPg := Lib.hid o4.pts
    clear o4
    clear e4
    obtain ⟨p00, p01, p02, p03, p04⟩ := two_cells HBh.out
    go_wp2_with fail
    refine (HsC.out _ HIh.out).mono ?_
    rintro e w5 ⟨a5, c5, rfl, o5, e5⟩
    clear p00 p01 p02 p03 p04
    replace HE := Lib.hid (HE.out.trans e5)
    replace HBh := Lib.hid (e5.block HBh.out)
    replace HIh := Lib.hid (HIh.out.ext e5)
    replace HBx := Lib.hid (e5.block HBx.out)
    replace HIx := Lib.hid (HIx.out.ext e5)
    replace HBm := Lib.hid (e5.block HBm.out)
    replace HIm := Lib.hid (HIm.out.ext e5)
    replace HPg := Lib.hid (HPg.out.ext e5)
    have HPr := Lib.hid o5.pts
    clear o5
    clear e5
    obtain ⟨p00, p01, p02, p03, p04⟩ := two_cells HBh.out
    go_wp2_with fail
    refine (HiS.out _ HIh.out).mono ?_
    rintro e w6 ⟨rfl, e6⟩
    clear p00 p01 p02 p03 p04
    replace HE := Lib.hid (HE.out.trans e6)
    replace HBh := Lib.hid (e6.block HBh.out)
    replace HIh := Lib.hid (HIh.out.ext e6)
    replace HBx := Lib.hid (e6.block HBx.out)
    replace HIx := Lib.hid (HIx.out.ext e6)
    replace HBm := Lib.hid (e6.block HBm.out)
    replace HIm := Lib.hid (HIm.out.ext e6)
    replace HPg := Lib.hid (HPg.out.ext e6)
    replace HPr := Lib.hid (HPr.out.ext e6)
    clear e6
    obtain ⟨p00, p01, p02, p03, p04⟩ := two_cells HBh.out
    go_wp2_with fail
    refine (HsS.out _ HIh.out).mono ?_
    rintro e w7 ⟨rfl, e7⟩
    clear p00 p01 p02 p03 p04
    replace HE := Lib.hid (HE.out.trans e7)
    replace HBh := Lib.hid (e7.block HBh.out)
    replace HIh := Lib.hid (HIh.out.ext e7)
    replace HBx := Lib.hid (e7.block HBx.out)
    replace HIx := Lib.hid (HIx.out.ext e7)
    replace HBm := Lib.hid (e7.block HBm.out)
    replace HIm := Lib.hid (HIm.out.ext e7)
    replace HPg := Lib.hid (HPg.out.ext e7)
    replace HPr := Lib.hid (HPr.out.ext e7)
    clear e7
    obtain ⟨p00, p01, p02, p03, p04⟩ := two_cells HBh.out
    go_wp2_with fail
    refine (HiA.out _ HIh.out).mono ?_
    rintro e w8 ⟨rfl, e8⟩
    clear p00 p01 p02 p03 p04
    replace HE := Lib.hid (HE.out.trans e8)
    replace HBh := Lib.hid (e8.block HBh.out)
    replace HIh := Lib.hid (HIh.out.ext e8)
    replace HBx := Lib.hid (e8.block HBx.out)
    replace HIx := Lib.hid (HIx.out.ext e8)
    replace HBm := Lib.hid (e8.block HBm.out)
    replace HIm := Lib.hid (HIm.out.ext e8)
    replace HPg := Lib.hid (HPg.out.ext e8)
    replace HPr := Lib.hid (HPr.out.ext e8)
    clear e8
    obtain ⟨p00, p01, p02, p03, p04⟩ := two_cells HBh.out
    go_wp2_with fail
    refine (HsA.out _ HIh.out).mono ?_
    rintro e w9 ⟨rfl, e9⟩
    clear p00 p01 p02 p03 p04
    replace HE := Lib.hid (HE.out.trans e9)
    replace HBh := Lib.hid (e9.block HBh.out)
    replace HIh := Lib.hid (HIh.out.ext e9)
    replace HBx := Lib.hid (e9.block HBx.out)
    replace HIx := Lib.hid (HIx.out.ext e9)
    replace HBm := Lib.hid (e9.block HBm.out)
    replace HIm := Lib.hid (HIm.out.ext e9)
    replace HPg := Lib.hid (HPg.out.ext e9)
    replace HPr := Lib.hid (HPr.out.ext e9)
    clear e9
    obtain ⟨p00, p01, p02, p03, p04⟩ := two_cells HBh.out
    go_wp2_with fail
    refine (HiR.out _ HIh.out).mono ?_
    rintro e w10 ⟨rfl, e10⟩
    clear p00 p01 p02 p03 p04
    replace HE := Lib.hid (HE.out.trans e10)
    replace HBh := Lib.hid (e10.block HBh.out)
    replace HIh := Lib.hid (HIh.out.ext e10)
    replace HBx := Lib.hid (e10.block HBx.out)
    replace HIx := Lib.hid (HIx.out.ext e10)
    replace HBm := Lib.hid (e10.block HBm.out)
    replace HIm := Lib.hid (HIm.out.ext e10)
    replace HPg := Lib.hid (HPg.out.ext e10)
    replace HPr := Lib.hid (HPr.out.ext e10)
    clear e10
    obtain ⟨p00, p01, p02, p03, p04⟩ := two_cells HBh.out
    go_wp2_with fail
    refine (HsR.out _ HIh.out).mono ?_
    rintro e w11 ⟨rfl, e11⟩
    clear p00 p01 p02 p03 p04
    replace HE := Lib.hid (HE.out.trans e11)
    replace HBh := Lib.hid (e11.block HBh.out)
    replace HIh := Lib.hid (HIh.out.ext e11)
    replace HBx := Lib.hid (e11.block HBx.out)
    replace HIx := Lib.hid (HIx.out.ext e11)
    replace HBm := Lib.hid (e11.block HBm.out)
    replace HIm := Lib.hid (HIm.out.ext e11)
    replace HPg := Lib.hid (HPg.out.ext e11)
    replace HPr := Lib.hid (HPr.out.ext e11)
    clear e11
    obtain ⟨p00, p01, p02, p03, p04⟩ := two_cells HBh.out
    go_wp2_with fail
    refine (HiX.out _ HIh.out HE.out).mono ?_
    rintro e w12 ⟨rfl, e12⟩
    clear p00 p01 p02 p03 p04
    replace HE := Lib.hid (HE.out.trans e12)
    replace HBh := Lib.hid (e12.block HBh.out)
    replace HIh := Lib.hid (HIh.out.ext e12)
    replace HBx := Lib.hid (e12.block HBx.out)
    replace HIx := Lib.hid (HIx.out.ext e12)
    replace HBm := Lib.hid (e12.block HBm.out)
    replace HIm := Lib.hid (HIm.out.ext e12)
    replace HPg := Lib.hid (HPg.out.ext e12)
    replace HPr := Lib.hid (HPr.out.ext e12)
    clear e12
    go_wp2_with fail
    refine (HiB.out _ HE.out).mono ?_
    rintro e w13 ⟨a13, c13, rfl, o13, e13⟩
    have e13a := e13.alloc (.cells #[.slice a13 yx.length c13, .string yt] 26)
    replace HE := Lib.hid (HE.out.trans e13a)
    replace HBh := Lib.hid (e13a.block HBh.out)
    replace HIh := Lib.hid (HIh.out.ext e13a)
    replace HBx := Lib.hid (e13a.block HBx.out)
    replace HIx := Lib.hid (HIx.out.ext e13a)
    replace HBm := Lib.hid (e13a.block HBm.out)
    replace HIm := Lib.hid (HIm.out.ext e13a)
    replace HPg := Lib.hid (HPg.out.ext e13a)
    replace HPr := Lib.hid (HPr.out.ext e13a)
    have HBk := Lib.hid (heap_alloc_new w13 (.cells #[.slice a13 yx.length c13, .string yt] 26))
    have HIk := Lib.hid (o13.ints.ext ((Ext.refl w13).alloc (.cells #[.slice a13 yx.length c13, .string yt] 26)))
    clear o13
    clear e13 e13a
    go_wp2_with fail
    refine (HDR.out _ HE.out).mono ?_
    rintro e w14 ⟨sx, rfl, hsx, e14⟩
    replace HE := Lib.hid (HE.out.trans e14)
    replace HBh := Lib.hid (e14.block HBh.out)
    replace HIh := Lib.hid (HIh.out.ext e14)
    replace HBx := Lib.hid (e14.block HBx.out)
    replace HIx := Lib.hid (HIx.out.ext e14)
    replace HBm := Lib.hid (e14.block HBm.out)
    replace HIm := Lib.hid (HIm.out.ext e14)
    replace HPg := Lib.hid (HPg.out.ext e14)
    replace HPr := Lib.hid (HPr.out.ext e14)
    replace HBk := Lib.hid (e14.block HBk.out)
    replace HIk := Lib.hid (HIk.out.ext e14)
    have hri := HRI.out sx hsx
    have hrs := HRS.out sx hsx
    obtain ⟨zx, hzx⟩ : ∃ x, rhX (bts sx) = x := ⟨_, rfl⟩
    obtain ⟨zt, hzt⟩ : ∃ x, rhT (bts sx) = x := ⟨_, rfl⟩
    obtain ⟨zb, hzb⟩ : ∃ x, rhB (bts sx) = x := ⟨_, rfl⟩
    rw [hzx, hzt, hzb] at hri hrs
    have HRI2 := Lib.hid hri
    have HRS2 := Lib.hid hrs
    clear hri hrs hzx hzt hzb hsx
    clear e14
    go_wp2_with fail
    refine (HRI2.out _ HE.out).mono ?_
    rintro e w15 ⟨a15, c15, rfl, o15, e15⟩
    have e15a := e15.alloc (.cells #[.slice a15 zx.length c15, .string zt] 26)
    replace HE := Lib.hid (HE.out.trans e15a)
    replace HBh := Lib.hid (e15a.block HBh.out)
    replace HIh := Lib.hid (HIh.out.ext e15a)
    replace HBx := Lib.hid (e15a.block HBx.out)
    replace HIx := Lib.hid (HIx.out.ext e15a)
    replace HBm := Lib.hid (e15a.block HBm.out)
    replace HIm := Lib.hid (HIm.out.ext e15a)
    replace HPg := Lib.hid (HPg.out.ext e15a)
    replace HPr := Lib.hid (HPr.out.ext e15a)
    replace HBk := Lib.hid (e15a.block HBk.out)
    replace HIk := Lib.hid (HIk.out.ext e15a)
    have HBu := Lib.hid (heap_alloc_new w15 (.cells #[.slice a15 zx.length c15, .string zt] 26))
    have HIu := Lib.hid (o15.ints.ext ((Ext.refl w15).alloc (.cells #[.slice a15 zx.length c15, .string zt] 26)))
    clear o15
    clear e15 e15a
    go_wp2_with fail
    refine (HRS2.out _).mono ?_
    rintro e w16 ⟨a16, c16, rfl, o16, e16⟩
    have e16a := e16.alloc (.cells #[.slice a16 zx.length c16, .string zt] 26)
    replace HE := Lib.hid (HE.out.trans e16a)
    replace HBh := Lib.hid (e16a.block HBh.out)
    replace HIh := Lib.hid (HIh.out.ext e16a)
    replace HBx := Lib.hid (e16a.block HBx.out)
    replace HIx := Lib.hid (HIx.out.ext e16a)
    replace HBm := Lib.hid (e16a.block HBm.out)
    replace HIm := Lib.hid (HIm.out.ext e16a)
    replace HPg := Lib.hid (HPg.out.ext e16a)
    replace HPr := Lib.hid (HPr.out.ext e16a)
    replace HBk := Lib.hid (e16a.block HBk.out)
    replace HIk := Lib.hid (HIk.out.ext e16a)
    replace HBu := Lib.hid (e16a.block HBu.out)
    replace HIu := Lib.hid (HIu.out.ext e16a)
    have HBv := Lib.hid (heap_alloc_new w16 (.cells #[.slice a16 zx.length c16, .string zt] 26))
    have HIv := Lib.hid (o16.ints.ext ((Ext.refl w16).alloc (.cells #[.slice a16 zx.length c16, .string zt] 26)))
    clear o16
    clear e16 e16a
    go_wp2_with fail
    refine (HDS.out _ HE.out).mono ?_
    rintro e w17 ⟨ha, ma, ca, sa, hb, kb, db, tb, xa, xb, rfl, ia, ib, _, _, e17⟩
    obtain rfl := ia.1
    obtain rfl := ib.1
    have e17a := (e17.alloc (.cells #[.slice (some ⟨ha, 0, none⟩) xa.length ca, .string sa] 26)).alloc (.cells #[.slice (some ⟨hb, 0, none⟩) xb.length db, .string tb] 26)
    replace HE := Lib.hid (HE.out.trans e17a)
    replace HBh := Lib.hid (e17a.block HBh.out)
    replace HIh := Lib.hid (HIh.out.ext e17a)
    replace HBx := Lib.hid (e17a.block HBx.out)
    replace HIx := Lib.hid (HIx.out.ext e17a)
    replace HBm := Lib.hid (e17a.block HBm.out)
    replace HIm := Lib.hid (HIm.out.ext e17a)
    replace HPg := Lib.hid (HPg.out.ext e17a)
    replace HPr := Lib.hid (HPr.out.ext e17a)
    replace HBk := Lib.hid (e17a.block HBk.out)
    replace HIk := Lib.hid (HIk.out.ext e17a)
    replace HBu := Lib.hid (e17a.block HBu.out)
    replace HIu := Lib.hid (HIu.out.ext e17a)
    replace HBv := Lib.hid (e17a.block HBv.out)
    replace HIv := Lib.hid (HIv.out.ext e17a)
    have HBa := Lib.hid (blk_old (o := (.cells #[.slice (some ⟨hb, 0, none⟩) xb.length db, .string tb] 26)) (blk_at w17 (.cells #[.slice (some ⟨ha, 0, none⟩) xa.length ca, .string sa] 26) _ rfl))
    have HBb := Lib.hid (blk_at (w17.alloc (.cells #[.slice (some ⟨ha, 0, none⟩) xa.length ca, .string sa] 26)) (.cells #[.slice (some ⟨hb, 0, none⟩) xb.length db, .string tb] 26) (w17.heap.size + 1) (by simp))
    have HIa := Lib.hid (ia.ext (((Ext.refl w17).alloc (.cells #[.slice (some ⟨ha, 0, none⟩) xa.length ca, .string sa] 26)).alloc (.cells #[.slice (some ⟨hb, 0, none⟩) xb.length db, .string tb] 26)))
    have HIb := Lib.hid (ib.ext (((Ext.refl w17).alloc (.cells #[.slice (some ⟨ha, 0, none⟩) xa.length ca, .string sa] 26)).alloc (.cells #[.slice (some ⟨hb, 0, none⟩) xb.length db, .string tb] 26)))
    have HGi := Lib.hid (fun W a1 (X : List Int) c1 (T : ByteArray) a2 (Y : List Int) c2 (U : ByteArray) (h1 : Ints W a1 X.length X) (h2 : Ints W a2 Y.length Y) => i_SameHouse a1 a2 X.length Y.length c1 c2 X Y T U W h1 h2)
    have HGs := Lib.hid (fun W a1 (X : List Int) c1 (T : ByteArray) a2 (Y : List Int) c2 (U : ByteArray) (h1 : Ints W a1 X.length X) (h2 : Ints W a2 Y.length Y) => s_SameHouse a1 a2 X.length Y.length c1 c2 X Y T U W h1 h2)
    clear ia ib e17 e17a HSS
    have hTT : (TX.toList == TX.toList) = true := by simp
    have s1 : sameH xr xr tr tr = true := by simp [sameH]
    have s2 : sameH zx zx zt zt = true := by simp [sameH]
    go_upto_region 20 with fail
    obtain ⟨W0, hW0⟩ : ∃ x, (w17.alloc (.cells #[.slice (some ⟨ha, 0, none⟩) xa.length ca, .string sa] 26)).alloc (.cells #[.slice (some ⟨hb, 0, none⟩) xb.length db, .string tb] 26) = x := ⟨_, rfl⟩
    rw [hW0] at HE HBh HIh HBx HIx HBm HIm HPg HPr HBk HIk HBu HIu HBv HIv HBa HBb HIa HIb ⊢
    clear hW0
    by_cases hV : V = true
    case neg =>
      obtain ⟨n1, n2⟩ := HNONE.out hV
      have hcd0 : ¬ cd = 0 := fun h => hV (HCDV.out h)
      rw [Bool.not_eq_true] at hV
      subst hV
      subst n1
      have hTX0 : TX = ⟨#[]⟩ := by rw [← HTX.out, n2]; rfl
      subst hTX0
      clear n2 hTT
      obtain ⟨g00, g01, _, _, _⟩ := two_cells HBh.out
      obtain ⟨g10, g11, _, _, _⟩ := two_cells HBx.out
      obtain ⟨g20, g21, _, _, _⟩ := two_cells HBm.out
      obtain ⟨g30, g31, _, _, _⟩ := two_cells HBk.out
      obtain ⟨g40, g41, _, _, _⟩ := two_cells HBu.out
      obtain ⟨g50, g51, _, _, _⟩ := two_cells HBv.out
      obtain ⟨g60, g61, _, _, _⟩ := two_cells HBa.out
      obtain ⟨g70, g71, _, _, _⟩ := two_cells HBb.out
      obtain ⟨α, hne, F, hK⟩ := cls_of W0
      have HK := Lib.hid hK
      have t00 := hK.cell g00
      have t01 := hK.cell g01
      have t10 := hK.cell g10
      have t11 := hK.cell g11
      have t20 := hK.cell g20
      have t21 := hK.cell g21
      have t30 := hK.cell g30
      have t31 := hK.cell g31
      have t40 := hK.cell g40
      have t41 := hK.cell g41
      have t50 := hK.cell g50
      have t51 := hK.cell g51
      have t60 := hK.cell g60
      have t61 := hK.cell g61
      have t70 := hK.cell g70
      have t71 := hK.cell g71
      clear hK g00 g01 g10 g11 g20 g21 g30 g31 g40 g41 g50 g51 g60 g61 g70 g71
      refine wp_region_cls F (by kernel_rfl) lexH HK.out.drew ?_
      dsimp only [List.append]
      repeat (go_big_quiet_step ((first
        | (go_at_call 21; exact HK.out.retE (HGs.out _ _ _ _ _ _ _ _ _ (by first | exact HIh.out.ext (HK.out.ext _) | exact HIx.out.ext (HK.out.ext _) | exact HIm.out.ext (HK.out.ext _) | exact HIk.out.ext (HK.out.ext _) | exact HIu.out.ext (HK.out.ext _) | exact HIv.out.ext (HK.out.ext _) | exact HIa.out.ext (HK.out.ext _) | exact HIb.out.ext (HK.out.ext _)) (by first | exact HIh.out.ext (HK.out.ext _) | exact HIx.out.ext (HK.out.ext _) | exact HIm.out.ext (HK.out.ext _) | exact HIk.out.ext (HK.out.ext _) | exact HIu.out.ext (HK.out.ext _) | exact HIv.out.ext (HK.out.ext _) | exact HIa.out.ext (HK.out.ext _) | exact HIb.out.ext (HK.out.ext _))))
        | (go_at_call 24; exact HK.out.retE (HGi.out _ _ _ _ _ _ _ _ _ (by first | exact HIh.out.ext (HK.out.ext _) | exact HIx.out.ext (HK.out.ext _) | exact HIm.out.ext (HK.out.ext _) | exact HIk.out.ext (HK.out.ext _) | exact HIu.out.ext (HK.out.ext _) | exact HIv.out.ext (HK.out.ext _) | exact HIa.out.ext (HK.out.ext _) | exact HIb.out.ext (HK.out.ext _)) (by first | exact HIh.out.ext (HK.out.ext _) | exact HIx.out.ext (HK.out.ext _) | exact HIm.out.ext (HK.out.ext _) | exact HIk.out.ext (HK.out.ext _) | exact HIu.out.ext (HK.out.ext _) | exact HIv.out.ext (HK.out.ext _) | exact HIa.out.ext (HK.out.ext _) | exact HIb.out.ext (HK.out.ext _))))
        | (go_at_call 22; exact HK.out.retE (l_f6lists _ _ ps.length _ _ ps _ (by have := HPL.out; omega) HPW.out (HPg.out.ext (HK.out.ext _)) (HPr.out.ext (HK.out.ext _))))
        | (go_at_call 23; exact HK.out.retE (HsX.out _ (HIh.out.ext (HK.out.ext _))))
        | (go_at_call 25; exact HK.out.retE (HiV.out _ (HIh.out.ext (HK.out.ext _))))
        | (go_at_call 26; exact HK.out.retE (HsV.out _ (HIh.out.ext (HK.out.ext _)))))))
      refine wpQuiet_nil ?_
      rintro _ ⟨z, rfl⟩
      have eZ := HK.out.ext z
      replace HE := Lib.hid (HE.out.trans eZ)
      replace HBh := Lib.hid (eZ.block HBh.out)
      replace HIh := Lib.hid (HIh.out.ext eZ)
      replace HBx := Lib.hid (eZ.block HBx.out)
      replace HIx := Lib.hid (HIx.out.ext eZ)
      replace HBm := Lib.hid (eZ.block HBm.out)
      replace HIm := Lib.hid (HIm.out.ext eZ)
      replace HPg := Lib.hid (HPg.out.ext eZ)
      replace HPr := Lib.hid (HPr.out.ext eZ)
      replace HBk := Lib.hid (eZ.block HBk.out)
      replace HIk := Lib.hid (HIk.out.ext eZ)
      replace HBu := Lib.hid (eZ.block HBu.out)
      replace HIu := Lib.hid (HIu.out.ext eZ)
      replace HBv := Lib.hid (eZ.block HBv.out)
      replace HIv := Lib.hid (HIv.out.ext eZ)
      replace HBa := Lib.hid (eZ.block HBa.out)
      replace HBb := Lib.hid (eZ.block HBb.out)
      replace HIa := Lib.hid (HIa.out.ext eZ)
      replace HIb := Lib.hid (HIb.out.ext eZ)
      clear t00 t01 t10 t11 t20 t21 t30 t31 t40 t41 t50 t51 t60 t61 t70 t71
      go_wp2
      go_ret
      exact ⟨rfl, HE.out⟩
    case pos =>
      obtain ⟨n1, n2, n3, n4⟩ := HOWN.out hV
      obtain ⟨k4, k12, kl, hc⟩ := HCOR.out hV
      have HC := Lib.hid hc
      have HKL := Lib.hid kl
      clear hc kl HCOR HCDV HNONE
      subst hV
      subst n1
      subst n2
      subst n3
      have hTn : ¬ TX.toList = [] := fun e => n4 (by have h2 := HTX.out; rw [← h2, str_nilE] at e; exact e)
      have hTe : TX.toList.isEmpty = false := by
        cases hh : TX.toList with
        | nil => exact absurd hh hTn
        | cons a l => rfl
      have s3 : ∀ (X : List Int) (T : ByteArray), sameH X X T T = true := fun X T => by simp [sameH]
      clear n4
      obtain ⟨g00, g01, _, _, _⟩ := two_cells HBh.out
      obtain ⟨g10, g11, _, _, _⟩ := two_cells HBx.out
      obtain ⟨g20, g21, _, _, _⟩ := two_cells HBm.out
      obtain ⟨g30, g31, _, _, _⟩ := two_cells HBk.out
      obtain ⟨g40, g41, _, _, _⟩ := two_cells HBu.out
      obtain ⟨g50, g51, _, _, _⟩ := two_cells HBv.out
      obtain ⟨g60, g61, _, _, _⟩ := two_cells HBa.out
      obtain ⟨g70, g71, _, _, _⟩ := two_cells HBb.out
      obtain ⟨α, hne, F, hK⟩ := cls_of W0
      have HK := Lib.hid hK
      have t00 := hK.cell g00
      have t01 := hK.cell g01
      have t10 := hK.cell g10
      have t11 := hK.cell g11
      have t20 := hK.cell g20
      have t21 := hK.cell g21
      have t30 := hK.cell g30
      have t31 := hK.cell g31
      have t40 := hK.cell g40
      have t41 := hK.cell g41
      have t50 := hK.cell g50
      have t51 := hK.cell g51
      have t60 := hK.cell g60
      have t61 := hK.cell g61
      have t70 := hK.cell g70
      have t71 := hK.cell g71
      clear hK g00 g01 g10 g11 g20 g21 g30 g31 g40 g41 g50 g51 g60 g61 g70 g71
      refine wp_region_cls F (by kernel_rfl) lexH HK.out.drew ?_
      dsimp only [List.append]
      repeat (go_big_quiet_step ((first
        | (go_at_call 21; exact HK.out.retE (HGs.out _ _ _ _ _ _ _ _ _ (by first | exact HIh.out.ext (HK.out.ext _) | exact HIx.out.ext (HK.out.ext _) | exact HIm.out.ext (HK.out.ext _) | exact HIk.out.ext (HK.out.ext _) | exact HIu.out.ext (HK.out.ext _) | exact HIv.out.ext (HK.out.ext _) | exact HIa.out.ext (HK.out.ext _) | exact HIb.out.ext (HK.out.ext _)) (by first | exact HIh.out.ext (HK.out.ext _) | exact HIx.out.ext (HK.out.ext _) | exact HIm.out.ext (HK.out.ext _) | exact HIk.out.ext (HK.out.ext _) | exact HIu.out.ext (HK.out.ext _) | exact HIv.out.ext (HK.out.ext _) | exact HIa.out.ext (HK.out.ext _) | exact HIb.out.ext (HK.out.ext _))))
        | (go_at_call 24; exact HK.out.retE (HGi.out _ _ _ _ _ _ _ _ _ (by first | exact HIh.out.ext (HK.out.ext _) | exact HIx.out.ext (HK.out.ext _) | exact HIm.out.ext (HK.out.ext _) | exact HIk.out.ext (HK.out.ext _) | exact HIu.out.ext (HK.out.ext _) | exact HIv.out.ext (HK.out.ext _) | exact HIa.out.ext (HK.out.ext _) | exact HIb.out.ext (HK.out.ext _)) (by first | exact HIh.out.ext (HK.out.ext _) | exact HIx.out.ext (HK.out.ext _) | exact HIm.out.ext (HK.out.ext _) | exact HIk.out.ext (HK.out.ext _) | exact HIu.out.ext (HK.out.ext _) | exact HIv.out.ext (HK.out.ext _) | exact HIa.out.ext (HK.out.ext _) | exact HIb.out.ext (HK.out.ext _))))
        | (go_at_call 22; exact HK.out.retE (l_f6lists _ _ ps.length _ _ ps _ (by have := HPL.out; omega) HPW.out (HPg.out.ext (HK.out.ext _)) (HPr.out.ext (HK.out.ext _))))
        | (go_at_call 23; exact HK.out.retE (HsX.out _ (HIh.out.ext (HK.out.ext _))))
        | (go_at_call 25; exact HK.out.retE (HiV.out _ (HIh.out.ext (HK.out.ext _))))
        | (go_at_call 26; exact HK.out.retE (HsV.out _ (HIh.out.ext (HK.out.ext _)))))))
      refine wpQuiet_nil ?_
      rintro _ ⟨z, rfl⟩
      have eZ := HK.out.ext z
      replace HE := Lib.hid (HE.out.trans eZ)
      replace HBh := Lib.hid (eZ.block HBh.out)
      replace HIh := Lib.hid (HIh.out.ext eZ)
      replace HBx := Lib.hid (eZ.block HBx.out)
      replace HIx := Lib.hid (HIx.out.ext eZ)
      replace HBm := Lib.hid (eZ.block HBm.out)
      replace HIm := Lib.hid (HIm.out.ext eZ)
      replace HPg := Lib.hid (HPg.out.ext eZ)
      replace HPr := Lib.hid (HPr.out.ext eZ)
      replace HBk := Lib.hid (eZ.block HBk.out)
      replace HIk := Lib.hid (HIk.out.ext eZ)
      replace HBu := Lib.hid (eZ.block HBu.out)
      replace HIu := Lib.hid (HIu.out.ext eZ)
      replace HBv := Lib.hid (eZ.block HBv.out)
      replace HIv := Lib.hid (HIv.out.ext eZ)
      replace HBa := Lib.hid (eZ.block HBa.out)
      replace HBb := Lib.hid (eZ.block HBb.out)
      replace HIa := Lib.hid (HIa.out.ext eZ)
      replace HIb := Lib.hid (HIb.out.ext eZ)
      clear t00 t01 t10 t11 t20 t21 t30 t31 t40 t41 t50 t51 t60 t61 t70 t71
      go_upto_region 24 with fail
      obtain ⟨N, hN⟩ : ∃ N, yx.length = N := ⟨_, rfl⟩
      have hkl := HKL.out
      rw [hN] at hkl k4 k12
      have hc := HC.out
      rw [hN] at hc
      replace HC := Lib.hid hc
      rw [hkl] at HPr ⊢
      have hbh := HBh.out
      rw [hN] at hbh
      replace HBh := Lib.hid hbh
      clear hbh
      have HIs := Lib.hid (show Ints (F z) (some ⟨b1, 0, none⟩) N yx from by rw [← hN]; exact HIh.out)
      have HN := Lib.hid hN
      obtain ⟨rg, rfl, hpp⟩ := HPr.out.uni (by omega)
      have HPP := Lib.hid hpp
      clear hN hkl hc hpp HPr HLO HX HTb HEr HMx HPW HPL HDR HDS HRI HRS HTX HRI2 HRS2 HGi HGs s1 s2 s3 HiB HiT HsT HiX HsX HiC HsC HiS HsS HiA HsA HiR HsR HiV HsV hTn hTe hTT HK eZ HBm HIm HPg HBk HIk HBu HIu HBv HIv HBa HIa HBb HIb HIh HKL HN
      go_loopw [35] (fun i wr => ∃ j : Nat, j ≤ N ∧ i = .int .i64 j ∧ Hid (Ext (F z) wr)) (fun i _ => N - (intOf i).toNat)
      case atStart => exact ⟨0, Nat.zero_le _, rfl, Lib.hid (Ext.refl _)⟩
      case round =>
        obtain ⟨j, hj, rfl, HE2⟩ := hrel
        by_cases hlt : j < N
        · have hji : (j : Int) < (N : Int) := by omega
          obtain ⟨gj, d0, d1, d2⟩ := HPP.out j hlt
          obtain ⟨g0, y0, y1, y2⟩ := HPP.out 0 (by omega)
          obtain ⟨p, q, hpj, hqj, bp, bq, hsum, hdd⟩ := HC.out j hlt
          obtain ⟨px, py⟩ := p
          obtain ⟨qx, qy⟩ := q
          dsimp only at bp bq hsum hdd
          rw [hpj] at d1 d2
          dsimp only at d1 d2
          obtain ⟨b', off', he, hs⟩ := HIs.out.2.2.1 j hlt
          simp only [Option.some.injEq, Addr.mk.injEq, and_true] at he
          obtain ⟨rfl, rfl⟩ := he
          rw [Nat.zero_add, ← hsum] at hs
          replace hs := HE2.out.cell hs
          obtain ⟨u0, u1, _, _, _⟩ := two_cells (HE2.out.block HBh.out)
          replace d0 := HE2.out.cell d0
          replace d1 := HE2.out.cell d1
          replace d2 := HE2.out.cell d2
          obtain ⟨dx, hdx⟩ : ∃ d, qx - px = d := ⟨_, rfl⟩
          obtain ⟨dy, hdy⟩ : ∃ d, qy - py = d := ⟨_, rfl⟩
          rw [hdx, hdy] at hs hdd
          have hb1 : -4800 ≤ dx ∧ dx ≤ 4800 := by omega
          have hb2 : -4800 ≤ dy ∧ dy ≤ 4800 := by omega
          obtain ⟨mx, hmx⟩ : ∃ m, max dx (-dx) = m := ⟨_, rfl⟩
          obtain ⟨my, hmy⟩ : ∃ m, max dy (-dy) = m := ⟨_, rfl⟩
          have hb3 : 0 ≤ mx ∧ mx ≤ 4800 := by omega
          have hb4 : 0 ≤ my ∧ my ≤ 4800 := by omega
          rw [hmx, hmy] at hs
          have hT4 : Hid (dx = 0 ∨ (¬ dx = 0 ∧ dy = 0)) := Lib.hid (by
            by_cases h : dx = 0
            · exact .inl h
            · exact .inr ⟨h, hdd.resolve_left h⟩)
          clear hsum hpj hdd
          by_cases hj1 : j + 1 < N
          · rw [if_pos hj1] at hqj
            obtain ⟨gn, m0, m1, m2⟩ := HPP.out (j + 1) hj1
            rw [hqj] at m1 m2
            dsimp only at m1 m2
            replace m0 := HE2.out.cell m0
            replace m1 := HE2.out.cell m1
            replace m2 := HE2.out.cell m2
            replace y0 := HE2.out.cell y0
            have hj1i : (j : Int) + 1 < (N : Int) := by omega
            clear hqj y1 y2
            rcases hT4.out with h4 | ⟨h4, h5⟩
            case' inl =>
              subst h4
              have hm0 : mx = 0 := by rw [← hmx]; decide
              subst hm0
              rw [Int.zero_add] at hs
              clear hT4 hmx hb1 hb3
            case' inr =>
              subst h5
              have hm0 : my = 0 := by rw [← hmy]; decide
              subst hm0
              rw [Int.add_zero] at hs
              have b1' : (dx == 0) = false := by simp [h4]
              have b2' : (dx != 0) = true := by simp [h4]
              clear hT4 hmy hb2 hb4
            all_goals
              go_upto_region 29 with fail
              go_quiet (fail)
              go_wp2
              go_quiet (fail)
              go_wp2
              go_roundw
              case rel => exact ⟨j + 1, by omega, by go_num, by first | exact Lib.hid ((HE2.out.drewN _).drewN _) | exact Lib.hid (HE2.out.drewN _)⟩
              case measure => simp [intOf]; omega
          · rw [if_neg hj1] at hqj
            rw [hqj] at y1 y2
            dsimp only at y1 y2
            replace y0 := HE2.out.cell y0
            replace y1 := HE2.out.cell y1
            replace y2 := HE2.out.cell y2
            have hj1i : ¬ (j : Int) + 1 < (N : Int) := by omega
            clear hqj
            rcases hT4.out with h4 | ⟨h4, h5⟩
            case' inl =>
              subst h4
              have hm0 : mx = 0 := by rw [← hmx]; decide
              subst hm0
              rw [Int.zero_add] at hs
              clear hT4 hmx hb1 hb3
            case' inr =>
              subst h5
              have hm0 : my = 0 := by rw [← hmy]; decide
              subst hm0
              rw [Int.add_zero] at hs
              have b1' : (dx == 0) = false := by simp [h4]
              have b2' : (dx != 0) = true := by simp [h4]
              clear hT4 hmy hb2 hb4
            all_goals
              go_upto_region 29 with fail
              go_quiet (fail)
              go_wp2
              go_quiet (fail)
              go_wp2
              go_roundw
              case rel => exact ⟨j + 1, by omega, by go_num, by first | exact Lib.hid ((HE2.out.drewN _).drewN _) | exact Lib.hid (HE2.out.drewN _)⟩
              case measure => simp [intOf]; omega
        · have hji : ¬ (j : Int) < (N : Int) := by omega
          clear HPP HC HIs
          replace HE := Lib.hid (HE.out.trans HE2.out)
          replace HBx := Lib.hid (HE2.out.block HBx.out)
          replace HIx := Lib.hid (HIx.out.ext HE2.out)
          by_cases h0 : cd = 0
          case neg =>
            have hc1 : (cd == 0) = false := by simp [h0]
            have hc2 : (cd != 0) = true := by simp [h0]
            go_wp2
            go_ret
            exact ⟨rfl, HE.out⟩
          case pos =>
            obtain ⟨t1, t2, t3, t4⟩ := HTURN.out h0
            have e0 : sel true 0 1 = 0 := rfl
            have HA3 : Hid (∀ W, Ints W a2 xr.length xr → Calls Tryz.prog 12 #[.agg #[.slice a2 xr.length c2, .string tr]] W (RetE (.tuple #[.int .i64 A, .int .i64 0]) W)) := Lib.hid (fun W h => by
              have h2 := HiA2.out W a2 c2 h
              rw [t1, t2, e0] at h2
              exact h2)
            have HS3 : Hid (∀ W, Ints W a2 xr.length xr → Calls Tryz.prog 10 #[.agg #[.slice a2 xr.length c2, .string tr]] W (RetE (.tuple #[.bool S, .int .i64 0]) W)) := Lib.hid (fun W h => by
              have h2 := HiS2.out W a2 c2 h
              rw [t1, t3, e0] at h2
              exact h2)
            have HR3 : Hid (∀ W, Ints W a2 xr.length xr → Calls Tryz.prog 14 #[.agg #[.slice a2 xr.length c2, .string tr]] W (RetE (.tuple #[.int .i64 (sel true R 0), .int .i64 0]) W)) := Lib.hid (fun W h => by
              have h2 := HiR2.out W a2 c2 h
              rw [t1, t4, e0] at h2
              exact h2)
            clear e0
            clear t1 t2 t3 t4
            subst h0
            have hSS : (S == S) = true := by simp
            obtain ⟨p00, p01, p02, p03, p04⟩ := two_cells HBx.out
            go_wp2_with fail
            refine (HA3.out _ HIx.out).mono ?_
            rintro e w31 ⟨rfl, e31⟩
            clear p00 p01 p02 p03 p04
            replace HE := Lib.hid (HE.out.trans e31)
            replace HBx := Lib.hid (e31.block HBx.out)
            replace HIx := Lib.hid (HIx.out.ext e31)
            clear e31
            obtain ⟨p00, p01, p02, p03, p04⟩ := two_cells HBx.out
            go_wp2_with fail
            refine (HS3.out _ HIx.out).mono ?_
            rintro e w32 ⟨rfl, e32⟩
            clear p00 p01 p02 p03 p04
            replace HE := Lib.hid (HE.out.trans e32)
            replace HBx := Lib.hid (e32.block HBx.out)
            replace HIx := Lib.hid (HIx.out.ext e32)
            clear e32
            obtain ⟨p00, p01, p02, p03, p04⟩ := two_cells HBx.out
            go_wp2_with fail
            refine (HR3.out _ HIx.out).mono ?_
            rintro e w33 ⟨rfl, e33⟩
            clear p00 p01 p02 p03 p04
            replace HE := Lib.hid (HE.out.trans e33)
            replace HBx := Lib.hid (e33.block HBx.out)
            replace HIx := Lib.hid (HIx.out.ext e33)
            clear e33
            go_wp2
            go_ret
            exact ⟨rfl, HE.out⟩
/-! ### the row's step: written by a program of mine (frame.py) after the guide's own frame -/
namespace fnHouses
open Go.ChangeShapes Go.WideShapes Go.ChangeAt Go.RowKit Go.Joins
open Go.ChangeMaps (open_string shut_string)
set_option linter.unusedVariables false
theorem own : ownKnob Tryz.prog.godebug = none := by kernel_rfl
theorem laidOut : laidOutB Tryz.prog = true := by kernel_rfl
theorem laid_met (os : Os) (args : Array Value) : laidMet Tryz.prog Rows.fnHousesRow.laid ((laidWorld os).forCall (fun _ _ => 0) ⟨#[], args, []⟩).memory :=
  (LaidIn.of_run (l := Rows.fnHousesRow.laid) [6, 7, 1, 5, 3, N0, 2, N0 + 1, 4] 8 (by kernel_rfl) (by kernel_rfl) (by kernel_rfl) (by kernel_rfl)).met
theorem witness_row (os : Os) {H : Type} (enc : TypeId × Value → H) :
    (OpenSpec.ofChange Rows.fnHousesSpec).preRow enc Tryz.prog Tryz.f3 Rows.fnHousesRow.domain false Rows.fnHousesRow.laid ((laidWorld os).forCall (fun _ _ => 0) ⟨#[], #[.slice none 0 0], []⟩).memory #[.slice none 0 0] := by
  have hw : (DataW.whole enc Tryz.prog ((laidWorld os).forCall (fun _ _ => 0) ⟨#[], #[.slice none 0 0], []⟩).memory Tryz.f3.params.toList (OpenSpec.ofChange Rows.fnHousesSpec).vars false (#[.slice none 0 0] : Array Value).toList 8).map (fun x => (x.1, x.2.1)) =
      some ([.nil], []) := by kernel_rfl
  obtain ⟨⟨x1, x2, x3⟩, hx, hx1⟩ := Option.map_eq_some_iff.1 hw
  simp only [Prod.mk.injEq] at hx1
  obtain ⟨rfl, rfl⟩ := hx1
  exact OpenSpec.preRow_of_cond 8 hx (by kernel_rfl) (fun k hk => by cases hk) (by kernel_rfl) (laid_met os _)
set_option maxRecDepth 100000 in
theorem lifted (os : Os) (started : os.Started) (H : Type) (enc : TypeId × Value → H) (F : Stop.Interp) :
    ReturnsInHanded {} Tryz.checked os 3 .any ((OpenSpec.ofChange Rows.fnHousesSpec).preRow enc Tryz.prog Tryz.f3 Rows.fnHousesRow.domain false Rows.fnHousesRow.laid) (((OpenSpec.ofChange Rows.fnHousesSpec).at F).post enc Tryz.prog Tryz.f3 false true false false) := by
  refine returnsInHanded_of_row (C := Tryz.checked) (s := OpenSpec.ofChange Rows.fnHousesSpec) own started (by kernel_rfl) Tryz.func3
    (witness_row_atRef (enc := enc) (C := Tryz.checked) false (laidWorld os) #[.slice none 0 0] rfl (by kernel_rfl) (by kernel_rfl) (by kernel_rfl) (witness_row os enc)) ?_
  intro W base args ds gs before hval0 hW hcnd _ _ hL hsh _
  have hval : ∀ (j : Nat) t v, Tryz.f3.params[j]? = some t → args[j]? = some v → Value.okWide Tryz.prog W .any base t v := hval0
  have hW' := hW
  obtain ⟨p, q, hA0, hV, rfl, hfz, hnd⟩ := hW
  have hA : DataW.TrodAll enc Tryz.prog W 0 (fun _ => true) true Tryz.f3.params.toList args.toList ds p := hA0
  rw [Tryz.params3] at hA hval
  obtain ⟨v0, vs0, d0, ds0, p0, q0, hargs, rfl, rfl, h0, r0⟩ := trodAll_cons hA
  obtain ⟨rfl, rfl, rfl⟩ := trodAll_nil r0
  obtain rfl : args = #[v0] := by cases args; simp_all
  obtain ⟨rfl, rfl⟩ := trodVars_none hV
  have k0 := h0
  have lt0 : ∀ x ∈ p0, x.block < W.heap.size := by obtain ⟨m, hm⟩ := k0; exact DataW.trod_lt m _ _ _ hm
  obtain ⟨b0, l0, c0, rfl⟩ := okWide_slice Tryz.underlying22 (hval 0 22 v0 rfl rfl)
  obtain ⟨z0, w0⟩ := u8x_of_trod Tryz.underlying22 Tryz.underlying5 (by kernel_rfl) h0
  clear hA0 hval0
  have hL0 : laidMet Tryz.prog Rows.fnHousesRow.laid W := hL
  have hTab : TabP W := tab_laid hL0.tail.tail
  have hErr : ErrP W := err_laid hL0.tail.tail.tail.tail.tail
  have hMax : MaxP W := max_shaped hsh
  refine (walk_FnHouses b0 l0 c0 z0 W w0 hTab hErr hMax).mono fun e W' ⟨he, bel⟩ => ?_
  subst he
  exact ⟨_, rfl, _, _, _, [], _, [], hW', trodAll_mk1 (shut_bool Tryz.underlying4 _), (trodAll_cons_mk (Below.trod laidOut (by kernel_rfl) (of_decide_eq_true (by kernel_rfl)) k0 bel lt0) trodAll_mk0), rfl, bel.frame _, fun h => by cases h⟩
theorem over : Rows.fnHousesRow.holds Tryz.pinned (OpenSpec.ofChange Rows.fnHousesSpec) :=
  OpenClaim.holds_of_cond 3 Tryz.f3 rfl rfl rfl rfl rfl rfl rfl ⟨rfl, rfl, rfl, rfl, rfl⟩ rfl rfl rfl rfl rfl (by kernel_rfl) Tryz.func3 (by kernel_rfl)
    (of_decide_eq_true (by kernel_rfl)) (by unfold Func.isWrapper; first | (rw [if_pos (by decide +kernel)]; kernel_rfl) | (rw [if_neg (by decide +kernel)]; exact ⟨rfl, rfl⟩))
    (fun os started H enc _ F0 => by rw [OpenClaim.pre_eq_preRow]; exact lifted os started H enc F0)
theorem proved : Rows.FnHousesCardSaid :=
  Claim7.holds_tied_plain_at .later [] [.data, .data, .data, .data, .sentinel, .sentinel, .pinned] true (true, "872cc376eca4afbcd892dee34ccf7a42213674cf9de79266232e26a590a9f1f3") true
    over (fun _ h => by cases h) (by kernel_rfl) (fun _ h => by cases h) fnHouses_row_tie rfl ⟨rfl, rfl⟩ (by kernel_rfl) rfl
    (fun f fn hf hfn => by
      obtain rfl : f = 3 := Option.some.inj ((show Tryz.prog.funcNamed "loop.example/g01042/laws.FnHouses" = some 3 by kernel_rfl).symm.trans hf) |>.symm
      obtain rfl : fn = Tryz.f3 := (Option.some.inj (Tryz.func3.symm.trans hfn)).symm
      exact ⟨by kernel_rfl, fun j t ht => by
        rw [Tryz.params3] at ht
        have h3 : t = 22 := by
          rcases j with _ | j
          · have e : t = 22 := by simpa using ht.symm
            simp [e]
          · simp at ht
        subst h3
        exact (show Tryz.prog.wantsStandIn 22 = false by kernel_rfl)⟩)
    (by kernel_rfl)
#print axioms proved
end fnHouses
end Go.Proofs.YtaokeaiehjgbnaaGreatDoor
