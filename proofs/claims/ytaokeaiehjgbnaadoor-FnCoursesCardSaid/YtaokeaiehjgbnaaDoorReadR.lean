/- Contracts of the reading of a course's short text, on both sides. -/
import Derived.Test.YtaokeaiehjgbnaaDoorReadM
import Derived.Test.YtaokeaiehjgbnaaDoorRunsI
import Derived.Test.YtaokeaiehjgbnaaDoorWords
import Derived.Test.YtaokeaiehjgbnaaDoorDoor
namespace Go.Proofs.YtaokeaiehjgbnaaDoor
open Go.RowKit
set_option linter.unusedSimpArgs false
set_option linter.unusedVariables false
set_option linter.unnecessarySimpa false

def rrV (o : Option (List UInt8)) : Value := .tuple #[.string (mkS (o.getD [])), .bool o.isSome]
theorem rrV_none {o : Option (List UInt8)} (h : o = none) : rrV o = .tuple #[.string ⟨#[]⟩, .bool false] := by rw [h]; rfl
theorem rrV_some {o : Option (List UInt8)} {l : List UInt8} (h : o = some l) : rrV o = .tuple #[.string (mkS l), .bool true] := by rw [h]; rfl
theorem ext_init {z : ByteArray} {y : List UInt8} {c : UInt8} (h : bts z = y ++ [c]) {m : Nat} (hm : z.size = m + 1) : bts (z.extract 0 m) = y := by
  have hl := congrArg List.length h
  rw [bts_length, List.length_append, List.length_singleton] at hl
  have e : bts (z.extract 0 m) = (bts z).take m := by unfold bts; rw [ByteArray.data_extract, Array.toList_extract, List.extract_eq_take_drop]; rfl
  rw [e, h, List.take_left' (by omega)]
theorem at_last {z : ByteArray} {y : List UInt8} {c : UInt8} (h : bts z = y ++ [c]) {m : Nat} (hm : z.size = m + 1) (hi : m < z.size) : z[m] = c := by
  obtain ⟨h1, h2⟩ := byte_at z m hi
  have hl := congrArg List.length h
  rw [bts_length, List.length_append, List.length_singleton] at hl
  refine h2.symm.trans ?_
  have : (bts z)[m]? = some c := by rw [h, List.getElem?_append_right (by omega), show m - y.length = 0 by omega]; rfl
  rw [List.getElem?_eq_getElem h1] at this
  exact Option.some.inj this
theorem ext_last {z : ByteArray} {y : List UInt8} {c : UInt8} (h : bts z = y ++ [c]) {m : Nat} (hm : z.size = m + 1) : z.extract m z.size = mkS [c] := by
  have hl := congrArg List.length h
  rw [bts_length, List.length_append, List.length_singleton] at hl
  rw [← mkS_bts (z.extract m z.size)]
  congr 1
  have e : bts (z.extract m z.size) = ((bts z).take z.size).drop m := by unfold bts; rw [ByteArray.data_extract, Array.toList_extract, List.extract_eq_take_drop, List.drop_take]
  rw [e, List.take_of_length_le (by rw [bts_length]; exact Nat.le_refl _), h, List.drop_left' (by omega)]
theorem word_at {XS : List (List UInt8)} {k : Nat} (hk : k < XS.length) : bts ((XS.map mkS).getD k ByteArray.empty) = XS.getD k [] := by
  rw [List.getD_eq_getElem?_getD, List.getElem?_map, List.getElem?_eq_getElem hk, List.getD_eq_getElem?_getD, List.getElem?_eq_getElem hk]
  exact bts_mkS _
theorem okW_split {x : List UInt8} (h : x ≠ []) : x = x.dropLast ++ [lastW x] := (word_parts h).symm
set_option maxRecDepth 20000 in
set_option maxHeartbeats 2000000 in
theorem s_ReadRuns (s : ByteArray) (hs : s.size ≤ 2000000) (w : World) : Calls Tryd.prog 19 #[.string s] w (RetE (rrV (rrR (bts s))) w) := by
  have hSP := s_l01Split s 32 32 rfl hs w
  have hne := splL_ne 32 (bts s)
  have hMem := splL_mem 32 (bts s)
  have hNone := fun h => rrR_none (l := bts s) h
  have hSome := fun out h h1 h2 => rrR_some (l := bts s) (out := out) h h1 h2
  have hBad := fun out h h1 => rrR_bad (l := bts s) (out := out) h h1
  unfold splS at hSP
  have hLen := splL_len 32 (bts s)
  obtain ⟨XS, hXS⟩ : ∃ XS, splL 32 (bts s) = XS := ⟨_, rfl⟩
  rw [hXS] at hSP hne hMem hNone hSome hBad hLen
  have HNone := Lib.hid hNone
  have HSome := Lib.hid hSome
  have HBad := Lib.hid hBad
  rw [bts_length] at hMem hLen
  have HMem := Lib.hid hMem
  obtain ⟨n, hn⟩ : ∃ n, (XS.map mkS).length = n := ⟨_, rfl⟩
  have HL : Hid (XS.length = n) := Lib.hid (by rw [← hn, List.length_map])
  have hn0 : 1 ≤ n ∧ n ≤ 2000001 := by have := List.length_pos_iff.2 hne; have := HL.out; omega
  clear hNone hSome hBad hMem hne hXS hLen
  go_enter Tryd.func19, Tryd.ntmps19
  go_wp2_with (go_at_call 36; refine hSP.mono ?_; rintro e w1 ⟨ao, cap, rfl, ho, e1⟩; rw [hn] at ho ⊢; have HS := Lib.hid ho.strs; have HE1 := Lib.hid e1; clear ho e1 hSP hn)
  go_loopw [5, 6] (fun v i wr => ∃ (k : Nat) (acc : List UInt8) (g cap : Nat), k ≤ n ∧ i = .int .i64 k ∧ v = .slice (some ⟨g, 0, none⟩) acc.length cap ∧ acc.length ≤ 60 ∧ Hid (OwnN wr w1.heap.size v acc) ∧ Hid (rrF XS [] = rrF (XS.drop k) acc) ∧ Hid (Ext w1 wr)) (fun _ i _ => n - (intOf i).toNat)
  case atStart => exact ⟨0, [], _, _, Nat.zero_le _, rfl, rfl, Nat.zero_le _, Lib.hid (OwnN.empty (Ext.refl w1)), Lib.hid (by rw [List.drop_zero]), Lib.hid ((Ext.refl w1).alloc _)⟩
  case round =>
    obtain ⟨k, acc, g, cp, hk, rfl, rfl, hacc, HO, HR, HE⟩ := hrel
    by_cases hlt : k < n
    · have hki : (k : Int) < (n : Int) := by omega
      obtain ⟨b, off, rfl, hc⟩ := HS.out.2.2.1 k hlt
      have hc1 := hc
      have hc := HE.out.cell hc
      have hzx := word_at (XS := XS) (k := k) (by rw [HL.out]; exact hlt)
      have HRA := Lib.hid (rr_at (XS := XS) (k := k) (by rw [HL.out]; exact hlt) acc)
      obtain ⟨z, hz⟩ : ∃ z, (XS.map mkS).getD k ByteArray.empty = z := ⟨_, rfl⟩
      rw [hz] at hc hzx hc1
      have HC1 := Lib.hid hc1
      clear hc1
      clear hz
      obtain ⟨x, hx⟩ : ∃ x, XS.getD k [] = x := ⟨_, rfl⟩
      rw [hx] at hzx HRA
      have hxm : x.length ≤ s.size := by
        rw [← hx, List.getD_eq_getElem?_getD, List.getElem?_eq_getElem (by rw [HL.out]; exact hlt)]
        exact HMem.out _ (List.getElem_mem _)
      have hzs : z.size = x.length := by rw [← hzx, bts_length]
      clear hx
      by_cases h2 : x.length < 2
      · have hF : ¬ rrW x acc.length = true := fun h => by
          have h3 := rdB_iff.1 (rrW_iff.1 h).1
          have h4 := magL_len x.dropLast
          rw [List.length_dropLast] at h4
          omega
        have HN : Hid (rrV (rrR (bts s)) = .tuple #[.string ⟨#[]⟩, .bool false]) := Lib.hid (rrV_none (HNone.out (by rw [HR.out, HRA.out, rrF_bad hF])))
        have hz2 : (z.size : Int) < 2 := by omega
        clear hF h2 hzs hxm hzx
        go_wp2
        go_ret2
        exact RetE.mk (by rw [HN.out]; rfl) (HE1.out.trans HE.out)
      · obtain ⟨m, hm⟩ : ∃ m, z.size = m + 1 := ⟨z.size - 1, by omega⟩
        have hxn : x ≠ [] := fun e => h2 (by rw [e]; decide)
        have hzy := hzx.trans (okW_split hxn)
        have HZY := Lib.hid (ext_init hzy hm)
        have hmlt : m < z.size := by omega
        have HZL := Lib.hid (at_last hzy hm hmlt)
        have HM := Lib.hid hm
        have hz2 : ¬ (z.size : Int) < 2 := by omega
        have hzb : z.size ≤ 2000000 := by omega
        have HNum := Lib.hid (fun t (ht : bts t = x.dropLast) (hl : t.size ≤ 9223372036854775807) W => by have := s_l01Number t hl W; unfold RetNum at this; rw [ht] at this; exact this)
        clear hzs hm h2 hzx hzy hxn hxm
        go_wp2_with fail
        refine (HNum.out _ (by rw [show z.size - 1 = m by have := HM.out; omega]; exact HZY.out) (by rw [ByteArray.size_extract]; omega) _).mono ?_
        rintro e w2 ⟨rfl, e2⟩
        have hc := e2.cell hc
        have HO2 := Lib.hid (HO.out.ext e2)
        have HE2 := Lib.hid (HE.out.trans e2)
        rw [show (z.size : Int) - 1 = (m : Int) by have := HM.out; omega]
        clear e2 HO HE HNum HZY hz2
        have hbr : okW x = rdB x.dropLast := rfl
        cases hb : rdB x.dropLast with
        | false =>
          have HN : Hid (rrV (rrR (bts s)) = .tuple #[.string ⟨#[]⟩, .bool false]) := Lib.hid (rrV_none (HNone.out (by rw [HR.out, HRA.out, rrF_bad (fun h => by have := (rrW_iff.1 h).1; rw [hbr, hb] at this; cases this)])))
          clear hb hbr
          go_wp2
          go_ret2
          exact RetE.mk (by rw [HN.out]; rfl) (HE1.out.trans HE2.out)
        | true =>
          obtain ⟨v, hv⟩ : ∃ v, rdN x.dropLast = v := ⟨_, rfl⟩
          have hvw : valW x = v := by rw [← hv, rdN_t hb]; rfl
          rw [hv]
          have hbo : okW x = true := by rw [hbr, hb]
          clear hb hbr hv
          cases hin : inB v 1 60 with
          | false =>
            have HN : Hid (rrV (rrR (bts s)) = .tuple #[.string ⟨#[]⟩, .bool false]) := Lib.hid (rrV_none (HNone.out (by rw [HR.out, HRA.out, rrF_bad (fun h => by have h2 := rrW_iff.1 h; rw [hvw] at h2; have h3 := inB_iff.2 ⟨h2.2.1, h2.2.2.1⟩; rw [hin] at h3; cases h3)])))
            have HI := Lib.hid (fun W => by have := s_l00In v 1 60 W; rwa [hin] at this)
            clear hin hvw
            go_wp2_with (go_at_call 45; refine (HI.out _).mono ?_; rintro e w' ⟨rfl, rfl⟩)
            go_ret2
            exact RetE.mk (by rw [HN.out]; rfl) (HE1.out.trans HE2.out)
          | true =>
            have hvb := inB_iff.1 hin
            obtain ⟨N, rfl⟩ := Int.eq_ofNat_of_zero_le (show 0 ≤ v by omega)
            have HI := Lib.hid (fun W => by have := s_l00In (N : Int) 1 60 W; rwa [hin] at this)
            have HVW := Lib.hid hvw
            have hN60 : N ≤ 60 ∧ 1 ≤ N := by omega
            clear hin hvw hvb
            go_wp2_with (go_at_call 45; refine (HI.out _).mono ?_; rintro e w' ⟨rfl, rfl⟩)
            go_loopw [5, 10] (fun q i wr => ∃ (j : Nat) (l : List UInt8) (g cp : Nat), j ≤ N ∧ i = .int .i64 j ∧ q = .slice (some ⟨g, 0, none⟩) l.length cp ∧ l.length ≤ 120 ∧ Hid (l = acc ++ List.replicate j (lastW x)) ∧ Hid (OwnN wr w1.heap.size q l) ∧ Hid (Ext w1 wr)) (fun _ i _ => N - (intOf i).toNat)
            case atStart => exact ⟨0, acc, _, _, Nat.zero_le _, rfl, rfl, by omega, Lib.hid (by rw [List.replicate_zero, List.append_nil]), HO2, HE2⟩
            case round =>
              obtain ⟨j, l, g, cp, hj, rfl, rfl, hl, HLL, HO, HE⟩ := hrel
              by_cases hjl : j < N
              · have hji : (j : Int) < (N : Int) := by omega
                have hc := HE.out.cell HC1.out
                have HLN : Hid (l ++ [lastW x] = acc ++ List.replicate (j + 1) (lastW x)) := Lib.hid (by rw [HLL.out, List.append_assoc, List.replicate_succ'])
                have HLS : Hid ((l ++ [lastW x]).length ≤ 120) := Lib.hid (by rw [HLN.out, List.length_append, List.length_replicate]; omega)
                go_wp2_with (at_builtin; refine wpList_append_u8 (W := w1) rfl _ _ rfl _ l (lastW x) rfl (by rw [← HZL.out]) rfl HO.out.1 HE.out (by omega) ?_; intro v' w4 ho4 e4; have HO4 := Lib.hid (OwnN.of ho4 (by simp)); have HE4 := Lib.hid e4; clear ho4 e4)
                obtain ⟨g4, cp4, rfl⟩ := HO4.out.2
                go_roundw
                case rel => exact ⟨j + 1, l ++ [lastW x], g4, cp4, by omega, by go_num, rfl, HLS.out, HLN, HO4, HE4⟩
                case measure => simp [intOf]; omega
              · have hji : ¬ (j : Int) < (N : Int) := by omega
                have hjN : j = N := by omega
                subst hjN
                have HLL2 : Hid (l.length = acc.length + j) := Lib.hid (by rw [HLL.out, List.length_append, List.length_replicate])
                by_cases h60 : acc.length + j ≤ 60
                · have hl60 : ¬ (60 : Int) < (l.length : Int) := by have := HLL2.out; omega
                  have hl6 : l.length ≤ 60 := by omega
                  have HRN : Hid (rrF XS [] = rrF (XS.drop (k + 1)) l) := Lib.hid (by
                    rw [HR.out, HRA.out, rrF_good (rrW_iff.2 ⟨hbo, by rw [HVW.out]; omega, by rw [HVW.out]; omega, by rw [HVW.out]; omega⟩), HVW.out, HLL.out]; rfl)
                  clear h60
                  go_wp2
                  go_roundw
                  case rel => exact ⟨k + 1, l, g, cp, by omega, by go_num, rfl, hl6, HO, HRN, HE⟩
                  case measure => simp [intOf]; omega
                · have hl60 : (60 : Int) < (l.length : Int) := by have := HLL2.out; omega
                  have HN : Hid (rrV (rrR (bts s)) = .tuple #[.string ⟨#[]⟩, .bool false]) := Lib.hid (rrV_none (HNone.out (by rw [HR.out, HRA.out, rrF_bad (fun h => by have h2 := (rrW_iff.1 h).2.2.2; rw [HVW.out] at h2; omega)])))
                  clear h60
                  go_wp2
                  go_ret2
                  exact RetE.mk (by rw [HN.out]; rfl) (HE1.out.trans HE.out)
    · have HFin : Hid (rrF XS [] = some acc) := Lib.hid (by rw [HR.out, List.drop_eq_nil_of_le (by rw [HL.out]; omega)]; rfl)
      have hacn : acc ≠ [] := by
        intro e
        have := rrF_ge _ _ _ HFin.out
        rw [e, HL.out] at this
        simp at this
        omega
      have htx := HO.out.text hacn
      obtain ⟨ll, hll⟩ : ∃ x, acc.length = x := ⟨_, rfl⟩
      rw [hll] at htx hacc
      rw [hll]
      have hzs := mkS_size acc
      have hzb := bts_mkS acc
      have HRN := Lib.hid (fun h1 h2 => rrV_some (HSome.out acc HFin.out h1 h2))
      have HRB := Lib.hid (fun h1 => rrV_none (HBad.out acc HFin.out h1))
      obtain ⟨z, hz⟩ : ∃ z, mkS acc = z := ⟨_, rfl⟩
      rw [hz] at htx hzs hzb HRN
      have hz60 : z.size ≤ 60 := by rw [hzs, hll]; exact hacc
      have HOk := Lib.hid (fun W => s_l06Ok z (by omega) W)
      have HRu := Lib.hid (fun W => s_l06Runs z hz60 W)
      rw [hzb] at HOk HRu
      have hki : ¬ (k : Int) < (n : Int) := by omega
      clear hz hzs hll hacn hzb
      cases hv : validC acc with
      | false =>
        have HN := Lib.hid (HRB.out (fun h => by rw [hv] at h; exact Bool.noConfusion h.1))
        rw [hv] at HOk
        clear hv
        go_wp2_with (go_at_call 42; refine (HOk.out _).mono ?_; rintro e w' ⟨rfl, rfl⟩)
        go_ret2
        exact RetE.mk (by rw [HN.out]; rfl) (HE1.out.trans HE.out)
      | true =>
        rw [hv] at HOk
        by_cases he : Lib.join (runs acc) [32] = bts s
        · have HN := Lib.hid (HRN.out hv he)
          have hes : mkS (Lib.join (runs acc) [32]) = s := by rw [he, mkS_bts]
          rw [hes] at HRu
          clear hv he hes
          go_wp2_with (first | (go_at_call 42; refine (HOk.out _).mono ?_; rintro e w' ⟨rfl, rfl⟩) | (go_at_call 43; refine (HRu.out _).mono ?_; rintro e w5 ⟨rfl, e5⟩; have HE5 := Lib.hid e5; clear e5))
          go_ret2
          exact RetE.mk (by rw [HN.out]; rfl) ((HE1.out.trans HE.out).trans HE5.out)
        · have HN := Lib.hid (HRB.out (fun h => he h.2))
          obtain ⟨t, ht⟩ : ∃ t, mkS (Lib.join (runs acc) [32]) = t := ⟨_, rfl⟩
          have hne : (t.toList == s.toList) = false := toList_ne (fun e => he (by rw [← e, ← ht, bts_mkS]))
          rw [ht] at HRu
          clear hv he ht
          go_wp2_with (first | (go_at_call 42; refine (HOk.out _).mono ?_; rintro e w' ⟨rfl, rfl⟩) | (go_at_call 43; refine (HRu.out _).mono ?_; rintro e w5 ⟨rfl, e5⟩; have HE5 := Lib.hid e5; clear e5))
          go_ret2
          exact RetE.mk (by rw [HN.out]; rfl) ((HE1.out.trans HE.out).trans HE5.out)
theorem rr_rep (c : UInt8) (n : Nat) : (⟨(Lib.repeatL (mkS [c]).data.toList n).toArray⟩ : ByteArray) = mkS (List.replicate n c) := by
  have h := Lib.repeatL_replicate c 1 n
  rw [Nat.mul_one] at h
  show (⟨(Lib.repeatL [c] n).toArray⟩ : ByteArray) = _
  rw [show ([c] : List UInt8) = List.replicate 1 c from rfl, h]
  rfl
theorem rdB_nil : rdB [] = false := by rw [← Bool.not_eq_true, rdB_iff]; intro h; exact absurd h.1 (by simp [magL])
set_option maxRecDepth 20000 in
set_option maxHeartbeats 2000000 in
theorem i_ReadRuns (s : ByteArray) (hs : s.size ≤ 2000000) (w : World) (hT : TabP w) (hE : ErrP w) (hMx : MaxP w) : Calls Tryd.prog 20 #[.string s] w (RetE (rrV (rrR (bts s))) w) := by
  have hSP := f_Split s hs w hMx
  have hne := splL_ne 32 (bts s)
  have hMem := splL_mem 32 (bts s)
  have hNone := fun h => rrR_none (l := bts s) h
  have hSome := fun out h h1 h2 => rrR_some (l := bts s) (out := out) h h1 h2
  have hBad := fun out h h1 => rrR_bad (l := bts s) (out := out) h h1
  have hNe := fun out h => rr_ne (l := bts s) (out := out) h
  have hLen := splL_len 32 (bts s)
  obtain ⟨XS, hXS⟩ : ∃ XS, splL 32 (bts s) = XS := ⟨_, rfl⟩
  rw [hXS] at hSP hne hMem hNone hSome hBad hLen hNe
  have HNone := Lib.hid hNone
  have HSome := Lib.hid hSome
  have HBad := Lib.hid hBad
  have HNe := Lib.hid hNe
  have HT := Lib.hid hT
  have HE := Lib.hid hE
  rw [bts_length] at hMem hLen
  have HMem := Lib.hid hMem
  obtain ⟨n, hn⟩ : ∃ n, (XS.map mkS).length = n := ⟨_, rfl⟩
  have HL : Hid (XS.length = n) := Lib.hid (by rw [← hn, List.length_map])
  have hn0 : 1 ≤ n ∧ n ≤ 2000001 := by have := List.length_pos_iff.2 hne; have := HL.out; omega
  clear hNone hSome hBad hMem hne hXS hLen hNe hT hE hMx
  go_enter Tryd.func20, Tryd.ntmps20
  go_wp2_with (go_at_call 46; refine hSP.mono ?_; rintro e w1 ⟨gb, cap, _, rfl, ho, e1⟩; rw [hn] at ho ⊢; have HS := Lib.hid ho; have HE1 := Lib.hid e1; clear ho e1 hSP hn)
  go_loopw [4, 13] (fun v i wr => ∃ (k : Nat) (acc : List UInt8), k ≤ n ∧ i = .int .i64 k ∧ v = .string (mkS acc) ∧ acc.length ≤ 60 ∧ Hid (rrF XS [] = rrF (XS.drop k) acc) ∧ Hid (Ext w1 wr)) (fun _ i _ => n - (intOf i).toNat)
  case atStart => exact ⟨0, [], Nat.zero_le _, rfl, rfl, Nat.zero_le _, Lib.hid (by rw [List.drop_zero]), Lib.hid (Ext.refl w1)⟩
  case round =>
    obtain ⟨k, acc, hk, rfl, rfl, hacc, HR, HX⟩ := hrel
    by_cases hlt : k < n
    · have hki : (k : Int) < (n : Int) := by omega
      obtain ⟨b, off, hbo1, hc⟩ := HS.out.2.2.1 k hlt
      simp only [Option.some.injEq, Addr.mk.injEq, and_true] at hbo1
      obtain ⟨rfl, rfl⟩ := hbo1
      rw [Nat.zero_add] at hc
      have hc := HX.out.cell hc
      have hzx := word_at (XS := XS) (k := k) (by rw [HL.out]; exact hlt)
      have HRA := Lib.hid (rr_at (XS := XS) (k := k) (by rw [HL.out]; exact hlt) acc)
      obtain ⟨z, hz⟩ : ∃ z, (XS.map mkS).getD k ByteArray.empty = z := ⟨_, rfl⟩
      rw [hz] at hc hzx
      clear hz
      obtain ⟨x, hx⟩ : ∃ x, XS.getD k [] = x := ⟨_, rfl⟩
      rw [hx] at hzx HRA
      have hxm : x.length ≤ s.size := by
        rw [← hx, List.getD_eq_getElem?_getD, List.getElem?_eq_getElem (by rw [HL.out]; exact hlt)]
        exact HMem.out _ (List.getElem_mem _)
      have hzs : z.size = x.length := by rw [← hzx, bts_length]
      clear hx
      have HNum := Lib.hid (fun t (ht : bts t = x.dropLast) (hl : t.size ≤ 9223372036854775807) W (e : Ext w1 W) => by have := i_ReadDecimal t hl W (HT.out.ext (HE1.out.trans e)) (HE.out.ext (HE1.out.trans e)); unfold RetNum at this; rw [ht] at this; exact this)
      have hzb : z.size ≤ 2000000 := by omega
      by_cases hx0 : x = []
      · subst hx0
        have hF : ¬ rrW [] acc.length = true := fun h => okW_ne (rrW_iff.1 h).1 rfl
        have HN : Hid (rrV (rrR (bts s)) = .tuple #[.string ⟨#[]⟩, .bool false]) := Lib.hid (rrV_none (HNone.out (by rw [HR.out, HRA.out, rrF_bad hF])))
        have hz0 : z = ⟨#[]⟩ := by have := congrArg mkS hzx; rwa [mkS_bts] at this
        subst hz0
        have HNum2 := Lib.hid (fun t (ht : bts t = []) hl W e => by have := HNum.out t ht hl W e; rwa [show ([] : List UInt8).dropLast = [] from rfl, rdB_nil] at this)
        clear hF hzs hxm hzx HNum hzb
        go_wp2_with (go_at_call 39; refine (HNum2.out _ (by first | rfl | decide) (by first | decide | simp) _ HX.out).mono ?_; rintro e w2 ⟨rfl, e2⟩; have HX2 := Lib.hid (HX.out.trans e2); clear e2)
        go_ret2
        exact RetE.mk (by rw [HN.out]; rfl) (HE1.out.trans HX2.out)
      · obtain ⟨m, hm⟩ : ∃ m, z.size = m + 1 := ⟨z.size - 1, by have := List.length_pos_iff.2 hx0; omega⟩
        have hzy := hzx.trans (okW_split hx0)
        have HZY := Lib.hid (ext_init hzy hm)
        have HZL := Lib.hid (ext_last hzy hm)
        have hmx : max ((z.size : Int) - 1) 0 = (m : Int) := by omega
        have HM := Lib.hid hm
        have hmz : (m : Int) ≤ (z.size : Int) := by omega
        have hwz : IntKind.i64.wrap ((z.size : Int) - 1) = (z.size : Int) - 1 := wrap_in _ (by omega) (by omega)
        have hza := mkS_size acc
        have HV1 := Lib.hid (fun l => mkS_app acc l)
        obtain ⟨za, hzae⟩ : ∃ za, mkS acc = za := ⟨_, rfl⟩
        rw [hzae] at hza HV1 ⊢
        have HZA := Lib.hid hza
        have hza60 : za.size ≤ 60 := by omega
        clear hzs hm hzx hzy hx0 hxm hza hzae
        go_wp2_with fail
        refine (HNum.out _ HZY.out (by rw [ByteArray.size_extract]; omega) _ HX.out).mono ?_
        rintro e w2 ⟨rfl, e2⟩
        have HX2 := Lib.hid (HX.out.trans e2)
        clear e2 HNum HZY hmx hwz
        have hbr : okW x = rdB x.dropLast := rfl
        cases hb : rdB x.dropLast with
        | false =>
          have HN : Hid (rrV (rrR (bts s)) = .tuple #[.string ⟨#[]⟩, .bool false]) := Lib.hid (rrV_none (HNone.out (by rw [HR.out, HRA.out, rrF_bad (fun h => by have := (rrW_iff.1 h).1; rw [hbr, hb] at this; cases this)])))
          clear hb hbr
          go_wp2
          go_ret2
          exact RetE.mk (by rw [HN.out]; rfl) (HE1.out.trans HX2.out)
        | true =>
          obtain ⟨v, hv⟩ : ∃ v, rdN x.dropLast = v := ⟨_, rfl⟩
          have hvw : valW x = v := by rw [← hv, rdN_t hb]; rfl
          rw [hv]
          have hbo : okW x = true := by rw [hbr, hb]
          clear hb hbr hv
          cases hin : inB v 1 60 with
          | false =>
            have HN : Hid (rrV (rrR (bts s)) = .tuple #[.string ⟨#[]⟩, .bool false]) := Lib.hid (rrV_none (HNone.out (by rw [HR.out, HRA.out, rrF_bad (fun h => by have h2 := rrW_iff.1 h; rw [hvw] at h2; have h3 := inB_iff.2 ⟨h2.2.1, h2.2.2.1⟩; rw [hin] at h3; cases h3)])))
            have HI := Lib.hid (fun W => by have := i_within v 1 60 W; rwa [hin] at this)
            clear hin hvw
            go_wp2_with (go_at_call 47; refine (HI.out _).mono ?_; rintro e w' ⟨rfl, rfl⟩)
            go_ret2
            exact RetE.mk (by rw [HN.out]; rfl) (HE1.out.trans HX2.out)
          | true =>
            have hvb := inB_iff.1 hin
            obtain ⟨N, rfl⟩ := Int.eq_ofNat_of_zero_le (show 0 ≤ v by omega)
            have HI := Lib.hid (fun W => by have := i_within (N : Int) 1 60 W; rwa [hin] at this)
            have HVW := Lib.hid hvw
            have hN60 : N ≤ 60 ∧ 1 ≤ N := by omega
            have hws : IntKind.i64.wrap ((za.size : Int) + (N : Int)) = (za.size : Int) + (N : Int) := wrap_in _ (by omega) (by omega)
            clear hin hvw hvb
            by_cases h60 : acc.length + N ≤ 60
            · have h6 : ¬ (60 : Int) < (za.size : Int) + (N : Int) := by have := HZA.out; omega
              have hrs := mkS_size (List.replicate N (lastW x))
              rw [List.length_replicate] at hrs
              have hRep := fun t (ht : t = mkS [lastW x]) W => (Tryd.strings_Repeat t N W (by omega) (by rw [ht, mkS_size]; simp; omega) : Calls Tryd.prog 48 #[.string t, .int .i64 N] W _)
              have hRep2 : ∀ t (ht : t = mkS [lastW x]) W, Calls Tryd.prog 48 #[.string t, .int .i64 N] W (RetE (.string (mkS (List.replicate N (lastW x)))) W) := fun t ht W => (hRep t ht W).mono (by rintro e w' ⟨rfl, e1⟩; subst ht; exact ⟨by rw [rr_rep], e1⟩)
              have HRN : Hid (rrF XS [] = rrF (XS.drop (k + 1)) (acc ++ List.replicate N (lastW x))) := Lib.hid (by
                rw [HR.out, HRA.out, rrF_good (rrW_iff.2 ⟨hbo, by rw [HVW.out]; omega, by rw [HVW.out]; omega, by rw [HVW.out]; omega⟩), HVW.out]; rfl)
              have HV := Lib.hid (HV1.out (List.replicate N (lastW x)))
              have HLN : Hid ((acc ++ List.replicate N (lastW x)).length ≤ 60) := Lib.hid (by rw [List.length_append, List.length_replicate]; omega)
              obtain ⟨zr, hzr⟩ : ∃ zr, mkS (List.replicate N (lastW x)) = zr := ⟨_, rfl⟩
              rw [hzr] at hRep2 HV hrs
              have HRep := Lib.hid hRep2
              have hz3 : ¬ (9223372036854775807 < za.size + zr.size) := by omega
              clear hRep hRep2 hzr hrs h60 HV1
              go_wp2_with (first | (go_at_call 47; refine (HI.out _).mono ?_; rintro e w' ⟨rfl, rfl⟩) | (go_at_call 48; refine (HRep.out _ HZL.out _).mono ?_; rintro e w3 ⟨rfl, e3⟩; have HX3 := Lib.hid (HX2.out.trans e3); clear e3))
              go_roundw
              case rel => exact ⟨k + 1, acc ++ List.replicate N (lastW x), by omega, by go_num, by rw [← HV.out], HLN.out, HRN, HX3⟩
              case measure => simp [intOf]; omega
            · have h6 : (60 : Int) < (za.size : Int) + (N : Int) := by have := HZA.out; omega
              have HN : Hid (rrV (rrR (bts s)) = .tuple #[.string ⟨#[]⟩, .bool false]) := Lib.hid (rrV_none (HNone.out (by rw [HR.out, HRA.out, rrF_bad (fun h => by have h2 := (rrW_iff.1 h).2.2.2; rw [HVW.out] at h2; omega)])))
              clear h60
              go_wp2_with (go_at_call 47; refine (HI.out _).mono ?_; rintro e w' ⟨rfl, rfl⟩)
              go_ret2
              exact RetE.mk (by rw [HN.out]; rfl) (HE1.out.trans HX2.out)
    · have HFin : Hid (rrF XS [] = some acc) := Lib.hid (by rw [HR.out, List.drop_eq_nil_of_le (by rw [HL.out]; omega)]; rfl)
      have hki : ¬ (k : Int) < (n : Int) := by omega
      have hzb := bts_mkS acc
      have hzs := mkS_size acc
      have HRN := Lib.hid (fun h1 h2 => rrV_some (HSome.out acc HFin.out h1 h2))
      have HRB := Lib.hid (fun h1 => rrV_none (HBad.out acc HFin.out h1))
      have hnes := HNe.out acc HFin.out
      obtain ⟨z, hz⟩ : ∃ z, mkS acc = z := ⟨_, rfl⟩
      rw [hz] at hzb hzs HRN ⊢
      have HRu := Lib.hid (fun W => i_CourseRuns z (by omega) W)
      rw [hzb] at HRu
      clear hz hzs hzb
      by_cases he : validC acc = true ∧ Lib.join (runs acc) [32] = bts s
      · have HN := Lib.hid (HRN.out he.1 he.2)
        have hes : mkS (crun acc) = s := by rw [crun_t he.1, he.2, mkS_bts]
        rw [hes] at HRu
        clear he hes hnes
        go_wp2_with (go_at_call 18; refine (HRu.out _).mono ?_; rintro e w5 ⟨rfl, e5⟩; have HE5 := Lib.hid e5; clear e5)
        go_ret2
        exact RetE.mk (by rw [HN.out]; rfl) ((HE1.out.trans HX.out).trans HE5.out)
      · have HN := Lib.hid (HRB.out he)
        obtain ⟨t, ht⟩ : ∃ t, mkS (crun acc) = t := ⟨_, rfl⟩
        have hne : (t.toList == s.toList) = false := toList_ne (fun e => by
          have h1 : crun acc = bts s := by rw [← e, ← ht, bts_mkS]
          by_cases hv : validC acc = true
          · exact he ⟨hv, by rw [← h1, crun_t hv]⟩
          · rw [crun_f hv] at h1; exact hnes h1.symm)
        rw [ht] at HRu
        clear he ht hnes
        go_wp2_with (go_at_call 18; refine (HRu.out _).mono ?_; rintro e w5 ⟨rfl, e5⟩; have HE5 := Lib.hid e5; clear e5)
        go_ret2
        exact RetE.mk (by rw [HN.out]; rfl) ((HE1.out.trans HX.out).trans HE5.out)
end Go.Proofs.YtaokeaiehjgbnaaDoor
