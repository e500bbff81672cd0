/- Contracts of the reading of a number in decimal, on both sides. -/
import Derived.Test.YtdedamamjkpcpaaGreatDoorDec
import Derived.Test.YtdedamamjkpcpaaGreatDoorShDecA
import Derived.Test.YtdedamamjkpcpaaGreatDoorShDecB
import Derived.Lib.AppendIntMem
import Derived.Lib.SmallJoins
namespace Go.Proofs.YtdedamamjkpcpaaGreatDoor
open Go.RowKit
set_option linter.unusedSimpArgs false
set_option linter.unusedVariables false
set_option linter.unnecessarySimpa false

/-- the table of the powers of ten is as Go's library lays it -/
def TabP (w : World) : Prop := Lib.TabIs Tryz.prog w "internal/strconv.uint64pow10" .u64 Lib.pow10Tab
/-- the library's error for a bad text is there -/
def ErrP (w : World) : Prop := ∃ tp p, w.var? Tryz.prog "strconv.ErrSyntax" = some #[.iface tp p]
theorem i_Decimal (n : Int) (hn : IsI64 n) (w : World) (hT : TabP w) : Calls Tryz.prog 49 #[.int .i64 n] w (RetE (.string (decS n)) w) := by
  have hn' : -9223372036854775808 ≤ n ∧ n ≤ 9223372036854775807 := hn
  have HC := Lib.hid (Tryz.strconv_FormatInt_10 n hn'.1 hn'.2 w hT)
  clear hn hn' hT
  go_enter Tryz.func49, Tryz.ntmps49
  go_wp2_with (go_at_call 66; refine HC.out.mono ?_; rintro e w' ⟨rfl, k, os, rfl⟩)
  go_ret
  exact RetE.mk rfl (Lib.below_grow _ _ (Nat.le_refl _) _ _)
theorem i_Decimal_small (k : Nat) (hk : k < 100) (w : World) : Calls Tryz.prog 49 #[.int .i64 k] w (RetV (.string (decS k)) w) := by
  have HC := Lib.hid (Tryz.strconv_FormatInt_10_small k hk w)
  have HR : Hid (decS (k : Int) = ⟨(Lib.decDigits k).toArray⟩) := Lib.hid (by unfold decS; rw [Lib.itoa_nonneg]; rfl)
  clear hk
  go_enter Tryz.func49, Tryz.ntmps49
  go_wp2_with (go_at_call 66; refine HC.out.mono ?_; rintro e w' ⟨rfl, rfl⟩)
  go_ret
  exact RetV.mk (by rw [HR.out]; rfl)
theorem s_l01Digit (b : UInt8) (w : World) : Calls Tryz.prog 73 #[.int .u8 (b.toNat : Int)] w (RetV (.bool (isDg b)) w) := by
  have HR : Hid (isDg b = (decide (48 ≤ b.toNat) && decide (b.toNat ≤ 57))) := Lib.hid rfl
  by_cases h1 : (48 : Int) ≤ b.toNat
  · by_cases h2 : (b.toNat : Int) ≤ 57
    · go_enter Tryz.func73, Tryz.ntmps73
      go_wp2
      go_ret
      exact RetV.mk (by rw [HR.out]; simp; omega)
    · go_enter Tryz.func73, Tryz.ntmps73
      go_wp2
      go_ret
      exact RetV.mk (by rw [HR.out]; simp; omega)
  · go_enter Tryz.func73, Tryz.ntmps73
    go_wp2
    go_ret
    exact RetV.mk (by rw [HR.out]; simp; omega)
theorem ErrP.ext {w w' : World} (h : ErrP w) (e : Ext w w') : ErrP w' := by
  obtain ⟨tp, p, h⟩ := h
  exact ⟨tp, p, Joins.var_stays (g := 2) (by kernel_rfl) h e (Nat.le_refl _)⟩
theorem TabP.ext {w w' : World} (h : TabP w) (e : Ext w w') : TabP w' := Joins.tab_stays (g := 1) (by kernel_rfl) h e (Nat.le_refl _)
/-- the number of a text, 0 for none -/
def rdN (s : List UInt8) : Int := if rdB s then rdV s else 0
theorem rdN_t {s : List UInt8} (h : rdB s = true) : rdN s = rdV s := by unfold rdN; rw [if_pos h]
theorem rdN_f {s : List UInt8} (h : rdB s = false) : rdN s = 0 := by unfold rdN; rw [h]; rfl
theorem rdB_f {s : List UInt8} (h : ¬ (1 ≤ (magL s).length ∧ (magL s).length ≤ 18 ∧ (magL s).all isDg = true ∧ Lib.itoa (rdV s) = s)) : rdB s = false := by
  rw [← Bool.not_eq_true]; exact fun e => h (rdB_iff.1 e)
def RetNum (s : ByteArray) (w : World) (e : Ending) (w' : World) : Prop := e = .returned (.tuple #[.int .i64 (rdN (bts s)), .bool (rdB (bts s))]) ∧ Ext w w'
theorem RetNum.bad {s : ByteArray} {w w' : World} (h : rdB (bts s) = false) (e : Ext w w') : RetNum s w (.returned (.tuple #[.int .i64 0, .bool false])) w' := ⟨by rw [rdN_f h, h], e⟩
theorem RetNum.good {s : ByteArray} {w w' : World} {v : Int} (h : rdB (bts s) = true) (hv : rdV (bts s) = v) (e : Ext w w') : RetNum s w (.returned (.tuple #[.int .i64 v, .bool true])) w' := ⟨by rw [rdN_t h, h, hv], e⟩
theorem mem_at (s : ByteArray) (k : Nat) (h : k < s.size) : s[k] ∈ bts s := by
  obtain ⟨h1, h2⟩ := byte_at s k h
  have h3 := List.getElem_mem h1
  rw [h2] at h3
  exact h3
theorem cons_at (s : ByteArray) (h : 0 < s.size) : bts s = s[0] :: (bts s).drop 1 := by
  obtain ⟨h1, h2⟩ := byte_at s 0 h
  have := List.drop_eq_getElem_cons h1
  rw [h2] at this
  rw [List.drop_zero] at this
  exact this
theorem bts_extract2 (s : ByteArray) (i : Nat) : bts (s.extract i s.size) = (bts s).drop i := by
  unfold bts
  rw [ByteArray.data_extract, Array.toList_extract, List.extract_eq_take_drop, List.take_of_length_le (by rw [List.length_drop]; exact Nat.le_refl _)]
set_option maxRecDepth 20000 in
set_option maxHeartbeats 1600000 in
theorem s_l01Number (s : ByteArray) (hs : s.size ≤ 9223372036854775807) (w : World) : Calls Tryz.prog 57 #[.string s] w (RetNum s w) := by
  by_cases h0 : s.size = 0
  · have hse : s = ⟨#[]⟩ := by
      have h1 : bts s = [] := List.eq_nil_of_length_eq_zero (by rw [bts_length]; exact h0)
      rw [← mkS_bts s, h1]; rfl
    subst hse
    have HB : Hid (rdB (bts ⟨#[]⟩) = false) := Lib.hid (rdB_f (fun h => by have := h.1; simp [bts, magL] at this))
    go_enter Tryz.func57, Tryz.ntmps57
    go_wp2
    go_ret2
    exact RetNum.bad HB.out (Ext.refl w)
  · have hne : ¬ s.toList = [] := by
      intro h
      have := congrArg List.length h
      rw [ByteArray.toList_eq] at this
      exact h0 (by simpa using this)
    have hem : s.toList.isEmpty = false := by
      cases hh : s.toList with
      | nil => exact absurd hh hne
      | cons a l => rfl
    have h0' : 0 < s.size := by omega
    have hcons := cons_at s h0'
    by_cases h45 : (s[0].toNat : Int) = 45
    · have h45b : ((s[0].toNat : Int) == 45) = true := by simp [h45]
      have hm : bts (s.extract 1 s.size) = magL (bts s) := by
        rw [bts_extract2, hcons]
        unfold magL
        simp only [List.drop_succ_cons, List.drop_zero]
        rw [if_pos (by omega)]
      have hsz : (s.extract 1 s.size).size = s.size - 1 := by rw [ByteArray.size_extract]; omega
      by_cases hl : 1 ≤ s.size - 1 ∧ s.size - 1 ≤ 18
      · have hl1 : ¬ ((s.size - 1 : Nat) : Int) < 1 := by omega
        have hl2 : ¬ (18 : Int) < ((s.size - 1 : Nat) : Int) := by omega
        have HM := Lib.hid hm
        have HSZ := Lib.hid hsz
        clear hm hsz hcons hs
        go_enter Tryz.func57, Tryz.ntmps57
        go_wp2
        generalize s.extract 1 s.size = t at *
        have ht18 : 1 ≤ t.size ∧ t.size ≤ 18 := by have := HSZ.out; omega
        have hts : (t.size : Int) < (s.size : Int) := by have := HSZ.out; omega
        clear HSZ hl hl1 hl2
        go_loopw [5, 6] (fun q i wr => ∃ k : Nat, k ≤ t.size ∧ i = .int .i64 k ∧ q = .int .i64 ((dvalF 0 ((bts t).take k) : Nat) : Int) ∧ Hid (((bts t).take k).all isDg = true) ∧ Hid (Ext w wr)) (fun _ i _ => t.size - (intOf i).toNat)
        case atStart => exact ⟨0, Nat.zero_le _, rfl, rfl, Lib.hid rfl, Lib.hid (Ext.refl w)⟩
        case round =>
          obtain ⟨k, hk, rfl, rfl, HA, HE⟩ := hrel
          have hub := dvalF_lt _ HA.out 0 0 (by decide)
          rw [List.length_take, bts_length, Nat.min_eq_left hk] at hub
          by_cases hlt : k < t.size
          · have hki : (k : Int) < (t.size : Int) := by omega
            have hp : 10 ^ (0 + k) ≤ 10 ^ 17 := Nat.pow_le_pow_right (by decide) (by omega)
            have h17 : (10 : Nat) ^ 17 = 100000000000000000 := by decide
            have HS := Lib.hid (take_snoc t k hlt)
            have HMem : Hid (t[k] ∈ bts t) := Lib.hid (mem_at t k hlt)
            obtain ⟨u, hu⟩ : ∃ u, dvalF 0 ((bts t).take k) = u := ⟨_, rfl⟩
            rw [hu] at hub
            rw [hu]
            have hu17 : (u : Int) < 100000000000000000 := by omega
            have HU := Lib.hid hu
            clear hub hp h17 hu
            cases hd : isDg t[k] with
            | false =>
              have HBad : Hid (rdB (bts s) = false) := Lib.hid (rdB_f (fun h => by have h2 := h.2.2.1; rw [← HM.out] at h2; have := List.all_eq_true.1 h2 _ HMem.out; rw [hd] at this; cases this))
              go_wp2_with (go_at_call 73; refine (s_l01Digit _ _).mono ?_; rw [hd]; rintro e w' ⟨rfl, rfl⟩)
              go_ret2
              exact RetNum.bad HBad.out HE.out
            | true =>
              have hdi := isDg_iff.1 hd
              have HDi : Hid (10 * u + (t[k].toNat - 48) = dvalF 0 ((bts t).take (k + 1)) ∧ ((bts t).take (k + 1)).all isDg = true) := Lib.hid (by rw [HS.out, dvalF_snoc, HU.out, List.all_append, HA.out, List.all_cons, hd]; exact ⟨by omega, rfl⟩)
              have d1 : (48 : Int) ≤ (t[k].toNat : Int) := by omega
              have d2 : (t[k].toNat : Int) ≤ 57 := by omega
              have HCalc : Hid (10 * (u : Int) + ((t[k].toNat : Int) - 48) = ((10 * u + (t[k].toNat - 48) : Nat) : Int)) := Lib.hid (by omega)
              go_wp2_with (go_at_call 73; refine (s_l01Digit _ _).mono ?_; rw [hd]; rintro e w' ⟨rfl, rfl⟩)
              go_roundw
              case rel => exact ⟨k + 1, by omega, by go_num, by rw [← HDi.out.1, ← HCalc.out], Lib.hid HDi.out.2, HE⟩
              case measure => simp [intOf]; omega
          · obtain rfl : k = t.size := by omega
            have hA := HA.out
            rw [take_all t _ (Nat.le_refl _)] at hA hub ⊢
            have hp : 10 ^ (0 + t.size) ≤ 10 ^ 18 := Nat.pow_le_pow_right (by decide) (by omega)
            have h18 : (10 : Nat) ^ 18 = 1000000000000000000 := by decide
            obtain ⟨u, hu⟩ : ∃ u, dvalF 0 (bts t) = u := ⟨_, rfl⟩
            rw [hu] at hub ⊢
            have hml := congrArg List.length HM.out
            rw [bts_length] at hml
            have HV : Hid (rdV (bts s) = (-(u : Int))) := Lib.hid (by unfold rdV; rw [← HM.out, hu, if_pos (by rw [bts_length, bts_length]; omega)])
            have hI : IsI64 (-(u : Int)) := by unfold IsI64; omega
            have HDD := Lib.hid (fun W (e : Ext w W) => s_l01Dec (-(u : Int)) hI W)
            have hu18 : (u : Int) < 1000000000000000000 := by omega
            have HI : Hid (Lib.itoa (rdV (bts s)) = bts s → rdB (bts s) = true) := Lib.hid (fun h => rdB_iff.2 ⟨by rw [← hml]; omega, by rw [← hml]; omega, by rw [← HM.out]; exact hA, h⟩)
            clear hub hp h18 hu hml hA hI HA
            by_cases he : decS (-(u : Int)) = s
            · have HG : Hid (rdB (bts s) = true) := Lib.hid (HI.out (by rw [HV.out]; have := congrArg bts he; unfold decS at this; rw [bts_mkS] at this; exact this))
              rw [he] at HDD
              clear he
              go_wp2_with (go_at_call 71; refine (HDD.out _ HE.out).mono ?_; rintro e w1 ⟨rfl, e1⟩)
              go_ret2
              exact RetNum.good HG.out HV.out (HE.out.trans e1)
            · have HG : Hid (rdB (bts s) = false) := Lib.hid (rdB_f (fun h => he (by have h2 := h.2.2.2; rw [HV.out] at h2; unfold decS; rw [h2, mkS_bts])))
              have h4 : ((decS (-(u : Int))).toList == s.toList) = false := toList_ne he
              go_wp2_with (go_at_call 71; refine (HDD.out _ HE.out).mono ?_; rintro e w1 ⟨rfl, e1⟩)
              go_ret2
              exact RetNum.bad HG.out (HE.out.trans e1)
      · have HBad : Hid (rdB (bts s) = false) := Lib.hid (rdB_f (fun h => hl (by have := h.1; have := h.2.1; rw [← hm, bts_length, hsz] at *; omega)))
        clear hm hsz hcons
        by_cases hl1 : ((s.size - 1 : Nat) : Int) < 1
        · go_enter Tryz.func57, Tryz.ntmps57
          go_wp2
          go_ret2
          exact RetNum.bad HBad.out (Ext.refl w)
        · have hl2 : (18 : Int) < ((s.size - 1 : Nat) : Int) := by omega
          go_enter Tryz.func57, Tryz.ntmps57
          go_wp2
          go_ret2
          exact RetNum.bad HBad.out (Ext.refl w)
    · have h45b : ((s[0].toNat : Int) == 45) = false := by simp [h45]
      have hm : bts s = magL (bts s) := by
        rw [hcons]
        unfold magL
        dsimp only
        rw [if_neg (by omega)]
      have hsz : s.size = (magL (bts s)).length := by rw [← hm, bts_length]
      by_cases hl : 1 ≤ s.size ∧ s.size ≤ 18
      · have hl1 : ¬ (s.size : Int) < 1 := by omega
        have hl2 : ¬ (18 : Int) < (s.size : Int) := by omega
        have HM := Lib.hid hm
        clear hm hsz hcons hs
        go_enter Tryz.func57, Tryz.ntmps57
        go_wp2
        go_loopw [5, 6] (fun q i wr => ∃ k : Nat, k ≤ s.size ∧ i = .int .i64 k ∧ q = .int .i64 ((dvalF 0 ((bts s).take k) : Nat) : Int) ∧ Hid (((bts s).take k).all isDg = true) ∧ Hid (Ext w wr)) (fun _ i _ => s.size - (intOf i).toNat)
        case atStart => exact ⟨0, Nat.zero_le _, rfl, rfl, Lib.hid rfl, Lib.hid (Ext.refl w)⟩
        case round =>
          obtain ⟨k, hk, rfl, rfl, HA, HE⟩ := hrel
          have hub := dvalF_lt _ HA.out 0 0 (by decide)
          rw [List.length_take, bts_length, Nat.min_eq_left hk] at hub
          by_cases hlt : k < s.size
          · have hki : (k : Int) < (s.size : Int) := by omega
            have hp : 10 ^ (0 + k) ≤ 10 ^ 17 := Nat.pow_le_pow_right (by decide) (by omega)
            have h17 : (10 : Nat) ^ 17 = 100000000000000000 := by decide
            have HS := Lib.hid (take_snoc s k hlt)
            have HMem : Hid (s[k] ∈ bts s) := Lib.hid (mem_at s k hlt)
            obtain ⟨u, hu⟩ : ∃ u, dvalF 0 ((bts s).take k) = u := ⟨_, rfl⟩
            rw [hu] at hub
            rw [hu]
            have hu17 : (u : Int) < 100000000000000000 := by omega
            have HU := Lib.hid hu
            clear hub hp h17 hu
            cases hd : isDg s[k] with
            | false =>
              have HBad : Hid (rdB (bts s) = false) := Lib.hid (rdB_f (fun h => by have h2 := h.2.2.1; rw [← HM.out] at h2; have := List.all_eq_true.1 h2 _ HMem.out; rw [hd] at this; cases this))
              go_wp2_with (go_at_call 73; refine (s_l01Digit _ _).mono ?_; rw [hd]; rintro e w' ⟨rfl, rfl⟩)
              go_ret2
              exact RetNum.bad HBad.out HE.out
            | true =>
              have hdi := isDg_iff.1 hd
              have HDi : Hid (10 * u + (s[k].toNat - 48) = dvalF 0 ((bts s).take (k + 1)) ∧ ((bts s).take (k + 1)).all isDg = true) := Lib.hid (by rw [HS.out, dvalF_snoc, HU.out, List.all_append, HA.out, List.all_cons, hd]; exact ⟨by omega, rfl⟩)
              have d1 : (48 : Int) ≤ (s[k].toNat : Int) := by omega
              have d2 : (s[k].toNat : Int) ≤ 57 := by omega
              have HCalc : Hid (10 * (u : Int) + ((s[k].toNat : Int) - 48) = ((10 * u + (s[k].toNat - 48) : Nat) : Int)) := Lib.hid (by omega)
              go_wp2_with (go_at_call 73; refine (s_l01Digit _ _).mono ?_; rw [hd]; rintro e w' ⟨rfl, rfl⟩)
              go_roundw
              case rel => exact ⟨k + 1, by omega, by go_num, by rw [← HDi.out.1, ← HCalc.out], Lib.hid HDi.out.2, HE⟩
              case measure => simp [intOf]; omega
          · obtain rfl : k = s.size := by omega
            have hA := HA.out
            rw [take_all s _ (Nat.le_refl _)] at hA hub ⊢
            have hp : 10 ^ (0 + s.size) ≤ 10 ^ 18 := Nat.pow_le_pow_right (by decide) (by omega)
            have h18 : (10 : Nat) ^ 18 = 1000000000000000000 := by decide
            obtain ⟨u, hu⟩ : ∃ u, dvalF 0 (bts s) = u := ⟨_, rfl⟩
            rw [hu] at hub ⊢
            have hml := congrArg List.length HM.out
            rw [bts_length] at hml
            have HV : Hid (rdV (bts s) = (u : Int)) := Lib.hid (by unfold rdV; rw [← HM.out, hu, if_neg (by omega)])
            have hI : IsI64 (u : Int) := by unfold IsI64; omega
            have HDD := Lib.hid (fun W (e : Ext w W) => s_l01Dec (u : Int) hI W)
            have hu18 : (u : Int) < 1000000000000000000 := by omega
            have HI : Hid (Lib.itoa (rdV (bts s)) = bts s → rdB (bts s) = true) := Lib.hid (fun h => rdB_iff.2 ⟨by rw [← hml]; omega, by rw [← hml]; omega, by rw [← HM.out]; exact hA, h⟩)
            clear hub hp h18 hu hml hA hI HA
            by_cases he : decS (u : Int) = s
            · have HG : Hid (rdB (bts s) = true) := Lib.hid (HI.out (by rw [HV.out]; have := congrArg bts he; unfold decS at this; rw [bts_mkS] at this; exact this))
              rw [he] at HDD
              clear he
              go_wp2_with (go_at_call 71; refine (HDD.out _ HE.out).mono ?_; rintro e w1 ⟨rfl, e1⟩)
              go_ret2
              exact RetNum.good HG.out HV.out (HE.out.trans e1)
            · have HG : Hid (rdB (bts s) = false) := Lib.hid (rdB_f (fun h => he (by have h2 := h.2.2.2; rw [HV.out] at h2; unfold decS; rw [h2, mkS_bts])))
              have h4 : ((decS (u : Int)).toList == s.toList) = false := toList_ne he
              go_wp2_with (go_at_call 71; refine (HDD.out _ HE.out).mono ?_; rintro e w1 ⟨rfl, e1⟩)
              go_ret2
              exact RetNum.bad HG.out (HE.out.trans e1)
      · have HBad : Hid (rdB (bts s) = false) := Lib.hid (rdB_f (fun h => hl (by have h1 := h.1; have h2 := h.2.1; rw [← hsz] at h1 h2; exact ⟨h1, h2⟩)))
        have hl1 : ¬ (s.size : Int) < 1 := by omega
        have hl2 : (18 : Int) < (s.size : Int) := by omega
        clear hm hsz hcons
        go_enter Tryz.func57, Tryz.ntmps57
        go_wp2
        go_ret2
        exact RetNum.bad HBad.out (Ext.refl w)
theorem trim_mag (l : List UInt8) : Lib.trimPrefix l [45] = magL l := by
  unfold Lib.trimPrefix magL
  cases l with
  | nil => rfl
  | cons c r =>
    by_cases h : c = 45
    · subst h; rfl
    · have h2 : ¬ c.toNat = 45 := fun e => h (UInt8.toNat_inj.1 e)
      dsimp only
      rw [if_neg h2]
      have h5 : ¬ (45 : UInt8) = c := fun e => h e.symm
      simp [Lib.hasPrefix, h5, h]
      try exact h5
theorem bytesW_ext (w : World) (t : ByteArray) : Ext w (Lib.bytesWorld w 5 t) := Joins.below_bytesWorld _ w _ t (Nat.le_refl _)
theorem f_ParseInt_ok (s : ByteArray) (hmax : s.size ≤ 9223372036854775806) (v : Int) (h : Lib.parseIntB 64 s.data.toList = .ok v) (w : World) : Calls Tryz.prog 70 #[.string s, .int .i64 10, .int .i64 64] w (fun e w' => e = .returned (.tuple #[.int .i64 v, .nilIface]) ∧ Ext w w') :=
  (Tryz.strconv_ParseInt_10_at64_ok s hmax v h w).mono fun e w' ⟨h1, h2⟩ => ⟨h1, by
    rcases h2 with rfl | ⟨t, rfl⟩
    · exact Ext.refl _
    · exact bytesW_ext _ _⟩
set_option maxRecDepth 20000 in
set_option maxHeartbeats 1600000 in
theorem i_ReadDecimal (s : ByteArray) (hs : s.size ≤ 9223372036854775807) (w : World) (hT : TabP w) (hE : ErrP w) : Calls Tryz.prog 52 #[.string s] w (RetNum s w) := by
  have hml := magL_len (bts s)
  rw [bts_length] at hml
  by_cases h19 : (19 : Int) < (s.size : Int)
  · have HBad : Hid (rdB (bts s) = false) := Lib.hid (rdB_f (fun h => by have := h.2.1; omega))
    go_enter Tryz.func52, Tryz.ntmps52
    go_wp2
    go_ret2
    exact RetNum.bad HBad.out (Ext.refl w)
  · have HTr := Lib.hid (Tryz.strings_TrimPrefix s ⟨#[45]⟩ w)
    have htr : (⟨(Lib.trimPrefix s.data.toList (⟨#[45]⟩ : ByteArray).data.toList).toArray⟩ : ByteArray) = mkS (magL (bts s)) := by
      show mkS (Lib.trimPrefix (bts s) [45]) = _
      rw [trim_mag]
    rw [htr] at HTr
    have hts := mkS_size (magL (bts s))
    by_cases h18 : (18 : Int) < ((mkS (magL (bts s))).size : Int)
    · have HBad : Hid (rdB (bts s) = false) := Lib.hid (rdB_f (fun h => by have := h.2.1; omega))
      generalize mkS (magL (bts s)) = t at *
      clear htr hml hts
      go_enter Tryz.func52, Tryz.ntmps52
      go_wp2_with (go_at_call 69; refine HTr.out.mono ?_; rintro e w' ⟨rfl, rfl⟩)
      go_ret2
      exact RetNum.bad HBad.out (Ext.refl _)
    · have hl18 : (magL (bts s)).length ≤ 18 := by omega
      have HML : Hid ((magL (bts s)).length ≤ 18) := Lib.hid hl18
      have hps := parse_short hl18
      generalize mkS (magL (bts s)) = t at *
      clear htr hml hts hl18
      rcases hps with ⟨h1, h2, h3⟩ | ⟨h1, h2⟩ | ⟨v, h1, h2, h3⟩
      · have HP := Lib.hid (fun W => f_ParseInt_ok s (by omega) _ h1 W)
        have hbd := rdV_bd HML.out h3
        obtain ⟨v, hv⟩ : ∃ v, rdV (bts s) = v := ⟨_, rfl⟩
        rw [hv] at HP hbd
        have HV := Lib.hid hv
        have hI : IsI64 v := by unfold IsI64; omega
        have HDD := Lib.hid (fun W (e : Ext w W) => i_Decimal v hI W (hT.ext e))
        by_cases he : decS v = s
        · have HG : Hid (rdB (bts s) = true) := Lib.hid (rdB_iff.2 ⟨h2, HML.out, h3, by rw [hv]; have := congrArg bts he; unfold decS at this; rw [bts_mkS] at this; exact this⟩)
          rw [he] at HDD
          clear he hv h1 h2 h3 hT hE hbd hI
          go_enter Tryz.func52, Tryz.ntmps52
          go_wp2_with (first | (go_at_call 69; refine HTr.out.mono ?_; rintro e w' ⟨rfl, rfl⟩) | (go_at_call 70; refine (HP.out _).mono ?_; rintro e w1 ⟨rfl, e1⟩; have HE1 := Lib.hid e1; clear e1) | (go_at_call 49; refine (HDD.out _ HE1.out).mono ?_; rintro e w2 ⟨rfl, e2⟩))
          go_ret2
          exact RetNum.good HG.out HV.out (HE1.out.trans e2)
        · have HG : Hid (rdB (bts s) = false) := Lib.hid (rdB_f (fun h => he (by have h2 := h.2.2.2; rw [hv] at h2; unfold decS; rw [h2, mkS_bts])))
          have h4 : ((decS v).toList == s.toList) = false := toList_ne he
          clear he hv h1 h2 h3 hT hE hbd hI
          go_enter Tryz.func52, Tryz.ntmps52
          go_wp2_with (first | (go_at_call 69; refine HTr.out.mono ?_; rintro e w' ⟨rfl, rfl⟩) | (go_at_call 70; refine (HP.out _).mono ?_; rintro e w1 ⟨rfl, e1⟩; have HE1 := Lib.hid e1; clear e1) | (go_at_call 49; refine (HDD.out _ HE1.out).mono ?_; rintro e w2 ⟨rfl, e2⟩))
          go_ret2
          exact RetNum.bad HG.out (HE1.out.trans e2)
      · have HBad : Hid (rdB (bts s) = false) := Lib.hid (rdB_f (fun h => h2 ⟨h.1, h.2.2.1⟩))
        obtain ⟨tp, p, hE⟩ := hE
        have HP := Lib.hid (Tryz.strconv_ParseInt_10_at64_syntax_var s (by omega) h1 tp p w hE)
        clear h1 h2 hT hE
        go_enter Tryz.func52, Tryz.ntmps52
        go_wp2_with (first | (go_at_call 69; refine HTr.out.mono ?_; rintro e w' ⟨rfl, rfl⟩) | (go_at_call 70; refine HP.out.mono ?_; rintro e w1 ⟨N, rfl, _, _, e1⟩; have HE1 := Lib.hid e1; clear e1))
        go_ret2
        exact RetNum.bad HBad.out HE1.out
      · have HBad : Hid (rdB (bts s) = false) := Lib.hid (rdB_f (fun h => h3 h.2.2.1))
        have hbd := Lib.parseIntB_bounds h1
        have hI : IsI64 v := by unfold IsI64; have e : ((2 ^ (64 - 1) : Nat) : Int) = 9223372036854775808 := by decide
                                omega
        have HP := Lib.hid (fun W => f_ParseInt_ok s (by omega) _ h1 W)
        have HDD := Lib.hid (fun W (e : Ext w W) => i_Decimal v hI W (hT.ext e))
        have h4 : ((decS v).toList == s.toList) = false := toList_ne (fun he => h2 (by have := congrArg bts he; unfold decS at this; rw [bts_mkS] at this; exact this))
        clear h1 h2 h3 hT hE hbd hI
        go_enter Tryz.func52, Tryz.ntmps52
        go_wp2_with (first | (go_at_call 69; refine HTr.out.mono ?_; rintro e w' ⟨rfl, rfl⟩) | (go_at_call 70; refine (HP.out _).mono ?_; rintro e w1 ⟨rfl, e1⟩; have HE1 := Lib.hid e1; clear e1) | (go_at_call 49; refine (HDD.out _ HE1.out).mono ?_; rintro e w2 ⟨rfl, e2⟩))
        go_ret2
        exact RetNum.bad HBad.out (HE1.out.trans e2)
end Go.Proofs.YtdedamamjkpcpaaGreatDoor
