/- Contracts of the short text of a course: the program's, and the reference's whole function. -/
import Derived.Test.YtaokeaiehjgbnaaDoorRuns
namespace Go.Proofs.YtaokeaiehjgbnaaDoor
open Go.RowKit
set_option linter.unusedSimpArgs false
set_option linter.unusedVariables false
set_option linter.unnecessarySimpa false

/-- the words that the call made, joined -/
theorem OwnStrs.join {w : World} {base n cap : Nat} {ao : Option Addr} {xs : List ByteArray} (h : OwnStrs w base (.slice ao n cap) xs) (hne : xs ≠ []) (sep : ByteArray) (hl : (Lib.join (xs.map bts) (bts sep)).length ≤ 140737488355328) (hxl : xs.length ≤ 140737488355328) :
    Calls Tryd.prog 34 #[.slice ao n cap, .string sep] w (RetE (.string (mkS (Lib.join (xs.map bts) (bts sep)))) w) := by
  have hn : n = xs.length := by
    obtain ⟨a, c, hv, _⟩ := h.shape
    simp only [Value.slice.injEq] at hv
    exact hv.2.1
  subst hn
  have hrow := h.1
  rcases h.1.2 with ⟨hv, h0⟩ | ⟨g, cap', cur, hv, hg, hh, hc, hm, hcur, htake⟩
  · exact absurd (List.eq_nil_of_length_eq_zero h0) hne
  · simp only [Value.slice.injEq] at hv
    obtain ⟨rfl, _, rfl⟩ := hv
    refine Calls.mono (Tryd.strings_Join g 0 cap xs sep w (fun j x hx => ?_) (lt_of_block hh) hxl hc hl) ?_
    · rw [Nat.zero_add, hrow.cellAt j (by have := (List.getElem?_eq_some_iff.1 hx).1; omega), List.getElem?_map, hx]; rfl
    · rintro e w' ⟨rfl, e1⟩
      exact ⟨rfl, e1⟩
theorem EW.mk2 {w wr : World} (h : Ext w wr) (n : Nat) : EW w (wr.drewN n).drew := (h.drewN n).drew
theorem wrap_in (x : Int) (h1 : -9223372036854775808 ≤ x) (h2 : x ≤ 9223372036854775807) : IntKind.i64.wrap x = x := by
  unfold IntKind.wrap
  simp [IntKind.signed, IntKind.bits]
  omega
theorem crun_t {l : List UInt8} (h : validC l = true) : crun l = Lib.join (runs l) [32] := if_pos h
theorem crun_f {l : List UInt8} (h : ¬ validC l = true) : crun l = [] := if_neg h
theorem s_CourseRuns (s : ByteArray) (hs : s.size ≤ 9223372036854775807) (w : World) : Calls Tryd.prog 17 #[.string s] w (RetE (.string (mkS (crun (bts s)))) w) := by
  have HV := Lib.hid (fun W => s_l06Ok s hs W)
  by_cases g : validC (bts s) = true
  · have ⟨h1, h2, _, _⟩ := validC_bd g
    rw [bts_length] at h1 h2
    have HC := Lib.hid (fun W => s_l06Runs s h2 W)
    have HR : Hid (mkS (crun (bts s)) = mkS (Lib.join (runs (bts s)) [32])) := Lib.hid (by rw [crun_t g])
    rw [g] at HV
    clear g
    go_enter Tryd.func17, Tryd.ntmps17
    go_wp2_with (first | (go_at_call 42; refine (HV.out _).mono ?_; rintro e w' ⟨rfl, rfl⟩) | (go_at_call 43; refine (HC.out _).mono ?_; rintro e w1 ⟨rfl, e1⟩))
    go_ret
    exact RetE.mk (by rw [HR.out]; rfl) e1
  · have HR : Hid (mkS (crun (bts s)) = ⟨#[]⟩) := Lib.hid (by rw [crun_f g]; rfl)
    rw [Bool.not_eq_true] at g
    rw [g] at HV
    clear g
    go_enter Tryd.func17, Tryd.ntmps17
    go_wp2_with (go_at_call 42; refine (HV.out _).mono ?_; rintro e w' ⟨rfl, rfl⟩)
    go_ret
    exact RetE.mk (by rw [HR.out]; rfl) (Ext.refl _)
set_option maxRecDepth 20000 in
set_option maxHeartbeats 1600000 in
theorem i_CourseRuns (s : ByteArray) (hs : s.size ≤ 9223372036854775807) (w : World) : Calls Tryd.prog 18 #[.string s] w (RetE (.string (mkS (crun (bts s)))) w) := by
  have HV := Lib.hid (fun W => i_ValidCourse s hs W)
  by_cases g : validC (bts s) = true
  · have ⟨h1, h2, _, _⟩ := validC_bd g
    rw [bts_length] at h1 h2
    have HRes : Hid (mkS (crun (bts s)) = mkS (Lib.join (runs (bts s)) [32])) := Lib.hid (by rw [crun_t g])
    rw [g] at HV
    clear g hs
    go_enter Tryd.func18, Tryd.ntmps18
    go_wp2_with (go_at_call 44; refine (HV.out _).mono ?_; rintro e w' ⟨rfl, rfl⟩)
    go_loopw [3, 4] (fun v i wr => ∃ (ws : List (List UInt8)) (k : Nat), i = .int .i64 k ∧ k ≤ s.size ∧ Hid (runs (bts s) = ws ++ runs ((bts s).drop k)) ∧ Hid (ws.length ≤ k ∧ ∀ x ∈ ws, 1 ≤ x.length ∧ x.length ≤ 21) ∧ Hid (OwnStrs wr w.heap.size v (ws.map mkS)) ∧ Hid (Ext w wr)) (fun _ i _ => s.size - (intOf i).toNat)
    case atStart => exact ⟨[], 0, rfl, Nat.zero_le _, Lib.hid (by simp), Lib.hid ⟨by simp, by simp⟩, Lib.hid (OwnStrs.empty (Ext.refl w)), Lib.hid ((Ext.refl w).alloc _)⟩
    case round =>
      obtain ⟨ws, k, rfl, hk, HR, HW, HO, HE⟩ := hrel
      by_cases hlt : k < s.size
      · have hki : (k : Int) < (s.size : Int) := by omega
        obtain ⟨wr0, hwr0⟩ : ∃ x, x = wr := ⟨_, rfl⟩
        subst hwr0
        go_wp2
        go_loopw [5] (fun q wr => ∃ j : Nat, q = .int .i64 j ∧ k ≤ j ∧ j ≤ s.size ∧ Hid ((bts s).drop k = List.replicate (j - k) s[k] ++ (bts s).drop j) ∧ Hid (Ext wr0 wr)) (fun q _ => s.size - (intOf q).toNat)
        case atStart => exact ⟨k, rfl, Nat.le_refl _, hk, Lib.hid (by rw [Nat.sub_self]; rfl), Lib.hid (Ext.refl _)⟩
        case round =>
          obtain ⟨j, rfl, hkj, hjs, HJ, HE2⟩ := hrel
          by_cases hjn : j < s.size
          · have hji : (j : Int) < (s.size : Int) := by omega
            by_cases he : s[j] = s[k]
            · have hbe : ((s[j].toNat : Int) == (s[k].toNat : Int)) = true := by rw [he]; simp
              have HN := Lib.hid (run_more s k j hjn hlt hkj HJ.out he)
              clear he
              go_wp2
              go_quiet (fail)
              go_wp2
              go_roundw
              case rel => exact ⟨j + 1, by go_num, by omega, by omega, HN, Lib.hid (HE2.out.drewN _)⟩
              case measure => simp [intOf]; omega
            · have hbe : ((s[j].toNat : Int) == (s[k].toNat : Int)) = false := by
                rw [beq_eq_false_iff_ne]; intro e; exact he (UInt8.toNat_inj.1 (by omega))
              have hlt2 : k < j := by
                rcases Nat.lt_or_ge k j with h | h
                · exact h
                · exfalso; have : j = k := by omega
                  subst this; exact he rfl
              have HD := Lib.hid (run_done s k j hlt hlt2 hjs HJ.out (fun _ => he))
              clear he
              obtain ⟨d, hd⟩ : ∃ d : Nat, j - k = d := ⟨_, rfl⟩
              have hdi : (j : Int) - (k : Int) = (d : Int) := by omega
              rw [hd] at HD
              have hd0 : d ≤ 60 := by omega
              have HDec2 : Hid (∀ W, Calls Tryd.prog 33 #[.int .i64 ((j : Int) - (k : Int))] W (RetV (.string (decS (d : Int))) W)) := Lib.hid (by rw [hdi]; exact fun W => i_Decimal_small d (by omega) W)
              have hzd : (decS (d : Int)).size ≤ 20 := by unfold decS; rw [mkS_size]; exact decS_len (by omega)
              have hdl : 0 < (Lib.itoa (d : Int)).length ∧ (Lib.itoa (d : Int)).length ≤ 20 := ⟨itoa_pos d, decS_len (by omega)⟩
              have hmin : min (k + 1) s.size - k = 1 := by omega
              have HEX := Lib.hid (ext_one s k hlt)
              have HRR : Hid (runs (bts s) = (ws ++ [Lib.itoa (d : Int) ++ [s[k]]]) ++ runs ((bts s).drop j)) := Lib.hid (by rw [HR.out, HD.out, List.append_assoc]; rfl)
              have HWW : Hid ((ws ++ [Lib.itoa (d : Int) ++ [s[k]]]).length ≤ j ∧ ∀ x ∈ ws ++ [Lib.itoa (d : Int) ++ [s[k]]], 1 ≤ x.length ∧ x.length ≤ 21) := Lib.hid (by
                refine ⟨by simp; have := HW.out.1; omega, fun x hx => ?_⟩
                rcases List.mem_append.1 hx with hx | hx
                · exact HW.out.2 x hx
                · simp at hx; subst hx; simp; omega)
              have HWL : Hid ((ws.map mkS).length ≤ 10000000) := Lib.hid (by simp; have := HW.out.1; omega)
              have hke : (k : Int) + 1 ≤ (s.size : Int) := by omega
              have hk00 : (0 : Int) ≤ (k : Int) := by omega
              have hkk1 : (k : Int) ≤ (k : Int) + 1 := by omega
              have hwk : IntKind.i64.wrap ((k : Int) + 1) = (k : Int) + 1 := wrap_in _ (by omega) (by omega)
              have hwj : IntKind.i64.wrap ((j : Int) - (k : Int)) = (j : Int) - (k : Int) := wrap_in _ (by omega) (by omega)
              have HV2 : Hid (ws.map mkS ++ [decS (d : Int) ++ s.extract k (k + 1)] = (ws ++ [Lib.itoa (d : Int) ++ [s[k]]]).map mkS) := Lib.hid (by rw [HEX.out, List.map_append]; unfold decS; rw [mkS_app]; rfl)
              have HSZ : Hid ((decS (d : Int) ++ s.extract k (k + 1)).size ≤ 9223372036854775807) := Lib.hid (by rw [ByteArray.size_append, ByteArray.size_extract]; omega)
              have HX := Lib.hid (HE.out.trans HE2.out)
              clear hd hdl hdi HEX
              generalize decS (d : Int) = zd at *
              have hs1 : ¬ (9223372036854775807 < zd.size + 1) := by omega
              clear hzd
              go_wp2
              go_quiet (fail)
              go_wp2
              go_region_held3 (fun W => EW w W) (first | exact EW.mk2 HX.out _ | exact HE4.out | exact keepEW (by assumption) (by assumption) | exact keepEW (by assumption) (Ext.refl _).drew | exact keepEW (by assumption) ((Ext.refl _).alloc _)) (first
                | (go_at_call 33; refine (HDec2.out _).mono ?_; rintro e w2 ⟨rfl, rfl⟩)
                | (refine step_append_str (W := w) rfl _ _ rfl _ (ws.map mkS) (zd ++ s.extract k (k + 1)) rfl rfl rfl (by exact HO.out.ext (HE2.out.trans ((Ext.refl wr).drewN _))) (by exact HX.out.drewN _) HSZ.out HWL.out ?_; intro v' w4 ho4 e4 b4; have HO4 := Lib.hid ho4; have HE4 := Lib.hid e4; clear ho4 e4 b4))
              all_goals
                go_wp2
                go_roundw
                case rel => exact ⟨_, j, by go_num, hjs, HRR, HWW, Lib.hid (by rw [← HV2.out]; exact HO4.out), HE4⟩
                case measure => simp [intOf]; omega
          · have hji : ¬ (j : Int) < (s.size : Int) := by omega
            have hlt2 : k < j := by omega
            have HD := Lib.hid (run_done s k j hlt hlt2 hjs HJ.out (fun h => absurd h hjn))
            obtain ⟨d, hd⟩ : ∃ d : Nat, j - k = d := ⟨_, rfl⟩
            have hdi : (j : Int) - (k : Int) = (d : Int) := by omega
            rw [hd] at HD
            have hd0 : d ≤ 60 := by omega
            have HDec2 : Hid (∀ W, Calls Tryd.prog 33 #[.int .i64 ((j : Int) - (k : Int))] W (RetV (.string (decS (d : Int))) W)) := Lib.hid (by rw [hdi]; exact fun W => i_Decimal_small d (by omega) W)
            have hzd : (decS (d : Int)).size ≤ 20 := by unfold decS; rw [mkS_size]; exact decS_len (by omega)
            have hdl : 0 < (Lib.itoa (d : Int)).length ∧ (Lib.itoa (d : Int)).length ≤ 20 := ⟨itoa_pos d, decS_len (by omega)⟩
            have hmin : min (k + 1) s.size - k = 1 := by omega
            have HEX := Lib.hid (ext_one s k hlt)
            have HRR : Hid (runs (bts s) = (ws ++ [Lib.itoa (d : Int) ++ [s[k]]]) ++ runs ((bts s).drop j)) := Lib.hid (by rw [HR.out, HD.out, List.append_assoc]; rfl)
            have HWW : Hid ((ws ++ [Lib.itoa (d : Int) ++ [s[k]]]).length ≤ j ∧ ∀ x ∈ ws ++ [Lib.itoa (d : Int) ++ [s[k]]], 1 ≤ x.length ∧ x.length ≤ 21) := Lib.hid (by
              refine ⟨by simp; have := HW.out.1; omega, fun x hx => ?_⟩
              rcases List.mem_append.1 hx with hx | hx
              · exact HW.out.2 x hx
              · simp at hx; subst hx; simp; omega)
            have HWL : Hid ((ws.map mkS).length ≤ 10000000) := Lib.hid (by simp; have := HW.out.1; omega)
            have hke : (k : Int) + 1 ≤ (s.size : Int) := by omega
            have hk00 : (0 : Int) ≤ (k : Int) := by omega
            have hkk1 : (k : Int) ≤ (k : Int) + 1 := by omega
            have hwk : IntKind.i64.wrap ((k : Int) + 1) = (k : Int) + 1 := wrap_in _ (by omega) (by omega)
            have hwj : IntKind.i64.wrap ((j : Int) - (k : Int)) = (j : Int) - (k : Int) := wrap_in _ (by omega) (by omega)
            have HV2 : Hid (ws.map mkS ++ [decS (d : Int) ++ s.extract k (k + 1)] = (ws ++ [Lib.itoa (d : Int) ++ [s[k]]]).map mkS) := Lib.hid (by rw [HEX.out, List.map_append]; unfold decS; rw [mkS_app]; rfl)
            have HSZ : Hid ((decS (d : Int) ++ s.extract k (k + 1)).size ≤ 9223372036854775807) := Lib.hid (by rw [ByteArray.size_append, ByteArray.size_extract]; omega)
            have HX := Lib.hid (HE.out.trans HE2.out)
            clear hd hdl hdi HEX
            generalize decS (d : Int) = zd at *
            have hs1 : ¬ (9223372036854775807 < zd.size + 1) := by omega
            clear hzd
            go_wp2
            go_quiet (fail)
            go_wp2
            go_region_held3 (fun W => EW w W) (first | exact EW.mk2 HX.out _ | exact HE4.out | exact keepEW (by assumption) (by assumption) | exact keepEW (by assumption) (Ext.refl _).drew | exact keepEW (by assumption) ((Ext.refl _).alloc _)) (first
              | (go_at_call 33; refine (HDec2.out _).mono ?_; rintro e w2 ⟨rfl, rfl⟩)
              | (refine step_append_str (W := w) rfl _ _ rfl _ (ws.map mkS) (zd ++ s.extract k (k + 1)) rfl rfl rfl (by exact HO.out.ext (HE2.out.trans ((Ext.refl wr).drewN _))) (by exact HX.out.drewN _) HSZ.out HWL.out ?_; intro v' w4 ho4 e4 b4; have HO4 := Lib.hid ho4; have HE4 := Lib.hid e4; clear ho4 e4 b4))
            all_goals
              go_wp2
              go_roundw
              case rel => exact ⟨_, j, by go_num, hjs, HRR, HWW, Lib.hid (by rw [← HV2.out]; exact HO4.out), HE4⟩
              case measure => simp [intOf]; omega
      · have HFin : Hid (ws = runs (bts s)) := Lib.hid (by rw [HR.out, List.drop_eq_nil_of_le (by rw [bts_length]; omega), runs_nil, List.append_nil])
        have hwne : ws ≠ [] := by
          rw [HFin.out]
          obtain ⟨c, r, hcr⟩ : ∃ c r, bts s = c :: r := by
            cases hb : bts s with
            | nil =>
              have hl0 := congrArg List.length hb
              rw [bts_length, List.length_nil] at hl0
              omega
            | cons c r => exact ⟨c, r, rfl⟩
          rw [hcr, runs_cons]; simp
        have hmm : (ws.map mkS).map bts = ws := by
          rw [List.map_map]
          conv => rhs; rw [← List.map_id ws]
          exact List.map_congr_left (fun x _ => bts_mkS x)
        have hjl : (Lib.join ws [32]).length ≤ 60 * 22 := by
          refine Nat.le_trans (join_len [32] 21 ws (fun x hx => (HW.out.2 x hx).2)) ?_
          exact Nat.mul_le_mul (by have := HW.out.1; omega) (Nat.le_refl _)
        obtain ⟨ao, cap, rfl, _, _⟩ := HO.out.shape
        have hJ := HO.out.join (by simpa using hwne) ⟨#[32]⟩ (by rw [hmm]; show (Lib.join ws [32]).length ≤ _; omega) (by simp; have := HW.out.1; omega)
        rw [hmm] at hJ
        have HJ : Hid (Calls Tryd.prog 34 #[.slice ao (ws.map mkS).length cap, .string ⟨#[32]⟩] wr (RetE (.string (mkS (Lib.join ws [32]))) wr)) := Lib.hid hJ
        obtain ⟨nn, hnn⟩ : ∃ nn, (ws.map mkS).length = nn := ⟨_, rfl⟩
        rw [hnn] at HJ
        rw [hnn]
        clear hJ hnn hwne hmm hjl
        go_wp2_with (go_at_call 34; refine HJ.out.mono ?_; rintro e w1 ⟨rfl, e1⟩)
        go_ret
        exact RetE.mk (by rw [HRes.out, ← HFin.out]; rfl) (HE.out.trans e1)
  · have HR : Hid (mkS (crun (bts s)) = ⟨#[]⟩) := Lib.hid (by rw [crun_f g]; rfl)
    rw [Bool.not_eq_true] at g
    rw [g] at HV
    clear g
    go_enter Tryd.func18, Tryd.ntmps18
    go_wp2_with (go_at_call 44; refine (HV.out _).mono ?_; rintro e w' ⟨rfl, rfl⟩)
    go_ret
    exact RetE.mk (by rw [HR.out]; rfl) (Ext.refl _)
end Go.Proofs.YtaokeaiehjgbnaaDoor
