/- Contracts of the short text of a course, on both sides. -/
import Derived.Test.YtaokeaiehjgbnaaDoorDec2
import Derived.Test.YtaokeaiehjgbnaaDoorRunM
import Derived.Test.YtaokeaiehjgbnaaDoorGaStrs
import Derived.Test.YtaokeaiehjgbnaaDoorCourse
import Derived.Test.YtaokeaiehjgbnaaDoorCls
namespace Go.Proofs.YtaokeaiehjgbnaaDoor
open Go.RowKit
set_option linter.unusedSimpArgs false
set_option linter.unusedVariables false
set_option linter.unnecessarySimpa false

theorem blk_oldR {w : World} {o x : Obj} {k : Nat} (h : w.heap[k]? = some x) : (w.alloc o).heap[k]? = some x := by rw [heap_alloc_old w o (lt_of_block h)]; exact h
/-- a text is appended, as one step of a region -/
theorem step_append_str {W w0 w : World} {ops : Array Oper} {o : Oper} {a : Act} {K : Act → World → Prop} {Q : Exit → Act → World → Prop} {E : Prop} (hgd : o.guard = none) (s x : Operand)
    (ho : o.op = .call { callee := .builtin .append, args := #[s, x], argTypes := #[54, 54] })
    (v : Value) (l : List ByteArray) (b : ByteArray) (hs : a.eval s = v) (hw : w = w0.alloc (.cells #[.string b] 9)) (hx : a.eval x = .slice (some ⟨w0.heap.size, 0, none⟩) 1 1)
    (hown : OwnStrs w0 W.heap.size v l) (e : Ext W w0) (hb : b.size ≤ 9223372036854775807) (hlen : l.length ≤ 10000000)
    (h : ∀ v' w', OwnStrs w' W.heap.size v' (l ++ [b]) → Ext W w' → (∀ k o', w0.heap[k]? = some o' → v.ownBlock ≠ some k → w'.heap[k]? = some o') → K (a.put o.dst v') w') :
    if Region.wanted o (yielded ops a.tmps) = true then Oper.wp Tryd.prog o a w K Q else E := by
  have hw' : Region.wanted o (yielded ops a.tmps) = true := by simp [Region.wanted, hgd]
  rw [if_pos hw']
  obtain ⟨i0, hi, hz0, hz1, hz2⟩ := info_parts info_str
  subst hw
  refine wp_append_own _ s x 54 ho W.heap.size 9 i0 (.string ByteArray.empty) 1 16 Tryd.underlying54 hi hz0 hz1 hz2 rfl (by decide) v l.length (l.map Value.string) hs (World.ownsRow.alloc hown.1 _)
    ⟨w0.heap.size, 0, none⟩ 1 1 [.string b] hx rfl (cells_new _ _ _) (by intro u hu; simp at hu; subst hu; rfl) (by unfold maxLen; omega) (by omega) (by have := e.size; simp; omega) ?_
  intro v' w' ho' hg _
  refine h v' w' ⟨by simpa using ho', fun z hz => ?_⟩ ((e.alloc _).grown hg (fun k hk => (hown.1.lt k hk).1)) (fun k o' hk hne => ?_)
  · rcases List.mem_append.1 hz with hz | hz
    · exact hown.2 z hz
    · simp at hz; subst hz; exact hb
  · exact (hg.block k (by have := lt_of_block hk; simp; omega) (fun e => hne (by simpa using e.symm))).trans (blk_oldR hk)
/-- the short text of a course -/
def crun (l : List UInt8) : List UInt8 := if validC l then Lib.join (runs l) [32] else []
theorem decS_len {n : Nat} (h : n ≤ 200) : (Lib.itoa (n : Int)).length ≤ 20 := by
  rw [itoa_natP]
  split
  · simp
  · exact decP_len (by omega)
theorem itoa_pos (d : Nat) : 0 < (Lib.itoa (d : Int)).length := by
  rw [itoa_natP]
  split
  · decide
  · exact List.length_pos_iff.2 (decP_ne (by omega))
def EW (w W : World) : Prop := Ext w W
theorem EW.mk0 (w : World) : EW w w.drew := (Ext.refl w).drew
theorem EW.mk1 (w : World) (n : Nat) : EW w (w.drewN n).drew := ((Ext.refl w).drewN n).drew
theorem keepEW {w W W' : World} (h : EW w W) (e : Ext W W') : EW w W' := Ext.trans h e
theorem str_isE {l : List UInt8} : (mkS l).toList.isEmpty = l.isEmpty := by rw [ByteArray.toList_eq]; rfl
theorem str_nilE {l : List UInt8} : (mkS l).toList = l := by rw [ByteArray.toList_eq]; rfl
theorem join_ne {ws : List (List UInt8)} (h : ws ≠ []) (h2 : ∀ x ∈ ws, 1 ≤ x.length) : Lib.join ws [32] ≠ [] := by
  cases ws with
  | nil => exact absurd rfl h
  | cons x r =>
    have h1 := h2 x (by simp)
    intro e
    have hl := congrArg List.length e
    unfold Lib.join at hl
    cases r with
    | nil => simp at hl; subst hl; simp at h1
    | cons y r =>
      rw [List.intercalate_cons_cons, List.length_append] at hl
      simp at hl
/-- the loop over equal letters: what it knows -/
theorem run_more (s : ByteArray) (k j : Nat) (hj : j < s.size) (hk : k < s.size) (hkj : k ≤ j) (h : (bts s).drop k = List.replicate (j - k) s[k] ++ (bts s).drop j) (he : s[j] = s[k]) :
    (bts s).drop k = List.replicate (j + 1 - k) s[k] ++ (bts s).drop (j + 1) := by
  obtain ⟨h1, h2⟩ := byte_at s j hj
  have e := List.drop_eq_getElem_cons h1
  rw [h2] at e
  have e2 : (bts s).drop j = s[j]'hj :: (bts s).drop (j + 1) := e
  rw [he] at e2
  rw [h, e2, show j + 1 - k = (j - k) + 1 by omega, List.replicate_succ', List.append_assoc]
  rfl
/-- .. and what follows behind it -/
theorem run_done (s : ByteArray) (k j : Nat) (hk : k < s.size) (hkj : k < j) (hjs : j ≤ s.size) (h : (bts s).drop k = List.replicate (j - k) s[k] ++ (bts s).drop j) (hne : ∀ h : j < s.size, s[j] ≠ s[k]) :
    runs ((bts s).drop k) = (Lib.itoa ((j - k : Nat) : Int) ++ [s[k]]) :: runs ((bts s).drop j) := by
  obtain ⟨m, hm⟩ : ∃ m, j - k = m + 1 := ⟨j - k - 1, by omega⟩
  rw [h, hm, runs_rep]
  intro e
  rw [List.head?_drop] at e
  obtain ⟨h1, h2⟩ := List.getElem?_eq_some_iff.1 e
  rw [bts_length] at h1
  refine hne h1 ?_
  obtain ⟨h3, h4⟩ := byte_at s j h1
  exact h4.symm.trans h2
theorem ext_one (s : ByteArray) (k : Nat) (hk : k < s.size) : s.extract k (k + 1) = mkS [s[k]] := by
  rw [← mkS_bts (s.extract k (k + 1))]
  congr 1
  rw [show bts (s.extract k (k + 1)) = ((bts s).take (k + 1)).drop k by unfold bts; rw [ByteArray.data_extract, Array.toList_extract, List.extract_eq_take_drop, List.drop_take], take_snoc s k hk, List.drop_left' (by rw [List.length_take, bts_length]; omega)]
set_option maxRecDepth 20000 in
set_option maxHeartbeats 1600000 in
theorem s_l06Runs (s : ByteArray) (hs : s.size ≤ 60) (w : World) : Calls Tryd.prog 43 #[.string s] w (RetE (.string (mkS (Lib.join (runs (bts s)) [32]))) w) := by
  go_enter Tryd.func43, Tryd.ntmps43
  go_wp2
  go_loopw [3, 4] (fun v i wr => ∃ (ws : List (List UInt8)) (k : Nat), v = .string (mkS (Lib.join ws [32])) ∧ i = .int .i64 k ∧ k ≤ s.size ∧ Hid (runs (bts s) = ws ++ runs ((bts s).drop k)) ∧ Hid (ws.length ≤ k ∧ ∀ x ∈ ws, 1 ≤ x.length ∧ x.length ≤ 21) ∧ Hid (Ext w wr)) (fun _ i _ => s.size - (intOf i).toNat)
  case atStart => exact ⟨[], 0, rfl, rfl, Nat.zero_le _, Lib.hid (by simp), Lib.hid ⟨by simp, by simp⟩, Lib.hid (Ext.refl w)⟩
  case round =>
    obtain ⟨ws, k, rfl, rfl, hk, HR, HW, HE⟩ := hrel
    by_cases hlt : k < s.size
    · have hki : (k : Int) < (s.size : Int) := by omega
      have hzl : (mkS (Lib.join ws [32])).size ≤ 60 * 22 := by
        rw [mkS_size]
        refine Nat.le_trans (join_len [32] 21 ws (fun x hx => (HW.out.2 x hx).2)) ?_
        exact Nat.mul_le_mul (by have := HW.out.1; omega) (Nat.le_refl _)
      obtain ⟨wr0, hwr0⟩ : ∃ x, x = wr := ⟨_, rfl⟩
      subst hwr0
      go_wp2
      go_loopw [5] (fun q wr => ∃ j : Nat, q = .int .i64 j ∧ k ≤ j ∧ j ≤ s.size ∧ Hid ((bts s).drop k = List.replicate (j - k) s[k] ++ (bts s).drop j) ∧ Hid (Ext w wr)) (fun q _ => s.size - (intOf q).toNat)
      case atStart => exact ⟨k, rfl, Nat.le_refl _, hk, Lib.hid (by rw [Nat.sub_self]; rfl), HE⟩
      case round =>
        obtain ⟨j, rfl, hkj, hjs, HJ, HE2⟩ := hrel
        by_cases hjn : j < s.size
        · have hji : (j : Int) < (s.size : Int) := by omega
          by_cases he : s[j] = s[k]
          · have hbe : ((s[j].toNat : Int) == (s[k].toNat : Int)) = true := by rw [he]; simp
            have HN := Lib.hid (run_more s k j hjn hlt hkj HJ.out he)
            clear he
            go_wp2
            go_quiet (fail)
            go_wp2
            go_roundw
            case rel => exact ⟨j + 1, by go_num, by omega, by omega, HN, Lib.hid (HE2.out.drewN _)⟩
            case measure => simp [intOf]; omega
          · have hbe : ((s[j].toNat : Int) == (s[k].toNat : Int)) = false := by
              rw [beq_eq_false_iff_ne]; intro e; exact he (UInt8.toNat_inj.1 (by omega))
            have hlt2 : k < j := by
              rcases Nat.lt_or_ge k j with h | h
              · exact h
              · exfalso; have : j = k := by omega
                subst this; exact he rfl
            have HD := Lib.hid (run_done s k j hlt hlt2 hjs HJ.out (fun _ => he))
            clear he
            obtain ⟨d, hd⟩ : ∃ d : Nat, j - k = d := ⟨_, rfl⟩
            have hdi : (j : Int) - (k : Int) = (d : Int) := by omega
            rw [hd] at HD
            have hd0 : d ≤ 200 := by omega
            have HDec := Lib.hid (fun W => s_l01Dec ((j : Int) - (k : Int)) (by unfold IsI64; omega) W)
            rw [hdi] at HDec
            have HDec2 : Hid (∀ W, Calls Tryd.prog 57 #[.int .i64 ((j : Int) - (k : Int))] W (RetE (.string (decS (d : Int))) W)) := Lib.hid (by rw [hdi]; exact HDec.out)
            clear HDec
            have hzd : (decS (d : Int)).size ≤ 20 := by unfold decS; rw [mkS_size]; exact decS_len hd0
            have hdl : 0 < (Lib.itoa (d : Int)).length ∧ (Lib.itoa (d : Int)).length ≤ 20 := ⟨itoa_pos d, decS_len hd0⟩
            have hmin : min (k + 1) s.size - k = 1 := by omega
            have HEX := Lib.hid (ext_one s k hlt)
            have HRR : Hid (runs (bts s) = (ws ++ [Lib.itoa (d : Int) ++ [s[k]]]) ++ runs ((bts s).drop j)) := Lib.hid (by rw [HR.out, HD.out, List.append_assoc]; rfl)
            have HWW : Hid ((ws ++ [Lib.itoa (d : Int) ++ [s[k]]]).length ≤ j ∧ ∀ x ∈ ws ++ [Lib.itoa (d : Int) ++ [s[k]]], 1 ≤ x.length ∧ x.length ≤ 21) := Lib.hid (by
              refine ⟨by simp; have := HW.out.1; omega, fun x hx => ?_⟩
              rcases List.mem_append.1 hx with hx | hx
              · exact HW.out.2 x hx
              · simp at hx; subst hx; simp; omega)
            have hke : (k : Int) + 1 ≤ (s.size : Int) := by omega
            clear hd hdl hdi
            by_cases hws : ws = []
            · subst hws
              have HV : Hid (decS (d : Int) ++ s.extract k (k + 1) = mkS (Lib.join ([] ++ [Lib.itoa (d : Int) ++ [s[k]]]) [32])) := Lib.hid (by rw [HEX.out, List.nil_append, join_one]; unfold decS; rw [mkS_app])
              have h0 : mkS (Lib.join [] [32]) = ⟨#[]⟩ := rfl
              rw [h0] at hzl ⊢
              clear HEX
              generalize decS (d : Int) = zd at *
              have hs1 : ¬ (9223372036854775807 < zd.size + 1) := by omega
              obtain ⟨α, hne, F, hK⟩ := cls_of wr
              have HK := Lib.hid hK
              clear hK hzl hzd
              go_wp2
              go_quiet (fail)
              go_wp2
              refine wp_region_cls F (by kernel_rfl) (by kernel_rfl) (HK.out.all _ (((Ext.refl wr).drewN _).drew)) ?_
              repeat (go_big_quiet_step ((go_at_call 57; exact HK.out.retE (HDec2.out _))))
              refine wpQuiet_nil ?_
              rintro _ ⟨z, rfl⟩
              have HE3 := Lib.hid (HE2.out.trans (HK.out.ext z))
              go_wp2
              go_roundw
              case rel => exact ⟨_, j, by rw [← HV.out]; rfl, by go_num, hjs, HRR, HWW, HE3⟩
              case measure => simp [intOf]; omega
            · have hzn : ¬ (mkS (Lib.join ws [32])).toList = [] := by rw [str_nilE]; exact join_ne hws (fun x hx => (HW.out.2 x hx).1)
              have hzm : (mkS (Lib.join ws [32])).toList.isEmpty = false := by
                cases hh : (mkS (Lib.join ws [32])).toList with
                | nil => exact absurd hh hzn
                | cons a l => rfl
              have HV : Hid ((mkS (Lib.join ws [32]) ++ ⟨#[32]⟩) ++ (decS (d : Int) ++ s.extract k (k + 1)) = mkS (Lib.join (ws ++ [Lib.itoa (d : Int) ++ [s[k]]]) [32])) := Lib.hid (by rw [HEX.out, join_snoc _ _ ws hws]; unfold decS; rw [show (⟨#[32]⟩ : ByteArray) = mkS [32] from rfl, mkS_app, mkS_app, mkS_app, List.append_assoc])
              clear HEX hws
              generalize decS (d : Int) = zd at *
              generalize mkS (Lib.join ws [32]) = zz at *
              have hs0 : ¬ (9223372036854775807 < zz.size + 1) := by omega
              have hs1 : ¬ (9223372036854775807 < zd.size + 1) := by omega
              have hs2 : ¬ (9223372036854775807 < zz.size + 1 + (zd.size + 1)) := by omega
              obtain ⟨α, hne, F, hK⟩ := cls_of wr
              have HK := Lib.hid hK
              clear hK hzl hzd
              go_wp2
              go_quiet (fail)
              go_wp2
              refine wp_region_cls F (by kernel_rfl) (by kernel_rfl) (HK.out.all _ (((Ext.refl wr).drewN _).drew)) ?_
              repeat (go_big_quiet_step ((go_at_call 57; exact HK.out.retE (HDec2.out _))))
              refine wpQuiet_nil ?_
              rintro _ ⟨z, rfl⟩
              have HE3 := Lib.hid (HE2.out.trans (HK.out.ext z))
              go_wp2
              go_roundw
              case rel => exact ⟨_, j, by rw [← HV.out], by go_num, hjs, HRR, HWW, HE3⟩
              case measure => simp [intOf]; omega
        · have hji : ¬ (j : Int) < (s.size : Int) := by omega
          have hlt2 : k < j := by omega
          have HD := Lib.hid (run_done s k j hlt hlt2 hjs HJ.out (fun h => absurd h hjn))
          obtain ⟨d, hd⟩ : ∃ d : Nat, j - k = d := ⟨_, rfl⟩
          have hdi : (j : Int) - (k : Int) = (d : Int) := by omega
          rw [hd] at HD
          have hd0 : d ≤ 200 := by omega
          have HDec := Lib.hid (fun W => s_l01Dec ((j : Int) - (k : Int)) (by unfold IsI64; omega) W)
          rw [hdi] at HDec
          have HDec2 : Hid (∀ W, Calls Tryd.prog 57 #[.int .i64 ((j : Int) - (k : Int))] W (RetE (.string (decS (d : Int))) W)) := Lib.hid (by rw [hdi]; exact HDec.out)
          clear HDec
          have hzd : (decS (d : Int)).size ≤ 20 := by unfold decS; rw [mkS_size]; exact decS_len hd0
          have hdl : 0 < (Lib.itoa (d : Int)).length ∧ (Lib.itoa (d : Int)).length ≤ 20 := ⟨itoa_pos d, decS_len hd0⟩
          have hmin : min (k + 1) s.size - k = 1 := by omega
          have HEX := Lib.hid (ext_one s k hlt)
          have HRR : Hid (runs (bts s) = (ws ++ [Lib.itoa (d : Int) ++ [s[k]]]) ++ runs ((bts s).drop j)) := Lib.hid (by rw [HR.out, HD.out, List.append_assoc]; rfl)
          have HWW : Hid ((ws ++ [Lib.itoa (d : Int) ++ [s[k]]]).length ≤ j ∧ ∀ x ∈ ws ++ [Lib.itoa (d : Int) ++ [s[k]]], 1 ≤ x.length ∧ x.length ≤ 21) := Lib.hid (by
            refine ⟨by simp; have := HW.out.1; omega, fun x hx => ?_⟩
            rcases List.mem_append.1 hx with hx | hx
            · exact HW.out.2 x hx
            · simp at hx; subst hx; simp; omega)
          have hke : (k : Int) + 1 ≤ (s.size : Int) := by omega
          clear hd hdl hdi
          by_cases hws : ws = []
          · subst hws
            have HV : Hid (decS (d : Int) ++ s.extract k (k + 1) = mkS (Lib.join ([] ++ [Lib.itoa (d : Int) ++ [s[k]]]) [32])) := Lib.hid (by rw [HEX.out, List.nil_append, join_one]; unfold decS; rw [mkS_app])
            have h0 : mkS (Lib.join [] [32]) = ⟨#[]⟩ := rfl
            rw [h0] at hzl ⊢
            clear HEX
            generalize decS (d : Int) = zd at *
            have hs1 : ¬ (9223372036854775807 < zd.size + 1) := by omega
            obtain ⟨α, hne, F, hK⟩ := cls_of wr
            have HK := Lib.hid hK
            clear hK hzl hzd
            go_wp2
            go_quiet (fail)
            go_wp2
            refine wp_region_cls F (by kernel_rfl) (by kernel_rfl) (HK.out.all _ (((Ext.refl wr).drewN _).drew)) ?_
            repeat (go_big_quiet_step ((go_at_call 57; exact HK.out.retE (HDec2.out _))))
            refine wpQuiet_nil ?_
            rintro _ ⟨z, rfl⟩
            have HE3 := Lib.hid (HE2.out.trans (HK.out.ext z))
            go_wp2
            go_roundw
            case rel => exact ⟨_, j, by rw [← HV.out]; rfl, by go_num, hjs, HRR, HWW, HE3⟩
            case measure => simp [intOf]; omega
          · have hzn : ¬ (mkS (Lib.join ws [32])).toList = [] := by rw [str_nilE]; exact join_ne hws (fun x hx => (HW.out.2 x hx).1)
            have hzm : (mkS (Lib.join ws [32])).toList.isEmpty = false := by
              cases hh : (mkS (Lib.join ws [32])).toList with
              | nil => exact absurd hh hzn
              | cons a l => rfl
            have HV : Hid ((mkS (Lib.join ws [32]) ++ ⟨#[32]⟩) ++ (decS (d : Int) ++ s.extract k (k + 1)) = mkS (Lib.join (ws ++ [Lib.itoa (d : Int) ++ [s[k]]]) [32])) := Lib.hid (by rw [HEX.out, join_snoc _ _ ws hws]; unfold decS; rw [show (⟨#[32]⟩ : ByteArray) = mkS [32] from rfl, mkS_app, mkS_app, mkS_app, List.append_assoc])
            clear HEX hws
            generalize decS (d : Int) = zd at *
            generalize mkS (Lib.join ws [32]) = zz at *
            have hs0 : ¬ (9223372036854775807 < zz.size + 1) := by omega
            have hs1 : ¬ (9223372036854775807 < zd.size + 1) := by omega
            have hs2 : ¬ (9223372036854775807 < zz.size + 1 + (zd.size + 1)) := by omega
            obtain ⟨α, hne, F, hK⟩ := cls_of wr
            have HK := Lib.hid hK
            clear hK hzl hzd
            go_wp2
            go_quiet (fail)
            go_wp2
            refine wp_region_cls F (by kernel_rfl) (by kernel_rfl) (HK.out.all _ (((Ext.refl wr).drewN _).drew)) ?_
            repeat (go_big_quiet_step ((go_at_call 57; exact HK.out.retE (HDec2.out _))))
            refine wpQuiet_nil ?_
            rintro _ ⟨z, rfl⟩
            have HE3 := Lib.hid (HE2.out.trans (HK.out.ext z))
            go_wp2
            go_roundw
            case rel => exact ⟨_, j, by rw [← HV.out], by go_num, hjs, HRR, HWW, HE3⟩
            case measure => simp [intOf]; omega
    · have HFin : Hid (ws = runs (bts s)) := Lib.hid (by rw [HR.out, List.drop_eq_nil_of_le (by rw [bts_length]; omega), runs_nil, List.append_nil])
      go_wp2
      go_ret
      exact RetE.mk (by rw [HFin.out]; rfl) HE.out
end Go.Proofs.YtaokeaiehjgbnaaDoor
