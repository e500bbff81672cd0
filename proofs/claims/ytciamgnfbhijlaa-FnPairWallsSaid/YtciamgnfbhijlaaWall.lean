/- Contracts of the functions that say whether courses are a wall. -/
import Derived.Test.YtciamgnfbhijlaaStrs2
import Derived.Test.YtciamgnfbhijlaaBasic
namespace Go.Proofs.Ytciamgnfbhijlaa
open Go.RowKit
set_option linter.unusedSimpArgs false
set_option linter.unusedVariables false
set_option linter.unnecessarySimpa false

theorem f_IndexFunc_str (F : Nat) (caps : Array Value) (p : ByteArray → Bool) (ao : Option Addr) (n c : Nat) (xs : List ByteArray) (w : World) (hx : Strs w ao n xs)
    (eg : ∀ args w', (callFunc F args).run Try.prog w' = .ok (.enter F args) w')
    (hp : ∀ x w', x ∈ xs → Ext w w' → Calls Try.prog F (#[.string x] ++ caps) w' (RetE (.bool (p x)) w')) :
    Calls Try.prog 82 #[.slice ao n c, .func (.func F) #[] caps] w (fun e w' => (∃ i : Int, e = .returned (.int .i64 i) ∧ (decide (0 ≤ i)) = xs.any p) ∧ Ext w w') := by
  obtain ⟨hxl, hxm, hxc, hxi⟩ := hx
  go_enter Try.func82, Try.ntmps82
  go_wp2
  go_loopw [8] (fun i wr => ∃ k : Nat, k ≤ n ∧ i = .int .i64 k ∧ (xs.take k).any p = false ∧ Ext w wr) (fun i _ => n - (intOf i).toNat)
  case atStart => exact ⟨0, Nat.zero_le _, rfl, by simp, Ext.refl _⟩
  case round =>
    obtain ⟨k, hk, rfl, htk, er⟩ := hrel
    have HT := Lib.hid htk; clear htk
    by_cases hlt : k < n
    · obtain ⟨b, off, rfl, hc⟩ := hxc k hlt
      obtain ⟨x, hxk⟩ : ∃ x, xs.getD k ByteArray.empty = x := ⟨_, rfl⟩
      have g1 := er.cell hc
      rw [hxk] at g1
      have hkx : k < xs.length := by omega
      rw [List.getD_eq_getElem?_getD, List.getElem?_eq_getElem hkx, Option.getD_some] at hxk
      have hxm2 : x ∈ xs := by rw [← hxk]; exact List.getElem_mem _
      have HX := Lib.hid hxk
      clear hc hxc hxk
      have HP := Lib.hid hp; clear hp
      by_cases hpx : p x = true
      · go_wp2_with (refine (HP.out x _ hxm2 er).mono ?_; rw [hpx]; rintro e w1 ⟨rfl, e1⟩)
        go_ret
        refine ⟨⟨k, rfl, ?_⟩, er.trans e1⟩
        rw [show decide ((0 : Int) ≤ (k : Int)) = true from by simp, eq_comm, List.any_eq_true]
        exact ⟨x, by rw [← HX.out]; exact List.getElem_mem _, hpx⟩
      · rw [Bool.not_eq_true] at hpx
        go_wp2_with (refine (HP.out x _ hxm2 er).mono ?_; rw [hpx]; rintro e w1 ⟨rfl, e1⟩)
        go_roundw
        case rel =>
          refine ⟨k + 1, by omega, by go_num, ?_, er.trans e1⟩
          rw [List.take_succ_eq_append_getElem hkx, List.any_append, HT.out, HX.out]
          simp [hpx]
        case measure => simp [intOf]; omega
    · go_wp2
      go_ret
      refine ⟨⟨-1, rfl, ?_⟩, er⟩
      have h := HT.out
      rw [List.take_of_length_le (by omega)] at h
      rw [h]; rfl
theorem f_ContainsFunc_str (F : Nat) (caps : Array Value) (p : ByteArray → Bool) (ao : Option Addr) (n c : Nat) (xs : List ByteArray) (w : World) (hx : Strs w ao n xs)
    (eg : ∀ args w', (callFunc F args).run Try.prog w' = .ok (.enter F args) w')
    (hp : ∀ x w', x ∈ xs → Ext w w' → Calls Try.prog F (#[.string x] ++ caps) w' (RetE (.bool (p x)) w')) :
    Calls Try.prog 77 #[.slice ao n c, .func (.func F) #[] caps] w (RetE (.bool (xs.any p)) w) := by
  have HI := Lib.hid (f_IndexFunc_str F caps p ao n c xs w hx eg hp)
  clear hp
  go_enter Try.func77, Try.ntmps77
  go_wp2_with (go_at_call 82; refine HI.out.mono ?_; rintro e w1 ⟨⟨i, rfl, hi⟩, e1⟩; have HJ := Lib.hid hi; clear hi)
  go_ret
  exact RetE.mk (bool_eq HJ.out) e1

/-- the sum of the quarters of a course -/
def lenS (s : ByteArray) : Int := qSum (bts s)
/-- what makes a text no course of a wall whose first course has a length -/
def badC (q : Int) (c : ByteArray) : Bool := !validC (bts c) || decide (lenS c ≠ q)
def headL (ss : List ByteArray) : Int := lenS (ss.getD 0 ByteArray.empty)
/-- a wall -/
def validW (ss : List ByteArray) : Bool := inB ss.length 1 40 && !(ss.any (badC (headL ss)))
def Small (ss : List ByteArray) : Prop := ∀ s ∈ ss, s.size ≤ 1000000000
set_option maxHeartbeats 800000 in
theorem i_ValidWall_1 (x : ByteArray) (p : Addr) (ao : Option Addr) (n c : Nat) (ss : List ByteArray) (w : World) (hp : w.cell? p = some (.slice ao n c)) (hx : Strs w ao n ss) (hs : Small ss) (h0 : 0 < n) (hx1 : x.size ≤ 1000000000) :
    Calls Try.prog 78 #[.string x, .pointer (some p)] w (RetE (.bool (badC (headL ss) x)) w) := by
  obtain ⟨hxl, hxm, hxc, hxi⟩ := hx
  obtain ⟨b, off, rfl, hc⟩ := hxc 0 h0
  have hmem : ss.getD 0 ByteArray.empty ∈ ss := by
    rw [List.getD_eq_getElem?_getD, List.getElem?_eq_getElem (by omega)]
    exact List.getElem_mem _
  have hs0 := hs _ hmem
  have hq : headL ss = lenS (ss.getD 0 ByteArray.empty) := rfl
  obtain ⟨s0, he⟩ : ∃ s0, ss.getD 0 ByteArray.empty = s0 := ⟨_, rfl⟩
  rw [he] at hc hs0 hq
  rw [Nat.add_zero] at hc
  have HQ := Lib.hid hq
  have h0i : (0 : Int) < (n : Int) := by omega
  clear hxc hxi hmem he hq hs hxl
  by_cases g : validC (bts x) = true
  · by_cases g2 : lenS x = lenS s0
    · have HV : Hid (badC (headL ss) x = false) := Lib.hid (by unfold badC; rw [g, HQ.out]; simp [g2])
      have g3 : qSum (bts x) = qSum (bts s0) := g2
      obtain ⟨q, hqq⟩ : ∃ q, qSum (bts s0) = q := ⟨_, rfl⟩
      have H1 : Hid (∀ W, Calls Try.prog 45 #[.string x] W (RetV (.int .i64 q) W)) := Lib.hid (fun W => by rw [← hqq, ← g3]; exact i_lengthOf x (by omega) W)
      have H2 : Hid (∀ W, Calls Try.prog 45 #[.string s0] W (RetV (.int .i64 q) W)) := Lib.hid (fun W => by rw [← hqq]; exact i_lengthOf s0 (by omega) W)
      have H3 : Hid (∀ W, Calls Try.prog 43 #[.string x] W (RetV (.bool true) W)) := Lib.hid (fun W => by rw [← g]; exact i_ValidCourse x (by omega) W)
      clear g g2 g3 hqq
      go_enter Try.func78, Try.ntmps78
      go_wp2
      go_quiet (first | (go_at_call 43; exact quiet_retv (H3.out _)) | (go_at_call_of 45 (Value.string x); exact quiet_retv (H1.out _)) | (go_at_call_of 45 (Value.string s0); exact quiet_retv (H2.out _)))
      go_wp2
      go_ret
      exact RetE.mk (bool_eq HV.out.symm) ((Ext.refl w).drewN _)
    · have HV : Hid (badC (headL ss) x = true) := Lib.hid (by unfold badC; rw [g, HQ.out]; simp [g2])
      have g3 : ¬ qSum (bts x) = qSum (bts s0) := g2
      obtain ⟨q, hqq⟩ : ∃ q, qSum (bts s0) = q := ⟨_, rfl⟩
      obtain ⟨r, hrr⟩ : ∃ r, qSum (bts x) = r := ⟨_, rfl⟩
      rw [hqq, hrr] at g3
      have n3 : (r != q) = true := by simp [g3]
      have H1 : Hid (∀ W, Calls Try.prog 45 #[.string x] W (RetV (.int .i64 r) W)) := Lib.hid (fun W => by rw [← hrr]; exact i_lengthOf x (by omega) W)
      have H2 : Hid (∀ W, Calls Try.prog 45 #[.string s0] W (RetV (.int .i64 q) W)) := Lib.hid (fun W => by rw [← hqq]; exact i_lengthOf s0 (by omega) W)
      have H3 : Hid (∀ W, Calls Try.prog 43 #[.string x] W (RetV (.bool true) W)) := Lib.hid (fun W => by rw [← g]; exact i_ValidCourse x (by omega) W)
      clear g g2 hqq hrr
      go_enter Try.func78, Try.ntmps78
      go_wp2
      go_quiet (first | (go_at_call 43; exact quiet_retv (H3.out _)) | (go_at_call_of 45 (Value.string x); exact quiet_retv (H1.out _)) | (go_at_call_of 45 (Value.string s0); exact quiet_retv (H2.out _)))
      go_wp2
      go_ret
      exact RetE.mk (bool_eq HV.out.symm) ((Ext.refl w).drewN _)
  · rw [Bool.not_eq_true] at g
    have HV : Hid (badC (headL ss) x = true) := Lib.hid (by unfold badC; rw [g]; rfl)
    have H3 : Hid (∀ W, Calls Try.prog 43 #[.string x] W (RetV (.bool false) W)) := Lib.hid (fun W => by rw [← g]; exact i_ValidCourse x (by omega) W)
    clear g
    go_enter Try.func78, Try.ntmps78
    go_wp2
    go_quiet (first | (go_at_call 43; exact quiet_retv (H3.out _)))
    go_wp2
    go_ret
    exact RetE.mk (bool_eq HV.out.symm) ((Ext.refl w).drewN _)
theorem enters_ValidWall1 : ∀ args w, (callFunc 78 args).run Try.prog w = .ok (.enter 78 args) w := enters_of Try.func78 (by kernel_rfl) rfl
set_option maxHeartbeats 800000 in
theorem i_ValidWall (ao : Option Addr) (n c : Nat) (ss : List ByteArray) (w : World) (hx : Strs w ao n ss) (hs : Small ss) :
    Calls Try.prog 67 #[.slice ao n c] w (RetE (.bool (validW ss)) w) := by
  have e2 : Ext w (w.alloc (.cells #[.slice ao n c] 41)) := (Ext.refl w).alloc _
  have hl := hx.1
  have hm := hx.2.1
  by_cases g : inB n 1 40 = true
  · have ⟨g1, g2⟩ := inB_iff.1 g
    have HV : Hid (validW ss = !(ss.any (badC (headL ss)))) := Lib.hid (by unfold validW; rw [hl, g]; rfl)
    have H0 : Hid (∀ W, Calls Try.prog 44 #[.int .i64 n, .int .i64 1, .int .i64 40] W (RetV (.bool true) W)) := Lib.hid (fun W => by rw [← g]; exact i_within _ _ _ W)
    clear g hl
    go_enter Try.func67, Try.ntmps67
    go_wp2_with (first | (go_at_call 44; refine (H0.out _).mono ?_; rintro e w' ⟨rfl, rfl⟩) | (go_at_call 77; refine (f_ContainsFunc_str 78 _ (badC (headL ss)) ao n c ss _ (hx.ext e2) enters_ValidWall1 ?_).mono ?_))
    · intro x w' hxm e3
      exact i_ValidWall_1 x _ ao n c ss w' (e3.cell (by simp)) ((hx.ext e2).ext e3) hs (by omega) (hs x hxm)
    · rintro e w1 ⟨rfl, e1⟩
      go_wp2
      go_ret
      exact RetE.mk (bool_eq HV.out.symm) (e2.trans e1)
  · rw [Bool.not_eq_true] at g
    have HV : Hid (validW ss = false) := Lib.hid (by unfold validW; rw [hl, g]; rfl)
    have H0 : Hid (∀ W, Calls Try.prog 44 #[.int .i64 n, .int .i64 1, .int .i64 40] W (RetV (.bool false) W)) := Lib.hid (fun W => by rw [← g]; exact i_within _ _ _ W)
    clear g hl
    go_enter Try.func67, Try.ntmps67
    go_wp2_with (first | (go_at_call 44; refine (H0.out _).mono ?_; rintro e w' ⟨rfl, rfl⟩))
    go_ret
    exact RetE.mk (bool_eq HV.out.symm) e2
set_option maxHeartbeats 1600000 in
theorem s_l06Wall (ao : Option Addr) (n c : Nat) (ss : List ByteArray) (w : World) (hx : Strs w ao n ss) (hs : Small ss) :
    Calls Try.prog 60 #[.slice ao n c] w (RetE (.bool (validW ss)) w) := by
  obtain ⟨hxl, hxm, hxc, hxi⟩ := hx
  go_enter Try.func60, Try.ntmps60
  go_wp2
  go_loopw [3] (fun i wr => ∃ k : Nat, k ≤ n ∧ i = .int .i64 k ∧ (ss.take k).any (badC (headL ss)) = false ∧ Ext w wr) (fun i _ => n - (intOf i).toNat)
  case atStart => exact ⟨0, Nat.zero_le _, rfl, by simp, Ext.refl _⟩
  case round =>
    obtain ⟨k, hk, rfl, htk, er⟩ := hrel
    have HT := Lib.hid htk; clear htk
    by_cases hlt : k < n
    · obtain ⟨b, off, rfl, hc⟩ := hxc k hlt
      obtain ⟨b', off', hbb, hc0⟩ := hxc 0 (by omega)
      have hbe : b = b' ∧ off = off' := by simp at hbb; exact hbb
      obtain ⟨rfl, rfl⟩ := hbe
      have hkx : k < ss.length := by omega
      have hm0 : ss.getD 0 ByteArray.empty ∈ ss := by
        rw [List.getD_eq_getElem?_getD, List.getElem?_eq_getElem (by omega)]
        exact List.getElem_mem _
      have hmk : ss.getD k ByteArray.empty ∈ ss := by
        rw [List.getD_eq_getElem?_getD, List.getElem?_eq_getElem hkx]
        exact List.getElem_mem _
      have hq : headL ss = lenS (ss.getD 0 ByteArray.empty) := rfl
      obtain ⟨s0, he⟩ : ∃ s0, ss.getD 0 ByteArray.empty = s0 := ⟨_, rfl⟩
      obtain ⟨x, hxk⟩ : ∃ x, ss.getD k ByteArray.empty = x := ⟨_, rfl⟩
      rw [he] at hc0 hm0 hq
      rw [hxk] at hc hmk
      rw [Nat.add_zero] at hc0
      have hs0 := hs _ hm0
      have hs1 := hs _ hmk
      have G0 := er.cell hc0
      have G1 := er.cell hc
      have hsucc : (ss.take (k + 1)).any (badC (headL ss)) = badC (headL ss) x := by
        rw [List.take_succ_eq_append_getElem hkx, List.any_append, HT.out]
        rw [List.getD_eq_getElem?_getD, List.getElem?_eq_getElem hkx, Option.getD_some] at hxk
        simp [hxk]
      have hbad : badC (headL ss) x = true → validW ss = false := by
        intro h
        have : ss.any (badC (headL ss)) = true := List.any_eq_true.2 ⟨x, hmk, h⟩
        simp [validW, this]
      have HQ := Lib.hid hq
      have HS := Lib.hid hsucc
      have HB := Lib.hid hbad
      have h0i : (0 : Int) < (n : Int) := by omega
      have h0n : 0 < n := by omega
      clear hxc hc hc0 hbb he hxk hq hsucc hbad hm0 hmk hkx
      by_cases g : validC (bts x) = true
      · by_cases g2 : lenS x = lenS s0
        · have HV : Hid (badC (headL ss) x = false) := Lib.hid (by unfold badC; rw [g, HQ.out]; simp [g2])
          have g3 : qSum (bts x) = qSum (bts s0) := g2
          obtain ⟨q, hqq⟩ : ∃ q, qSum (bts s0) = q := ⟨_, rfl⟩
          have H1 : Hid (∀ W, Calls Try.prog 56 #[.string x] W (RetV (.int .i64 q) W)) := Lib.hid (fun W => by rw [← hqq, ← g3]; exact s_l06Length x (by omega) W)
          have H2 : Hid (∀ W, Calls Try.prog 56 #[.string s0] W (RetV (.int .i64 q) W)) := Lib.hid (fun W => by rw [← hqq]; exact s_l06Length s0 (by omega) W)
          have H3 : Hid (∀ W, Calls Try.prog 38 #[.string x] W (RetV (.bool true) W)) := Lib.hid (fun W => by rw [← g]; exact s_l06Ok x (by omega) W)
          clear g g2 g3 hqq
          go_wp2
          go_quiet (first | (go_at_call 38; exact quiet_retv (H3.out _)) | (go_at_call_of 56 (Value.string x); exact quiet_retv (H1.out _)) | (go_at_call_of 56 (Value.string s0); exact quiet_retv (H2.out _)))
          go_wp2
          go_roundw
          case rel => exact ⟨k + 1, by omega, by go_num, by rw [HS.out, HV.out], er.drewN _⟩
          case measure => simp [intOf]; omega
        · have HV : Hid (badC (headL ss) x = true) := Lib.hid (by unfold badC; rw [g, HQ.out]; simp [g2])
          have g3 : ¬ qSum (bts x) = qSum (bts s0) := g2
          obtain ⟨q, hqq⟩ : ∃ q, qSum (bts s0) = q := ⟨_, rfl⟩
          obtain ⟨r, hrr⟩ : ∃ r, qSum (bts x) = r := ⟨_, rfl⟩
          rw [hqq, hrr] at g3
          have n3 : (r != q) = true := by simp [g3]
          have H1 : Hid (∀ W, Calls Try.prog 56 #[.string x] W (RetV (.int .i64 r) W)) := Lib.hid (fun W => by rw [← hrr]; exact s_l06Length x (by omega) W)
          have H2 : Hid (∀ W, Calls Try.prog 56 #[.string s0] W (RetV (.int .i64 q) W)) := Lib.hid (fun W => by rw [← hqq]; exact s_l06Length s0 (by omega) W)
          have H3 : Hid (∀ W, Calls Try.prog 38 #[.string x] W (RetV (.bool true) W)) := Lib.hid (fun W => by rw [← g]; exact s_l06Ok x (by omega) W)
          clear g g2 hqq hrr
          go_wp2
          go_quiet (first | (go_at_call 38; exact quiet_retv (H3.out _)) | (go_at_call_of 56 (Value.string x); exact quiet_retv (H1.out _)) | (go_at_call_of 56 (Value.string s0); exact quiet_retv (H2.out _)))
          go_wp2
          go_ret
          exact RetE.mk (bool_eq (HB.out HV.out).symm) (er.drewN _)
      · rw [Bool.not_eq_true] at g
        have HV : Hid (badC (headL ss) x = true) := Lib.hid (by unfold badC; rw [g]; rfl)
        have H3 : Hid (∀ W, Calls Try.prog 38 #[.string x] W (RetV (.bool false) W)) := Lib.hid (fun W => by rw [← g]; exact s_l06Ok x (by omega) W)
        clear g
        go_wp2
        go_quiet (first | (go_at_call 38; exact quiet_retv (H3.out _)))
        go_wp2
        go_ret
        exact RetE.mk (bool_eq (HB.out HV.out).symm) (er.drewN _)
    · have hall : ss.any (badC (headL ss)) = false := by
        have h := HT.out
        rw [List.take_of_length_le (by omega)] at h
        exact h
      have HV : Hid (validW ss = inB n 1 40) := Lib.hid (by unfold validW; rw [hall, hxl]; simp)
      clear hall
      go_wp2_with (go_at_call 48; refine (s_l00In _ _ _ _).mono ?_; rintro e w' ⟨rfl, rfl⟩)
      go_ret
      exact RetE.mk (bool_eq HV.out.symm) er
end Go.Proofs.Ytciamgnfbhijlaa
