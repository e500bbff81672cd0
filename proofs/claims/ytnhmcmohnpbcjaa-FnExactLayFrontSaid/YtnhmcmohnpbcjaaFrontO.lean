/- Where a lintel lies: both sides; parts compared. -/
import Derived.Test.YtnhmcmohnpbcjaaFrontL
import Derived.Test.YtnhmcmohnpbcjaaRecs
namespace Go.Proofs.Ytnhmcmohnpbcjaa
open Go.RowKit
set_option linter.unusedSimpArgs false
set_option linter.unusedVariables false
set_option linter.unnecessarySimpa false

def ltC (L C k b : Int) (os : List Opn) : Int :=
  if validF L C os then (if inB k 0 ((os.length : Int) - 1) && inB b 0 20 then (if (os.getD k.toNat default).fr - b < 0 ∨ L < (os.getD k.toNat default).en + b ∨ (os.getD k.toNat default).hi = C then 6 else 0) else 2) else 1
def ltA (L C k b : Int) (os : List Opn) : Int := if ltC L C k b os = 0 then (os.getD k.toNat default).fr - b else 0
def ltE (L C k b : Int) (os : List Opn) : Int := if ltC L C k b os = 0 then (os.getD k.toNat default).en + b else 0
def ltV (L C k b : Int) (os : List Opn) : Value := .tuple #[.agg #[.int .i64 (ltA L C k b os), .int .i64 (ltE L C k b os)], .int .i64 (ltC L C k b os)]
theorem ltV_bad {L C k b q : Int} {os : List Opn} (h : ltC L C k b os = q) (hq : q ≠ 0) : Value.tuple #[.agg #[.int .i64 0, .int .i64 0], .int .i64 q] = ltV L C k b os := by
  unfold ltV ltA ltE
  rw [if_neg (by rw [h]; exact hq), if_neg (by rw [h]; exact hq), h]
theorem ltV_good {L C k b : Int} {os : List Opn} (h : ltC L C k b os = 0) : Value.tuple #[.agg #[.int .i64 ((os.getD k.toNat default).fr - b), .int .i64 ((os.getD k.toNat default).en + b)], .int .i64 0] = ltV L C k b os := by
  unfold ltV ltA ltE
  rw [if_pos h, if_pos h, h]
theorem or_three (p q r : Prop) : (p ∨ (¬ p ∧ q) ∨ (¬ p ∧ ¬ q ∧ r)) ∨ (¬ p ∧ ¬ q ∧ ¬ r) := by
  by_cases p <;> by_cases q <;> by_cases r <;> simp [*]
set_option maxRecDepth 100000 in
set_option maxHeartbeats 4000000 in
theorem i_LintelOf (L C : Int) (ao : Option Addr) (n c : Nat) (os : List Opn) (k b : Int) (w : World) (hx : Opens w ao n os) (hnc : n ≤ c) :
    Calls Try.prog 43 #[.agg #[.int .i64 L, .int .i64 C, .slice ao n c], .int .i64 k, .int .i64 b] w (RetE (ltV L C k b os) w) := by
  have hxl := hx.1
  have hxm := hx.2.1
  have HE : Hid (Ext w ((w.alloc (.cells #[.int .i64 L, .int .i64 C, .slice ao n c] 30)).alloc (.cells #[.int .i64 0, .int .i64 0] 51))) := Lib.hid (((Ext.refl w).alloc _).alloc _)
  have A : Three ((w.alloc (.cells #[.int .i64 L, .int .i64 C, .slice ao n c] 30)).alloc (.cells #[.int .i64 0, .int .i64 0] 51)) w.heap.size (.int .i64 L) (.int .i64 C) (.slice ao n c) := (Three.new w _ _ _ _).ext ((Ext.refl _).alloc _)
  have HB0 : Hid (Box 51 ((w.alloc (.cells #[.int .i64 L, .int .i64 C, .slice ao n c] 30)).alloc (.cells #[.int .i64 0, .int .i64 0] 51)) w.heap.size (w.heap.size + 1) [.int .i64 0, .int .i64 0]) := Lib.hid (by
    have := Box.new 51 (w.alloc (.cells #[.int .i64 L, .int .i64 C, .slice ao n c] 30)) w.heap.size [.int .i64 0, .int .i64 0] (by simp)
    rw [World.size_alloc] at this
    exact this)
  have H1 := Lib.hid (fun W (e : Ext w W) => i_ValidFront L C ao n c os W (hx.ext e) hnc)
  by_cases hv : validF L C os = true
  · rw [hv] at H1
    have HWk := Lib.hid (fun W => i_within k 0 ((n : Int) - 1) W)
    have HWb := Lib.hid (fun W => i_within b 0 20 W)
    by_cases hk : inB k 0 ((n : Int) - 1) = true
    · by_cases hb : inB b 0 20 = true
      · rw [hk] at HWk
        rw [hb] at HWb
        have ⟨k1, k2⟩ := inB_iff.1 hk
        have ⟨b1, b2⟩ := inB_iff.1 hb
        obtain ⟨⟨l1, l2⟩, ⟨c1, c2⟩, n8, hok⟩ := validF_bd hv
        obtain ⟨j, rfl⟩ : ∃ j : Nat, k = j := ⟨k.toNat, by omega⟩
        have hjn : j < n := by omega
        have ho := isOpn_iff.1 (okTo_opn hok (show j < os.length by omega))
        have hC : ltC L C j b os = if (os.getD j default).fr - b < 0 ∨ L < (os.getD j default).en + b ∨ (os.getD j default).hi = C then 6 else 0 := by
          unfold ltC
          rw [if_pos hv, hxl, hk, hb, Int.toNat_natCast]
          rfl
        have hG := fun h => ltV_good (L := L) (C := C) (k := j) (b := b) (os := os) h
        rw [Int.toNat_natCast] at hG
        obtain ⟨bb, off, rfl, d0, d1, d2, d3⟩ := hx.2.2.1 j hjn
        obtain ⟨x, hxk⟩ : ∃ x, os.getD j default = x := ⟨_, rfl⟩
        rw [hxk] at d0 d1 d2 d3 ho hC hG
        have HC := Lib.hid hC
        have HG := Lib.hid hG
        obtain ⟨x1, x2, x3, x4⟩ := x
        have HK : Hid (Four w bb (off + j * 4) x1 x2 x3 x4) := Lib.hid ⟨d0, d1, d2, d3⟩
        have ho' : 0 ≤ x1 ∧ x1 < x2 ∧ x2 ≤ L ∧ 0 ≤ x3 ∧ x3 < x4 ∧ x4 ≤ C := ho
        clear hk hb hok d0 d1 d2 d3 hxk ho hC hG hv hxl hx
        have hjn2 : (j : Int) < (n : Int) := by omega
        rcases or_three (x1 - b < 0) (L < x2 + b) (x4 = C) with hbad | ⟨g1, g2, g3⟩
        · have HV : Hid (ltC L C j b os = 6) := Lib.hid (by rw [HC.out, if_pos (by rcases hbad with h | h | h; exact .inl h; exact .inr (.inl h.2); exact .inr (.inr h.2.2))])
          rcases hbad with g1 | ⟨g1, g2⟩ | ⟨g1, g2, g3⟩
          · go_enter Try.func43, Try.ntmps43
            go_wp2_with (first | (go_at_call 51; refine (H1.out _ HE.out).mono ?_; rintro e w1 ⟨rfl, e1⟩; replace A := A.ext e1; obtain ⟨K0, K1, K2, K3⟩ := HK.out.ext (HE.out.trans e1); obtain ⟨p0, q0⟩ := (HB0.out.ext (e1.alloc (.cells #[.int .i64 x1, .int .i64 x2, .int .i64 x3, .int .i64 x4] 34))).at 0 (by simp) _ rfl; obtain ⟨p1, q1⟩ := (HB0.out.ext (e1.alloc (.cells #[.int .i64 x1, .int .i64 x2, .int .i64 x3, .int .i64 x4] 34))).at 1 (by simp) _ rfl; have A2 := A.ext ((Ext.refl w1).alloc (.cells #[.int .i64 x1, .int .i64 x2, .int .i64 x3, .int .i64 x4] 34)); have EF := Lib.hid (HE.out.trans (e1.alloc (.cells #[.int .i64 x1, .int .i64 x2, .int .i64 x3, .int .i64 x4] 34)))) | (go_at_call_of 79 (Value.int .i64 20); refine (HWb.out _).mono ?_; rintro e w' ⟨rfl, rfl⟩) | (go_at_call 79; refine (HWk.out _).mono ?_; rintro e w' ⟨rfl, rfl⟩))
            refine bodyPost_ret (v := .tuple #[.agg #[.int .i64 0, .int .i64 0], .int .i64 6]) (by simp [results, Try.results43, go_sem, p0, p1]) rfl (RetE.mk (ltV_bad HV.out (by decide)) ?_)
            repeat' (first | exact EF.out | (dsimp only; omega) | refine Ext.setCell ?_ ?_ _ | refine Ext.alloc ?_ _)
          · go_enter Try.func43, Try.ntmps43
            go_wp2_with (first | (go_at_call 51; refine (H1.out _ HE.out).mono ?_; rintro e w1 ⟨rfl, e1⟩; replace A := A.ext e1; obtain ⟨K0, K1, K2, K3⟩ := HK.out.ext (HE.out.trans e1); obtain ⟨p0, q0⟩ := (HB0.out.ext (e1.alloc (.cells #[.int .i64 x1, .int .i64 x2, .int .i64 x3, .int .i64 x4] 34))).at 0 (by simp) _ rfl; obtain ⟨p1, q1⟩ := (HB0.out.ext (e1.alloc (.cells #[.int .i64 x1, .int .i64 x2, .int .i64 x3, .int .i64 x4] 34))).at 1 (by simp) _ rfl; have A2 := A.ext ((Ext.refl w1).alloc (.cells #[.int .i64 x1, .int .i64 x2, .int .i64 x3, .int .i64 x4] 34)); have EF := Lib.hid (HE.out.trans (e1.alloc (.cells #[.int .i64 x1, .int .i64 x2, .int .i64 x3, .int .i64 x4] 34)))) | (go_at_call_of 79 (Value.int .i64 20); refine (HWb.out _).mono ?_; rintro e w' ⟨rfl, rfl⟩) | (go_at_call 79; refine (HWk.out _).mono ?_; rintro e w' ⟨rfl, rfl⟩))
            refine bodyPost_ret (v := .tuple #[.agg #[.int .i64 0, .int .i64 0], .int .i64 6]) (by simp [results, Try.results43, go_sem, p0, p1]) rfl (RetE.mk (ltV_bad HV.out (by decide)) ?_)
            repeat' (first | exact EF.out | (dsimp only; omega) | refine Ext.setCell ?_ ?_ _ | refine Ext.alloc ?_ _)
          · subst g3
            go_enter Try.func43, Try.ntmps43
            go_wp2_with (first | (go_at_call 51; refine (H1.out _ HE.out).mono ?_; rintro e w1 ⟨rfl, e1⟩; replace A := A.ext e1; obtain ⟨K0, K1, K2, K3⟩ := HK.out.ext (HE.out.trans e1); obtain ⟨p0, q0⟩ := (HB0.out.ext (e1.alloc (.cells #[.int .i64 x1, .int .i64 x2, .int .i64 x3, .int .i64 x4] 34))).at 0 (by simp) _ rfl; obtain ⟨p1, q1⟩ := (HB0.out.ext (e1.alloc (.cells #[.int .i64 x1, .int .i64 x2, .int .i64 x3, .int .i64 x4] 34))).at 1 (by simp) _ rfl; have A2 := A.ext ((Ext.refl w1).alloc (.cells #[.int .i64 x1, .int .i64 x2, .int .i64 x3, .int .i64 x4] 34)); have EF := Lib.hid (HE.out.trans (e1.alloc (.cells #[.int .i64 x1, .int .i64 x2, .int .i64 x3, .int .i64 x4] 34)))) | (go_at_call_of 79 (Value.int .i64 20); refine (HWb.out _).mono ?_; rintro e w' ⟨rfl, rfl⟩) | (go_at_call 79; refine (HWk.out _).mono ?_; rintro e w' ⟨rfl, rfl⟩))
            refine bodyPost_ret (v := .tuple #[.agg #[.int .i64 0, .int .i64 0], .int .i64 6]) (by simp [results, Try.results43, go_sem, p0, p1]) rfl (RetE.mk (ltV_bad HV.out (by decide)) ?_)
            repeat' (first | exact EF.out | (dsimp only; omega) | refine Ext.setCell ?_ ?_ _ | refine Ext.alloc ?_ _)
        · have HV := Lib.hid (HG.out (by rw [HC.out, if_neg (by simp only [not_or]; exact ⟨g1, g2, g3⟩)]))
          have t3 : (x4 == C) = false := by simp [g3]
          clear g3
          go_enter Try.func43, Try.ntmps43
          go_wp2_with (first | (go_at_call 51; refine (H1.out _ HE.out).mono ?_; rintro e w1 ⟨rfl, e1⟩; replace A := A.ext e1; obtain ⟨K0, K1, K2, K3⟩ := HK.out.ext (HE.out.trans e1); obtain ⟨p0, q0⟩ := (HB0.out.ext (e1.alloc (.cells #[.int .i64 x1, .int .i64 x2, .int .i64 x3, .int .i64 x4] 34))).at 0 (by simp) _ rfl; obtain ⟨p1, q1⟩ := (HB0.out.ext (e1.alloc (.cells #[.int .i64 x1, .int .i64 x2, .int .i64 x3, .int .i64 x4] 34))).at 1 (by simp) _ rfl; have A2 := A.ext ((Ext.refl w1).alloc (.cells #[.int .i64 x1, .int .i64 x2, .int .i64 x3, .int .i64 x4] 34)); have EF := Lib.hid (HE.out.trans (e1.alloc (.cells #[.int .i64 x1, .int .i64 x2, .int .i64 x3, .int .i64 x4] 34)))) | (go_at_call_of 79 (Value.int .i64 20); refine (HWb.out _).mono ?_; rintro e w' ⟨rfl, rfl⟩) | (go_at_call 79; refine (HWk.out _).mono ?_; rintro e w' ⟨rfl, rfl⟩))
          refine bodyPost_ret (v := .tuple #[.agg #[.int .i64 (x1 - b), .int .i64 (x2 + b)], .int .i64 0]) (by simp [results, Try.results43, go_sem, p0, p1]) rfl (RetE.mk HV.out ?_)
          repeat' (first | exact EF.out | (dsimp only; omega) | refine Ext.setCell ?_ ?_ _ | refine Ext.alloc ?_ _)
      · rw [Bool.not_eq_true] at hb
        have HV : Hid (ltC L C k b os = 2) := Lib.hid (by unfold ltC; rw [if_pos hv, hb, Bool.and_false]; rfl)
        rw [hk] at HWk
        rw [hb] at HWb
        clear hk hb hv
        go_enter Try.func43, Try.ntmps43
        go_wp2_with (first | (go_at_call 51; refine (H1.out _ HE.out).mono ?_; rintro e w1 ⟨rfl, e1⟩; replace A := A.ext e1; obtain ⟨p0, q0⟩ := (HB0.out.ext e1).at 0 (by simp) _ rfl; obtain ⟨p1, q1⟩ := (HB0.out.ext e1).at 1 (by simp) _ rfl; have EF := Lib.hid (HE.out.trans e1)) | (go_at_call_of 79 (Value.int .i64 20); refine (HWb.out _).mono ?_; rintro e w' ⟨rfl, rfl⟩) | (go_at_call 79; refine (HWk.out _).mono ?_; rintro e w' ⟨rfl, rfl⟩))
        refine bodyPost_ret (v := .tuple #[.agg #[.int .i64 0, .int .i64 0], .int .i64 2]) (by simp [results, Try.results43, go_sem, p0, p1]) rfl (RetE.mk (ltV_bad HV.out (by decide)) ?_)
        repeat' (first | exact EF.out | (dsimp only; omega) | refine Ext.setCell ?_ ?_ _ | refine Ext.alloc ?_ _)
    · rw [Bool.not_eq_true] at hk
      have HV : Hid (ltC L C k b os = 2) := Lib.hid (by unfold ltC; rw [if_pos hv, hxl, hk, Bool.false_and]; rfl)
      rw [hk] at HWk
      clear hk hv
      go_enter Try.func43, Try.ntmps43
      go_wp2_with (first | (go_at_call 51; refine (H1.out _ HE.out).mono ?_; rintro e w1 ⟨rfl, e1⟩; replace A := A.ext e1; obtain ⟨p0, q0⟩ := (HB0.out.ext e1).at 0 (by simp) _ rfl; obtain ⟨p1, q1⟩ := (HB0.out.ext e1).at 1 (by simp) _ rfl; have EF := Lib.hid (HE.out.trans e1)) | (go_at_call 79; refine (HWk.out _).mono ?_; rintro e w' ⟨rfl, rfl⟩))
      refine bodyPost_ret (v := .tuple #[.agg #[.int .i64 0, .int .i64 0], .int .i64 2]) (by simp [results, Try.results43, go_sem, p0, p1]) rfl (RetE.mk (ltV_bad HV.out (by decide)) ?_)
      repeat' (first | exact EF.out | (dsimp only; omega) | refine Ext.setCell ?_ ?_ _ | refine Ext.alloc ?_ _)
  · rw [Bool.not_eq_true] at hv
    have HV := Lib.hid (ltV_bad (show ltC L C k b os = 1 by unfold ltC; rw [hv]; rfl) (by decide))
    rw [hv] at H1
    clear hv
    go_enter Try.func43, Try.ntmps43
    go_wp2_with (first | (go_at_call 51; refine (H1.out _ HE.out).mono ?_; rintro e w1 ⟨rfl, e1⟩; obtain ⟨p0, q0⟩ := (HB0.out.ext e1).at 0 (by simp) _ rfl; obtain ⟨p1, q1⟩ := (HB0.out.ext e1).at 1 (by simp) _ rfl; have EF := Lib.hid (HE.out.trans e1)))
    refine bodyPost_ret (v := .tuple #[.agg #[.int .i64 0, .int .i64 0], .int .i64 1]) (by simp [results, Try.results43, go_sem, p0, p1]) rfl (RetE.mk HV.out ?_)
    repeat' (first | exact EF.out | (dsimp only; omega) | refine Ext.setCell ?_ ?_ _ | refine Ext.alloc ?_ _)
end Go.Proofs.Ytnhmcmohnpbcjaa
