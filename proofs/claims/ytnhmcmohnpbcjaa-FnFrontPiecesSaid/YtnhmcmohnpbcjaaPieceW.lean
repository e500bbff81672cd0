/- Plain laws: the pieces of the parts of a course, and lintels that clash. Nothing here speaks of the program. -/
import Derived.Test.YtnhmcmohnpbcjaaOpenW
import Derived.Test.YtnhmcmohnpbcjaaLayF
import Derived.Test.YtnhmcmohnpbcjaaGaFl
namespace Go.Proofs.Ytnhmcmohnpbcjaa
open Go.RowKit
set_option linter.unusedSimpArgs false
set_option linter.unusedVariables false
set_option linter.unnecessarySimpa false

theorem laid_part {f : Nat → UInt8} (hf : ∀ i, isPc (f i) = true) {n : Int} (h1 : 1 ≤ n) (h2 : n ≤ 40) : validC (layT f n) = true ∧ qSum (layT f n) = n ∧ (layT f n).length ≤ 60 := by
  have hq : ∀ i, 1 ≤ qB (f i) := fun i => isPc_q (hf i)
  have h3 := layT_qSum hq (show 0 ≤ n by omega)
  have h4 := layT_len hq (show 0 ≤ n by omega)
  have h5 : layT f n ≠ [] := fun e => by rw [e, qSum_nil] at h3; omega
  have h6 : 0 < (layT f n).length := List.length_pos_iff.2 h5
  refine ⟨?_, h3, by omega⟩
  unfold validC
  rw [layT_pc hf, show inB (layT f n).length 1 60 = true by simp [inB]; omega, h3]
  simp; omega
theorem lf_code {L C : Int} {os : List Opn} {nm : List UInt8} {cs : List Crs} {q : Int} (hv : validF L C os = true) (hb : bondB nm cs = true) (h1 : 0 ≤ q) (h2 : q ≤ C - 1) (hL : L ≤ 40) : lfC L C os nm cs q = 0 ∧ lfL L C os nm cs q = lfT (ltrAt cs q) (partsI L q os) := by
  obtain ⟨c1, c2, c3⟩ := bondB_bd hb
  have hok := (validF_bd hv).2.2.2
  have hfit : lfFit (ltrAt cs q) (partsI L q os) = true := by
    unfold lfFit
    rw [List.all_eq_true]
    intro p hp
    have hpb := parts_bd hok p hp
    have := (laid_part (f := ltrAt cs q) (fun i => ltrAt_pc c1 c3 q i) (n := p.2 - p.1) (by omega) (by omega)).2.2
    simp; omega
  have h : lfC L C os nm cs q = 0 := by
    unfold lfC
    rw [hv, hb, if_pos (by rfl), if_pos (by simp [inB]; omega), hfit, if_pos rfl]
  exact ⟨h, by unfold lfL; rw [if_pos h]⟩
theorem lfT_at (f : Nat → UInt8) (ps : List (Int × Int)) (i : Nat) (h : i < ps.length) : (lfT f ps).getD i ByteArray.empty = mkS (layT f ((ps.getD i (0, 0)).2 - (ps.getD i (0, 0)).1)) := by
  unfold lfT
  rw [List.getD_eq_getElem?_getD, List.getElem?_map, List.getElem?_eq_getElem h, List.getD_eq_getElem?_getD, List.getElem?_eq_getElem h]; rfl
/-! ### lintels that clash -/
theorem clB_comm (b : Int) (x y : Opn) : clB b x y = clB b y x := by
  unfold clB
  rw [Bool.eq_iff_iff]
  simp only [Bool.and_eq_true, decide_eq_true_eq]
  omega
theorem clB_mir (L b : Int) (x y : Opn) : clB b (mirO L x) (mirO L y) = clB b x y := by
  unfold clB mirO
  rw [Bool.eq_iff_iff]
  simp only [Bool.and_eq_true, decide_eq_true_eq]
  omega
theorem clI_none (b : Int) (os : List Opn) : clI b os = none ↔ os.Pairwise (fun x y => clB b x y = false) := by
  unfold clI
  rw [List.find?_range_eq_none, List.pairwise_iff_getElem]
  constructor
  · intro h i j hi hj hij
    have h1 := h i hi
    have h2 : clK b os i = none := by
      cases hc : clK b os i with
      | none => rfl
      | some k => rw [hc] at h1; simp at h1
    unfold clK at h2
    rw [List.find?_range_eq_none] at h2
    have h3 := h2 j hj
    rw [getD_lt hi, getD_lt hj] at h3
    simpa [hij] using h3
  · intro h i hi
    have h2 : clK b os i = none := by
      unfold clK
      rw [List.find?_range_eq_none]
      intro j hj
      rw [getD_lt hi, getD_lt hj]
      by_cases hij : i < j
      · rw [h i j hi hj hij]; simp
      · simp [hij]
    rw [h2]; simp
theorem clI_mir (L b : Int) (os : List Opn) : clI b (mirF L os) = none ↔ clI b os = none := by
  rw [clI_none, clI_none, (mirF_perm L os).pairwise_iff (fun {x y} h => by rw [clB_comm]; exact h)]
  unfold mirL
  rw [List.pairwise_map]
  constructor
  · exact fun h => h.imp (fun {a b'} h => by rwa [clB_mir] at h)
  · exact fun h => h.imp (fun {a b'} h => by rw [clB_mir]; exact h)
theorem clI_some {b : Int} {os : List Opn} {i : Nat} (h : clI b os = some i) : ∃ k, clK b os i = some k ∧ i < k ∧ k < os.length := by
  unfold clI at h
  rw [List.find?_range_eq_some] at h
  obtain ⟨h1, h2, _⟩ := h
  obtain ⟨k, hk⟩ := Option.isSome_iff_exists.1 h1
  refine ⟨k, hk, ?_⟩
  unfold clK at hk
  rw [List.find?_range_eq_some] at hk
  obtain ⟨h3, h4, _⟩ := hk
  simp only [Bool.and_eq_true, decide_eq_true_eq] at h3
  exact ⟨h3.1, by simpa using h4⟩
/-- what is said of clashing lintels holds -/
theorem ln_good {L C b : Int} {os : List Opn} (hv : validF L C os = true) (h0 : 0 ≤ b) (h1 : b ≤ 20) :
    lnC L C b (mirF L os) = lnC L C b os ∧ (lnC L C b os = 3 ∨ (lnC L C b os = 0 ∧ 0 ≤ lnA L C b os ∧ lnA L C b os < lnB L C b os ∧ lnB L C b os < os.length)) := by
  have hb : inB b 0 20 = true := by simp [inB]; omega
  have hmv := mirF_valid hv
  cases hc : clI b os with
  | none =>
    have e1 := lnC_none hv hb hc
    have e2 := lnC_none hmv hb ((clI_mir L b os).2 hc)
    exact ⟨by rw [e1, e2], .inl e1⟩
  | some i =>
    have e1 : lnC L C b os = 0 := by unfold lnC; rw [if_pos hv, if_pos hb, hc]; rfl
    have e2 : lnC L C b (mirF L os) = 0 := by
      unfold lnC
      rw [if_pos hmv, if_pos hb]
      cases hd : clI b (mirF L os) with
      | none => rw [(clI_mir L b os).1 hd] at hc; cases hc
      | some j => rfl
    obtain ⟨k, hk, hik, hkl⟩ := clI_some hc
    refine ⟨by rw [e1, e2], .inr ⟨e1, ?_⟩⟩
    unfold lnA lnB
    rw [if_pos e1, if_pos e1, hc, Option.getD_some, hk, Option.getD_some]
    omega
/-! ### a lintel -/
theorem lt_code {L C b : Int} {os : List Opn} {i : Nat} (hv : validF L C os = true) (hi : i < os.length) (h0 : 0 ≤ b) (h1 : b ≤ 20) :
    ltC L C i b os = if (os.getD i default).fr - b < 0 ∨ L < (os.getD i default).en + b ∨ (os.getD i default).hi = C then 6 else 0 := by
  unfold ltC
  rw [if_pos hv, if_pos (by simp [inB]; omega), show ((i : Int)).toNat = i by omega]
theorem lt_fits {L C b : Int} {os : List Opn} {i : Nat} (hv : validF L C os = true) (hi : i < os.length) (h0 : 0 ≤ b) (h1 : b ≤ 20) (f1 : b ≤ (os.getD i default).fr) (f2 : (os.getD i default).en + b ≤ L) (f3 : (os.getD i default).hi < C) :
    ltV L C i b os = .tuple #[.agg #[.int .i64 ((os.getD i default).fr - b), .int .i64 ((os.getD i default).en + b)], .int .i64 0] := by
  have h : ltC L C i b os = 0 := by rw [lt_code hv hi h0 h1, if_neg (by omega)]
  have := ltV_good h
  rw [show ((i : Int)).toNat = i by omega] at this
  exact this.symm
theorem lt_not {L C b : Int} {os : List Opn} {i : Nat} (hv : validF L C os = true) (hi : i < os.length) (h0 : 0 ≤ b) (h1 : b ≤ 20) (f : ¬ (b ≤ (os.getD i default).fr ∧ (os.getD i default).en + b ≤ L ∧ (os.getD i default).hi < C)) :
    ltV L C i b os = .tuple #[.agg #[.int .i64 0, .int .i64 0], .int .i64 6] := by
  have hb := okTo_opn (validF_bd hv).2.2.2 hi
  rw [isOpn_all] at hb
  have h : ltC L C i b os = 6 := by rw [lt_code hv hi h0 h1, if_pos (by omega)]
  exact (ltV_bad h (by decide)).symm
end Go.Proofs.Ytnhmcmohnpbcjaa
