/- Plain law: the parts of all courses are what is no opening, and the lines of a front show it. Nothing here speaks of the program. -/
import Derived.Test.YtnhmcmohnpbcjaaGaPart
import Derived.Test.YtnhmcmohnpbcjaaGaFn
import Derived.Test.YtnhmcmohnpbcjaaFrontR
namespace Go.Proofs.Ytnhmcmohnpbcjaa
open Go.RowKit
set_option linter.unusedSimpArgs false
set_option linter.unusedVariables false
set_option linter.unnecessarySimpa false

/-! ### how many quarters of a course are dark -/
/-- no opening is at place a -/
def drk (os : List Opn) (c a : Int) : Bool := !(opnAt os a c)
theorem cntR_snoc (f : Int → Bool) (n : Nat) (p : Int) : cntR f p (n + 1) = cntR f p n + (if f (p + n) then 1 else 0) := by
  rw [cntR_split f n 1 p]
  show _ + (_ + 0) = _
  omega
theorem drk_sum {L C c : Int} {os : List Opn} (hL : 0 ≤ L) (h : okTo L C os os.length = true) : cntR (drk os c) 0 L.toNat = sumP (partsI L c os) := by
  rw [partsI_from]
  have := cntR_parts (drk os c) (os.filter (inC c)) 0 L (segs_of hL h) (fun a h1 h2 => by
    have ho := opnAt_iff os a c
    rw [← ho]
    unfold drk
    cases opnAt os a c <;> simp)
  rw [show (L - 0).toNat = L.toNat by omega] at this
  exact this
/-! ### the sum over all courses -/
def sumTo (L : Int) (os : List Opn) : Nat → Int
  | 0 => 0
  | k + 1 => sumTo L os k + sumP (partsI L k os)
/-- the quarters of an opening below course k -/
def lowTo (o : Opn) (k : Nat) : Int := (o.en - o.fr) * (if (k : Int) ≤ o.lo then 0 else if (k : Int) ≤ o.hi then k - o.lo else o.hi - o.lo)
theorem lowN_succ (o : Opn) (k : Nat) (h0 : 0 ≤ o.lo) (h : o.lo < o.hi) : (if ((k + 1 : Nat) : Int) ≤ o.lo then 0 else if ((k + 1 : Nat) : Int) ≤ o.hi then ((k + 1 : Nat) : Int) - o.lo else o.hi - o.lo) = (if (k : Int) ≤ o.lo then 0 else if (k : Int) ≤ o.hi then k - o.lo else o.hi - o.lo) + (if inC k o = true then 1 else 0) := by
  unfold inC
  simp only [Bool.and_eq_true, decide_eq_true_eq]
  split <;> split <;> split <;> (try split) <;> (try split) <;> omega
theorem lowTo_succ (o : Opn) (k : Nat) (h0 : 0 ≤ o.lo) (h : o.lo < o.hi) : lowTo o (k + 1) = lowTo o k + (if inC k o = true then o.en - o.fr else 0) := by
  unfold lowTo
  rw [lowN_succ o k h0 h, Int.mul_add]
  congr 1
  split <;> omega
theorem sumO_filter (os : List Opn) (k : Nat) (h : ∀ o ∈ os, 0 ≤ o.lo ∧ o.lo < o.hi) : (os.map fun o => lowTo o (k + 1)).sum = (os.map fun o => lowTo o k).sum + sumO (os.filter (inC k)) := by
  induction os with
  | nil => rfl
  | cons o l ih =>
    have ho := h o (List.mem_cons_self ..)
    have ih := ih (fun x hx => h x (List.mem_cons_of_mem _ hx))
    rw [List.map_cons, List.sum_cons, ih, lowTo_succ o k ho.1 ho.2, List.map_cons, List.sum_cons, List.filter_cons]
    by_cases hc : inC k o = true
    · rw [if_pos hc, if_pos hc]
      unfold sumO
      rw [List.map_cons, List.sum_cons]; omega
    · rw [if_neg hc, if_neg hc]; omega
theorem sumTo_eq {L C : Int} {os : List Opn} (hL : 0 ≤ L) (h : okTo L C os os.length = true) : ∀ k : Nat, sumTo L os k = L * k - (os.map fun o => lowTo o k).sum
  | 0 => by
    have : ∀ l : List Opn, (∀ o ∈ l, 0 ≤ o.lo) → (l.map fun o => lowTo o 0).sum = 0 := by
      intro l
      induction l with
      | nil => intro _; rfl
      | cons o l ih =>
        intro hh
        have h0 := hh o (List.mem_cons_self ..)
        rw [List.map_cons, List.sum_cons, ih (fun x hx => hh x (List.mem_cons_of_mem _ hx))]
        unfold lowTo
        rw [if_pos (by omega)]; omega
    rw [this os (fun o ho => by have := okTo_mem h ho; omega)]
    unfold sumTo; simp
  | k + 1 => by
    have ih := sumTo_eq hL h k
    have hm : ∀ o ∈ os, 0 ≤ o.lo ∧ o.lo < o.hi := fun o ho => by have := okTo_mem h ho; omega
    unfold sumTo
    rw [ih, sumO_filter os k hm, partsI_from, partsFrom_sum _ _ _ (segs_of hL h), show ((k + 1 : Nat) : Int) = (k : Int) + 1 by omega, Int.mul_add]
    omega
theorem solTo_sum (L C : Int) (os : List Opn) : ∀ k : Nat, k ≤ os.length → solTo L C os k = L * C - ((os.take k).map areaO).sum
  | 0, _ => by simp [solTo]
  | k + 1, h => by
    rw [solTo, solTo_sum L C os k (by omega), List.getD_eq_getElem?_getD, List.getElem?_eq_getElem (show k < os.length by omega), Option.getD_some, List.take_succ_eq_append_getElem (show k < os.length by omega), List.map_append, List.sum_append]
    simp; omega
theorem sum_solid {L C : Int} {os : List Opn} (h : validF L C os = true) : sumTo L os C.toNat = solN L C os := by
  obtain ⟨⟨a, b⟩, ⟨c, d⟩, e, f⟩ := validF_bd h
  unfold solN
  rw [if_pos h, solTo_sum L C os os.length (Nat.le_refl _), List.take_of_length_le (Nat.le_refl _), sumTo_eq (by omega) f, show (C.toNat : Int) = C by omega]
  congr 2
  apply List.map_congr_left
  intro o ho
  have hm := okTo_mem f ho
  unfold lowTo areaO
  rw [if_neg (by omega)]
  split
  · rw [show (C.toNat : Int) = o.hi by omega]
  · rfl
/-! ### the least length -/
/-- the least length so far, 1000 if there is none -/
def shP (b : Int) : Int := if b < 0 then 1000 else b
theorem shP_step {b : Int} {p : Int × Int} (h : b ≤ 200) (h2 : p.1 < p.2) (h3 : p.2 - p.1 ≤ 200) : shP (minP b p) = (if shP b ≤ p.2 - p.1 then shP b else p.2 - p.1) := by
  unfold shP minP
  split <;> split <;> split <;> omega
theorem sumP_pos (ps : List (Int × Int)) (h : ∀ q ∈ ps, q.1 < q.2) : 0 ≤ sumP ps ∧ (sumP ps = 0 ↔ ps = []) := by
  induction ps with
  | nil => simp [sumP]
  | cons q l ih =>
    have h1 := h q (List.mem_cons_self ..)
    have h2 := (ih (fun x hx => h x (List.mem_cons_of_mem _ hx))).1
    have e : sumP (q :: l) = q.2 - q.1 + sumP l := by simp [sumP]
    rw [e]
    exact ⟨by omega, ⟨fun h => by omega, fun h => by cases h⟩⟩
theorem minP_neg (ps : List (Int × Int)) (h : ∀ q ∈ ps, q.1 < q.2) : ∀ b : Int, (ps.foldl minP b < 0 ↔ b < 0 ∧ ps = []) := by
  induction ps with
  | nil => intro b; simp
  | cons q l ih =>
    intro b
    have h1 := h q (List.mem_cons_self ..)
    rw [List.foldl_cons, ih (fun x hx => h x (List.mem_cons_of_mem _ hx))]
    have : ¬ minP b q < 0 := by unfold minP; split <;> omega
    simp [this]
theorem sumTo_nonneg {L C : Int} {os : List Opn} (h : okTo L C os os.length = true) : ∀ k : Nat, 0 ≤ sumTo L os k ∧ (sumTo L os k = 0 ↔ narTo L os k < 0)
  | 0 => by simp [sumTo, narTo]
  | k + 1 => by
    have ih := sumTo_nonneg h k
    have hp : ∀ q ∈ partsI L k os, q.1 < q.2 := fun q hq => (parts_bd h q hq).2.1
    have h1 := sumP_pos _ hp
    rw [sumTo, narTo, minP_neg _ hp]
    refine ⟨by omega, ?_⟩
    rw [← ih.2, ← h1.2]
    omega
theorem sumP_bd {L C c : Int} {os : List Opn} (hL : 0 ≤ L) (h : okTo L C os os.length = true) : 0 ≤ sumP (partsI L c os) ∧ sumP (partsI L c os) ≤ L := by
  rw [← drk_sum hL h]
  have := cntR_bd (drk os c) L.toNat 0
  omega
theorem sumTo_le {L C : Int} {os : List Opn} (hL : 0 ≤ L) (h : okTo L C os os.length = true) : ∀ k : Nat, sumTo L os k ≤ L * k
  | 0 => by simp [sumTo]
  | k + 1 => by
    have ih := sumTo_le hL h k
    have := (sumP_bd (c := k) hL h).2
    rw [sumTo, show ((k + 1 : Nat) : Int) = (k : Int) + 1 by omega, Int.mul_add]
    omega
theorem sumP_take_succ {ps : List (Int × Int)} {i : Nat} (hi : i < ps.length) : sumP (ps.take (i + 1)) = sumP (ps.take i) + ((ps.getD i (0, 0)).2 - (ps.getD i (0, 0)).1) := by
  rw [List.take_succ_eq_append_getElem hi, sumP_app, List.getD_eq_getElem?_getD, List.getElem?_eq_getElem hi, Option.getD_some]
  simp [sumP]
theorem sumP_take_le {ps : List (Int × Int)} (h : ∀ q ∈ ps, q.1 < q.2) (i : Nat) : 0 ≤ sumP (ps.take i) ∧ sumP (ps.take i) ≤ sumP ps := by
  have h1 := sumP_pos (ps.take i) (fun q hq => h q (List.mem_of_mem_take hq))
  have h2 := sumP_pos (ps.drop i) (fun q hq => h q (List.mem_of_mem_drop hq))
  have h3 : sumP (ps.take i ++ ps.drop i) = _ := sumP_app _ _
  rw [List.take_append_drop] at h3
  omega
theorem parts_gap {L C c : Int} {os : List Opn} (hL : 0 ≤ L) (h : okTo L C os os.length = true) {i : Nat} (h1 : 0 < i) (h2 : i < (partsI L c os).length) : ((partsI L c os).getD (i - 1) (0, 0)).2 < ((partsI L c os).getD i (0, 0)).1 := by
  have hs := partsFrom_sep (os.filter (inC c)) 0 L (segs_of hL h)
  rw [← partsI_from, List.pairwise_iff_getElem] at hs
  have := hs (i - 1) i (by omega) h2 (by omega)
  rwa [List.getD_eq_getElem?_getD, List.getElem?_eq_getElem (by omega), Option.getD_some, List.getD_eq_getElem?_getD, List.getElem?_eq_getElem h2, Option.getD_some]
theorem parts_drk {L C c a : Int} {os : List Opn} (hL : 0 ≤ L) (h : okTo L C os os.length = true) {q : Int × Int} (hq : q ∈ partsI L c os) (h1 : q.1 ≤ a) (h2 : a < q.2) : drk os c a = true := by
  have hb := parts_bd h q hq
  rw [partsI_from] at hq
  have hc := (partsFrom_cover (os.filter (inC c)) 0 L (segs_of hL h) a (by omega) (by omega)).1 ⟨q, hq, h1, h2⟩
  rw [← opnAt_iff] at hc
  unfold drk
  simpa using hc
/-! ### the lines -/
theorem lineB_drk {N : Nat} {os : List Opn} {c : Int} {a : Nat} (h : a < N) : (lineB N os c).getD a 0 = if drk os c a then 35 else 46 := by
  rw [lineB_at h]
  unfold drk
  cases opnAt os a c <;> rfl
theorem linesT_at (N : Nat) (C : Int) (os : List Opn) : ∀ (j i : Nat), i < j → (linesT N C os j).getD i ByteArray.empty = mkS (lineB N os (C - 1 - i))
  | 0, i, h => by omega
  | j + 1, i, h => by
    rw [linesT, List.getD_eq_getElem?_getD]
    by_cases e : i < j
    · rw [List.getElem?_append_left (by rw [linesT_len]; exact e), ← List.getD_eq_getElem?_getD, linesT_at N C os j i e]
    · obtain rfl : i = j := by omega
      rw [List.getElem?_append_right (by rw [linesT_len]; exact Nat.le_refl _), linesT_len, Nat.sub_self]
      rfl
/-- the line of course k of a front -/
theorem linesF_at {L C : Int} {os : List Opn} (h : validF L C os = true) {k : Nat} (hk : (k : Int) < C) : (linesF L C os).getD (C.toNat - 1 - k) ByteArray.empty = mkS (lineB L.toNat os k) := by
  unfold linesF
  rw [if_pos h, linesT_at _ _ _ _ _ (by omega)]
  congr 2
  omega
theorem linesF_length {L C : Int} {os : List Opn} (h : validF L C os = true) : (linesF L C os).length = C.toNat := by
  unfold linesF
  rw [if_pos h, linesT_len]
theorem mkS_at {l : List UInt8} {s : ByteArray} (hs : mkS l = s) {a : Nat} (h : a < s.size) : s[a] = l.getD a 0 := by
  subst hs
  have h2 : a < l.length := by rwa [mkS_size] at h
  rw [List.getD_eq_getElem?_getD, List.getElem?_eq_getElem h2, Option.getD_some]
  simp [mkS]
  rfl
end Go.Proofs.Ytnhmcmohnpbcjaa
