/- What the parts of a course cover, how long they are, and the line that shows them. Nothing here speaks of the program. -/
import Derived.Test.YtnhmcmohnpbcjaaPartMath
namespace Go.Proofs.Ytnhmcmohnpbcjaa
open Go.RowKit
set_option linter.unusedSimpArgs false
set_option linter.unusedVariables false
set_option linter.unnecessarySimpa false

/-- the parts between openings, from a place on -/
def partsFrom : List Opn → Int → Int → List (Int × Int)
  | [], p, N => if p < N then [(p, N)] else []
  | o :: l, p, N => (if p < o.fr then [(p, o.fr)] else []) ++ partsFrom l o.en N
theorem partsFrom_fold (N : Int) : ∀ (l : List Opn) (p : Int) (acc : List (Int × Int)), addI (l.foldl gI (p, acc)) N = acc ++ partsFrom l p N
  | [], p, acc => by
    unfold addI partsFrom
    by_cases h : p < N
    · rw [if_pos h]; exact if_pos h
    · rw [if_neg h, List.append_nil]; exact if_neg h
  | o :: l, p, acc => by
    rw [List.foldl_cons]
    show addI (l.foldl gI (o.en, addI (p, acc) o.fr)) N = _
    rw [partsFrom_fold N l]
    unfold addI
    rw [partsFrom]
    by_cases h : p < o.fr
    · rw [if_pos h, if_pos h, List.append_assoc]
    · rw [if_neg h, if_neg h, List.nil_append]
theorem partsI_from (L c : Int) (os : List Opn) : partsI L c os = partsFrom (os.filter (inC c)) 0 L := by
  unfold partsI stI
  rw [List.take_of_length_le (Nat.le_refl _), partsFrom_fold, List.nil_append]
/-- openings of a course in their order, between two places -/
def Segs (l : List Opn) (p N : Int) : Prop := l.Pairwise (fun a b => a.en ≤ b.fr) ∧ (∀ o ∈ l, p ≤ o.fr ∧ o.fr < o.en ∧ o.en ≤ N) ∧ p ≤ N
theorem Segs.tail {o : Opn} {l : List Opn} {p N : Int} (h : Segs (o :: l) p N) : Segs l o.en N := by
  obtain ⟨h1, h2, h3⟩ := h
  rw [List.pairwise_cons] at h1
  have ho := h2 o (List.mem_cons_self ..)
  exact ⟨h1.2, fun x hx => ⟨h1.1 x hx, (h2 x (List.mem_cons_of_mem _ hx)).2⟩, by omega⟩
theorem Segs.head {o : Opn} {l : List Opn} {p N : Int} (h : Segs (o :: l) p N) : p ≤ o.fr ∧ o.fr < o.en ∧ o.en ≤ N := h.2.1 o (List.mem_cons_self ..)
theorem segs_of {L C c : Int} {os : List Opn} (hL : 0 ≤ L) (h : okTo L C os os.length = true) : Segs (os.filter (inC c)) 0 L :=
  ⟨segs_sorted h c, fun o ho => by have := okTo_mem h (List.mem_filter.1 ho).1; omega, hL⟩
theorem partsFrom_bd : ∀ (l : List Opn) (p N : Int), Segs l p N → ∀ q ∈ partsFrom l p N, p ≤ q.1 ∧ q.1 < q.2 ∧ q.2 ≤ N
  | [], p, N, _, q, hq => by
    unfold partsFrom at hq
    split at hq
    · simp only [List.mem_singleton] at hq; subst hq; dsimp only; omega
    · simp at hq
  | o :: l, p, N, h, q, hq => by
    have hh := h.head
    unfold partsFrom at hq
    rcases List.mem_append.1 hq with hq | hq
    · split at hq
      · simp only [List.mem_singleton] at hq; subst hq; dsimp only; omega
      · simp at hq
    · have := partsFrom_bd l o.en N h.tail q hq
      omega
theorem partsFrom_sep : ∀ (l : List Opn) (p N : Int), Segs l p N → (partsFrom l p N).Pairwise (fun x y => x.2 < y.1)
  | [], p, N, _ => by unfold partsFrom; split <;> simp
  | o :: l, p, N, h => by
    have hh := h.head
    have ih := partsFrom_sep l o.en N h.tail
    unfold partsFrom
    rw [List.pairwise_append]
    refine ⟨by split <;> simp, ih, fun x hx y hy => ?_⟩
    have hb := partsFrom_bd l o.en N h.tail y hy
    split at hx
    · simp only [List.mem_singleton] at hx; subst hx; dsimp only; omega
    · simp at hx
theorem partsFrom_cover : ∀ (l : List Opn) (p N : Int), Segs l p N → ∀ a, p ≤ a → a < N → ((∃ q ∈ partsFrom l p N, q.1 ≤ a ∧ a < q.2) ↔ ¬ ∃ o ∈ l, o.fr ≤ a ∧ a < o.en)
  | [], p, N, _, a, h1, h2 => by
    unfold partsFrom
    rw [if_pos (by omega)]
    simp; omega
  | o :: l, p, N, h, a, h1, h2 => by
    have hh := h.head
    have ht := h.tail
    unfold partsFrom
    by_cases ha : a < o.en
    · have hrest : ¬ ∃ q ∈ partsFrom l o.en N, q.1 ≤ a ∧ a < q.2 := by
        rintro ⟨q, hq, h3, h4⟩
        have := partsFrom_bd l o.en N ht q hq
        omega
      have hrest2 : ¬ ∃ x ∈ l, x.fr ≤ a ∧ a < x.en := by
        rintro ⟨x, hx, h3, h4⟩
        have := ht.2.1 x hx
        omega
      by_cases hb : a < o.fr
      · rw [if_pos (by omega)]
        constructor
        · rintro _ ⟨x, hx, h3, h4⟩
          rcases List.mem_cons.1 hx with rfl | hx
          · omega
          · exact hrest2 ⟨x, hx, h3, h4⟩
        · intro _
          exact ⟨(p, o.fr), by simp, by dsimp only; omega, by dsimp only; omega⟩
      · constructor
        · rintro ⟨q, hq, h3, h4⟩
          exfalso
          rcases List.mem_append.1 hq with hq | hq
          · split at hq
            · simp only [List.mem_singleton] at hq; subst hq; dsimp only at h3 h4; omega
            · simp at hq
          · exact hrest ⟨q, hq, h3, h4⟩
        · intro hn
          exact absurd ⟨o, List.mem_cons_self .., by omega, ha⟩ hn
    · have ih := partsFrom_cover l o.en N ht a (by omega) h2
      constructor
      · rintro ⟨q, hq, h3, h4⟩ ⟨x, hx, h5, h6⟩
        rcases List.mem_append.1 hq with hq | hq
        · split at hq
          · simp only [List.mem_singleton] at hq; subst hq; dsimp only at h3 h4; omega
          · simp at hq
        · rcases List.mem_cons.1 hx with rfl | hx
          · omega
          · exact ih.1 ⟨q, hq, h3, h4⟩ ⟨x, hx, h5, h6⟩
      · intro hn
        obtain ⟨q, hq, h3, h4⟩ := ih.2 (fun ⟨x, hx, h5, h6⟩ => hn ⟨x, List.mem_cons_of_mem _ hx, h5, h6⟩)
        exact ⟨q, List.mem_append_right _ hq, h3, h4⟩
/-- the length of all parts -/
def sumP (ps : List (Int × Int)) : Int := (ps.map fun q => q.2 - q.1).sum
def sumO (l : List Opn) : Int := (l.map fun o => o.en - o.fr).sum
theorem sumP_app (a b : List (Int × Int)) : sumP (a ++ b) = sumP a + sumP b := by unfold sumP; rw [List.map_append, List.sum_append]
theorem partsFrom_sum : ∀ (l : List Opn) (p N : Int), Segs l p N → sumP (partsFrom l p N) = N - p - sumO l
  | [], p, N, h => by
    have := h.2.2
    unfold partsFrom
    split
    · simp [sumP, sumO]
    · simp [sumP, sumO]; omega
  | o :: l, p, N, h => by
    have hh := h.head
    have ih := partsFrom_sum l o.en N h.tail
    unfold partsFrom
    rw [sumP_app, ih]
    unfold sumO
    rw [List.map_cons, List.sum_cons]
    split
    · simp only [sumP, List.map_cons, List.map_nil, List.sum_cons, List.sum_nil]; omega
    · simp only [sumP, List.map_nil, List.sum_nil]; omega
/-! ### how many places of a range meet a test -/
def cntR (f : Int → Bool) (p : Int) : Nat → Int
  | 0 => 0
  | n + 1 => (if f p then 1 else 0) + cntR f (p + 1) n
theorem cntR_split (f : Int → Bool) : ∀ (m n : Nat) (p : Int), cntR f p (m + n) = cntR f p m + cntR f (p + m) n
  | 0, n, p => by simp [cntR]
  | m + 1, n, p => by
    rw [show m + 1 + n = (m + n) + 1 by omega, cntR, cntR, cntR_split f m n (p + 1), show p + 1 + (m : Int) = p + ((m + 1 : Nat) : Int) by omega]
    omega
theorem cntR_all (f : Int → Bool) : ∀ (n : Nat) (p : Int), (∀ a, p ≤ a → a < p + n → f a = true) → cntR f p n = n
  | 0, p, _ => rfl
  | n + 1, p, h => by
    rw [cntR, h p (by omega) (by omega), cntR_all f n (p + 1) (fun a h1 h2 => h a (by omega) (by omega))]
    simp; omega
theorem cntR_none (f : Int → Bool) : ∀ (n : Nat) (p : Int), (∀ a, p ≤ a → a < p + n → f a = false) → cntR f p n = 0
  | 0, p, _ => rfl
  | n + 1, p, h => by
    rw [cntR, h p (by omega) (by omega), cntR_none f n (p + 1) (fun a h1 h2 => h a (by omega) (by omega))]
    simp
theorem cntR_bd (f : Int → Bool) : ∀ (n : Nat) (p : Int), 0 ≤ cntR f p n ∧ cntR f p n ≤ n
  | 0, p => by simp [cntR]
  | n + 1, p => by
    have := cntR_bd f n (p + 1)
    rw [cntR]
    split <;> omega
theorem cntR_parts (f : Int → Bool) : ∀ (l : List Opn) (p N : Int), Segs l p N → (∀ a, p ≤ a → a < N → (f a = true ↔ ¬ ∃ o ∈ l, o.fr ≤ a ∧ a < o.en)) → cntR f p (N - p).toNat = sumP (partsFrom l p N)
  | [], p, N, h, hf => by
    have h3 := h.2.2
    rw [cntR_all f _ p (fun a h1 h2 => (hf a h1 (by omega)).2 (by simp)), partsFrom_sum [] p N h]
    simp [sumO]; omega
  | o :: l, p, N, h, hf => by
    have hh := h.head
    have ht := h.tail
    have ih := cntR_parts f l o.en N ht (fun a h1 h2 => by
      rw [hf a (by omega) h2]
      constructor
      · exact fun hn ⟨x, hx, h5, h6⟩ => hn ⟨x, List.mem_cons_of_mem _ hx, h5, h6⟩
      · rintro hn ⟨x, hx, h5, h6⟩
        rcases List.mem_cons.1 hx with rfl | hx
        · omega
        · exact hn ⟨x, hx, h5, h6⟩)
    have e1 : (N - p).toNat = (o.fr - p).toNat + ((o.en - o.fr).toNat + (N - o.en).toNat) := by omega
    have e2 : p + ((o.fr - p).toNat : Int) = o.fr := by omega
    have e3 : o.fr + ((o.en - o.fr).toNat : Int) = o.en := by omega
    rw [e1, cntR_split, e2, cntR_split, e3, ih, partsFrom_sum _ _ _ h, partsFrom_sum _ _ _ ht]
    rw [cntR_all f _ p (fun a h1 h2 => (hf a h1 (by omega)).2 (by
      rintro ⟨x, hx, h5, h6⟩
      rcases List.mem_cons.1 hx with rfl | hx
      · omega
      · have := ht.2.1 x hx; omega))]
    rw [cntR_none f _ o.fr (fun a h1 h2 => by
      cases e : f a with
      | false => rfl
      | true => exact absurd ⟨o, List.mem_cons_self .., by omega, by omega⟩ ((hf a (by omega) (by omega)).1 e))]
    unfold sumO
    rw [List.map_cons, List.sum_cons]
    omega
/-! ### the line of a course -/
def lineB (N : Nat) (os : List Opn) (c : Int) : List UInt8 := (List.range N).map fun (a : Nat) => if opnAt os (a : Int) c then 46 else 35
theorem lineB_len (N : Nat) (os : List Opn) (c : Int) : (lineB N os c).length = N := by simp [lineB]
theorem lineB_at {N : Nat} {os : List Opn} {c : Int} {a : Nat} (h : a < N) : (lineB N os c).getD a 0 = if opnAt os (a : Int) c then 46 else 35 := by
  rw [List.getD_eq_getElem?_getD, lineB, List.getElem?_map, List.getElem?_range h]; rfl
theorem lineB_succ (N : Nat) (os : List Opn) (c : Int) : lineB (N + 1) os c = lineB N os c ++ [if opnAt os (N : Int) c then 46 else 35] := by
  unfold lineB
  rw [List.range_succ, List.map_append]; rfl
end Go.Proofs.Ytnhmcmohnpbcjaa
