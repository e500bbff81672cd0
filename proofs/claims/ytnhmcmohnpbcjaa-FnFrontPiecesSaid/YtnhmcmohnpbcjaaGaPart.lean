/- A group of texts, one behind the other: PartMath, PartCov. -/
import Derived.Test.YtnhmcmohnpbcjaaFrontV0
/- The parts of a course of a front: read off the openings in their order, or quarter by quarter: the same. Nothing here speaks of the program. -/
namespace Go.Proofs.Ytnhmcmohnpbcjaa
open Go.RowKit
set_option linter.unusedSimpArgs false
set_option linter.unusedVariables false
set_option linter.unnecessarySimpa false

/-- a course goes through an opening -/
def inC (c : Int) (o : Opn) : Bool := decide (o.lo ≤ c) && decide (c < o.hi)
def addI (st : Int × List (Int × Int)) (y : Int) : List (Int × Int) := if st.1 < y then st.2 ++ [(st.1, y)] else st.2
def gI (st : Int × List (Int × Int)) (o : Opn) : Int × List (Int × Int) := (o.en, addI st o.fr)
def stI (c : Int) (os : List Opn) (k : Nat) : Int × List (Int × Int) := ((os.take k).filter (inC c)).foldl gI (0, [])
def partsI (L c : Int) (os : List Opn) : List (Int × Int) := addI (stI c os os.length) L
theorem stI_succ {c : Int} {os : List Opn} {k : Nat} (hk : k < os.length) : stI c os (k + 1) = if inC c (os.getD k default) then gI (stI c os k) (os.getD k default) else stI c os k := by
  unfold stI
  rw [List.take_succ_eq_append_getElem hk, List.filter_append, List.foldl_append, List.getD_eq_getElem?_getD, List.getElem?_eq_getElem hk, Option.getD_some]
  cases h : inC c os[k] <;> simp [List.filter_cons, h]
/-- a quarter of a course is in an opening -/
def opnAt (os : List Opn) (a c : Int) : Bool := os.any fun o => inB a o.fr (o.en - 1) && inB c o.lo (o.hi - 1)
def openS (L : Int) (os : List Opn) (c a : Int) : Bool := decide (a = L) || opnAt os a c
def stepP (L : Int) (os : List Opn) (c : Int) (st : Int × List (Int × Int)) (a : Int) : Int × List (Int × Int) :=
  if openS L os c a then (if 0 ≤ st.1 then (-1, st.2 ++ [(st.1, a)]) else st) else (if st.1 < 0 then (a, st.2) else st)
def scS (L : Int) (os : List Opn) (c : Int) : Nat → Int × List (Int × Int)
  | 0 => (-1, [])
  | k + 1 => stepP L os c (scS L os c k) k
def partsS (L c : Int) (os : List Opn) : List (Int × Int) := (scS L os c (L.toNat + 1)).2
theorem sc_closed {L c : Int} {os : List Opn} {p : Nat} {acc : List (Int × Int)} (h0 : scS L os c p = (-1, acc)) : ∀ m : Nat, (∀ j : Nat, p ≤ j → j < p + (m + 1) → openS L os c j = false) → scS L os c (p + (m + 1)) = ((p : Int), acc) := by
  intro m
  induction m with
  | zero =>
    intro h
    show stepP L os c (scS L os c p) (p : Nat) = _
    unfold stepP
    rw [h p (by omega) (by omega), h0]
    simp
  | succ m ih =>
    intro h
    have h1 := ih (fun j h1 h2 => h j h1 (by omega))
    show stepP L os c (scS L os c (p + (m + 1))) ((p + (m + 1) : Nat) : Int) = _
    unfold stepP
    rw [h (p + (m + 1)) (by omega) (by omega), h1]
    simp only [Bool.false_eq_true, if_false]
    rw [if_neg (by omega)]
theorem sc_open {L c f : Int} {os : List Opn} {q : Nat} {acc : List (Int × Int)} (h0 : scS L os c q = (f, acc)) : ∀ m : Nat, (∀ j : Nat, q ≤ j → j < q + (m + 1) → openS L os c j = true) → scS L os c (q + (m + 1)) = if 0 ≤ f then (-1, acc ++ [(f, (q : Int))]) else (f, acc) := by
  intro m
  induction m with
  | zero =>
    intro h
    show stepP L os c (scS L os c q) (q : Nat) = _
    unfold stepP
    rw [h q (by omega) (by omega), h0]
    simp
  | succ m ih =>
    intro h
    have h1 := ih (fun j h1 h2 => h j h1 (by omega))
    show stepP L os c (scS L os c (q + (m + 1))) ((q + (m + 1) : Nat) : Int) = _
    unfold stepP
    rw [h (q + (m + 1)) (by omega) (by omega), h1]
    simp only [if_true]
    by_cases hf : 0 ≤ f
    · rw [if_pos hf]
      simp only []
      rw [if_neg (by omega)]
    · rw [if_neg hf]
      simp only []
      rw [if_neg hf]
theorem openS_at (os : List Opn) (c : Int) (N j : Nat) (h : j ≠ N) : openS (N : Int) os c j = opnAt os j c := by
  unfold openS
  rw [decide_eq_false (by omega), Bool.false_or]
theorem sc_run {c : Int} {os : List Opn} {N : Nat} : ∀ (l : List Opn) (p : Nat) (acc : List (Int × Int)), p ≤ N → scS N os c p = (-1, acc) → (∀ o ∈ l, (p : Int) ≤ o.fr ∧ o.fr < o.en ∧ o.en ≤ N) → l.Pairwise (fun a b => a.en ≤ b.fr) →
    (∀ j : Nat, p ≤ j → j < N → (opnAt os j c = true ↔ ∃ o ∈ l, o.fr ≤ j ∧ (j : Int) < o.en)) → (scS N os c (N + 1)).2 = addI (l.foldl gI ((p : Int), acc)) N := by
  intro l
  induction l with
  | nil =>
    intro p acc hp h0 _ _ hop
    have hcl : ∀ j : Nat, p ≤ j → j < N → openS N os c j = false := fun j h1 h2 => by
      rw [openS_at os c N j (by omega)]
      cases e : opnAt os j c with
      | false => rfl
      | true => obtain ⟨o, ho, _⟩ := (hop j h1 h2).1 e; simp at ho
    have hN : openS (N : Int) os c (N : Nat) = true := by unfold openS; simp
    show (stepP N os c (scS N os c N) (N : Nat)).2 = addI ((p : Int), acc) N
    by_cases h1 : p < N
    · obtain ⟨m, rfl⟩ : ∃ m, N = p + (m + 1) := ⟨N - p - 1, by omega⟩
      rw [sc_closed h0 m hcl]
      unfold stepP
      rw [hN, if_pos rfl, if_pos (show (0 : Int) ≤ (p : Nat) by omega)]
      exact (if_pos (show ((p : Nat) : Int) < ((p + (m + 1) : Nat) : Int) by omega)).symm
    · obtain rfl : p = N := by omega
      rw [h0]
      unfold stepP
      rw [hN, if_pos rfl, if_neg (show ¬ (0 : Int) ≤ -1 by decide)]
      exact (if_neg (show ¬ ((p : Nat) : Int) < ((p : Nat) : Int) by omega)).symm
  | cons o r ih =>
    intro p acc hp h0 hb hs hop
    obtain ⟨b1, b2, b3⟩ := hb o (List.mem_cons_self ..)
    rw [List.pairwise_cons] at hs
    obtain ⟨q, hq⟩ : ∃ q : Nat, o.fr = q := ⟨o.fr.toNat, by omega⟩
    obtain ⟨e, he⟩ : ∃ e : Nat, o.en = e := ⟨o.en.toNat, by omega⟩
    have hcl : ∀ j : Nat, p ≤ j → j < q → openS N os c j = false := fun j h1 h2 => by
      rw [openS_at os c N j (by omega)]
      cases e : opnAt os j c with
      | false => rfl
      | true =>
        obtain ⟨x, hx, h3, h4⟩ := (hop j h1 (by omega)).1 e
        rcases List.mem_cons.1 hx with rfl | hx
        · omega
        · have := hs.1 x hx; omega
    have hoq : ∀ j : Nat, q ≤ j → j < e → openS N os c j = true := fun j h1 h2 => by
      rw [openS_at os c N j (by omega)]
      exact (hop j (by omega) (by omega)).2 ⟨o, List.mem_cons_self .., by omega, by omega⟩
    have hst : scS N os c e = (-1, addI ((p : Int), acc) o.fr) := by
      obtain ⟨m, hm⟩ : ∃ m, e = q + (m + 1) := ⟨e - q - 1, by omega⟩
      unfold addI
      simp only []
      by_cases h1 : p < q
      · obtain ⟨m2, hm2⟩ : ∃ m, q = p + (m + 1) := ⟨q - p - 1, by omega⟩
        have h2 : scS N os c q = ((p : Int), acc) := by
          rw [hm2]
          exact sc_closed h0 m2 (fun j h3 h4 => hcl j h3 (by omega))
        rw [hm, sc_open h2 m (fun j h3 h4 => hoq j h3 (by omega)), if_pos (by omega), if_pos (by omega), hq]
      · have : p = q := by omega
        subst this
        rw [hm, sc_open h0 m (fun j h3 h4 => hoq j h3 (by omega)), if_neg (by omega), if_neg (by omega)]
    have := ih e (addI ((p : Int), acc) o.fr) (by omega) hst (fun x hx => by
      have h1 := hb x (List.mem_cons_of_mem _ hx)
      have h2 := hs.1 x hx
      exact ⟨by omega, h1.2.1, h1.2.2⟩) hs.2 (fun j h1 h2 => by
      rw [hop j (by omega) h2]
      constructor
      · rintro ⟨x, hx, h3, h4⟩
        rcases List.mem_cons.1 hx with rfl | hx
        · omega
        · exact ⟨x, hx, h3, h4⟩
      · rintro ⟨x, hx, h3, h4⟩
        exact ⟨x, List.mem_cons_of_mem _ hx, h3, h4⟩)
    rw [this, List.foldl_cons]
    unfold gI
    rw [he]
theorem bef_trans {a b c : Opn} (h : befB a b = true) (k : befB b c = true) : befB a c = true := by
  unfold befB at *
  split at h <;> split at k <;> split <;> simp only [decide_eq_true_eq] at * <;> omega
theorem okTo_bef {L C : Int} {os : List Opn} (h : okTo L C os os.length = true) : ∀ d i, i + (d + 1) < os.length → befB (os.getD i default) (os.getD (i + (d + 1)) default) = true := by
  have hs : ∀ j, j + 1 < os.length → befB (os.getD j default) (os.getD (j + 1) default) = true := fun j hj => by
    have := okTo_at h hj
    unfold okAt at this
    simp only [Bool.and_eq_true, Nat.add_sub_cancel, Bool.or_eq_true, decide_eq_true_eq] at this
    rcases this.2.1 with h1 | h1
    · omega
    · exact h1
  intro d
  induction d with
  | zero => intro i hi; exact hs i hi
  | succ d ih => intro i hi; exact bef_trans (ih i (by omega)) (hs (i + (d + 1)) hi)
theorem okTo_novl {L C : Int} {os : List Opn} (h : okTo L C os os.length = true) {i j : Nat} (hij : i < j) (hj : j < os.length) : ovl (os.getD i default) (os.getD j default) = false := by
  have := okTo_at h hj
  unfold okAt at this
  simp only [Bool.and_eq_true, Bool.not_eq_true'] at this
  cases e : ovl (os.getD i default) (os.getD j default) with
  | false => rfl
  | true => rw [anyO_at hj i hij e] at this; exact absurd this.2.2 (by simp)
theorem segs_sorted {L C : Int} {os : List Opn} (h : okTo L C os os.length = true) (c : Int) : (os.filter (inC c)).Pairwise (fun a b => a.en ≤ b.fr) := by
  have hp : os.Pairwise (fun a b => befB a b = true ∧ ovl a b = false) := by
    rw [List.pairwise_iff_getElem]
    intro i j hi hj hij
    have h1 := okTo_bef h (j - i - 1) i (by omega)
    have h2 := okTo_novl h hij hj
    rw [show i + (j - i - 1 + 1) = j by omega] at h1
    simp only [List.getD_eq_getElem?_getD, List.getElem?_eq_getElem hi, List.getElem?_eq_getElem hj, Option.getD_some] at h1 h2
    exact ⟨h1, h2⟩
  have hq := hp.filter (inC c)
  refine hq.imp_of_mem ?_
  intro a b ha hb ⟨h1, h2⟩
  rw [List.mem_filter] at ha hb
  have ka := ha.2
  have kb := hb.2
  unfold inC at ka kb
  simp only [Bool.and_eq_true, decide_eq_true_eq] at ka kb
  have hob : isOpn L C b = true := by
    obtain ⟨j, hj, rfl⟩ := List.getElem_of_mem hb.1
    have := okTo_at h hj
    unfold okAt at this
    rw [Bool.and_eq_true] at this
    have h3 := this.1
    rwa [List.getD_eq_getElem?_getD, List.getElem?_eq_getElem hj, Option.getD_some] at h3
  rw [isOpn_iff] at hob
  have h2' : ¬ (a.fr < b.en ∧ b.fr < a.en ∧ a.lo < b.hi ∧ b.lo < a.hi) := fun h5 => by
    have : ovl a b = true := by unfold ovl; simp [h5]
    rw [this] at h2; cases h2
  unfold befB at h1
  split at h1 <;> simp only [decide_eq_true_eq] at h1 <;> omega
theorem okTo_mem {L C : Int} {os : List Opn} (h : okTo L C os os.length = true) {o : Opn} (ho : o ∈ os) : 0 ≤ o.fr ∧ o.fr < o.en ∧ o.en ≤ L ∧ 0 ≤ o.lo ∧ o.lo < o.hi ∧ o.hi ≤ C := by
  obtain ⟨j, hj, rfl⟩ := List.getElem_of_mem ho
  have := okTo_at h hj
  unfold okAt at this
  rw [Bool.and_eq_true] at this
  have h3 := this.1
  rw [List.getD_eq_getElem?_getD, List.getElem?_eq_getElem hj, Option.getD_some] at h3
  exact isOpn_iff.1 h3
theorem opnAt_iff (os : List Opn) (a c : Int) : opnAt os a c = true ↔ ∃ o ∈ os.filter (inC c), o.fr ≤ a ∧ a < o.en := by
  unfold opnAt
  rw [List.any_eq_true]
  constructor
  · rintro ⟨o, ho, h⟩
    rw [Bool.and_eq_true, inB_iff, inB_iff] at h
    exact ⟨o, List.mem_filter.2 ⟨ho, by unfold inC; simp only [Bool.and_eq_true, decide_eq_true_eq]; omega⟩, by omega, by omega⟩
  · rintro ⟨o, ho, h1, h2⟩
    rw [List.mem_filter] at ho
    have := ho.2
    unfold inC at this
    simp only [Bool.and_eq_true, decide_eq_true_eq] at this
    exact ⟨o, ho.1, by rw [Bool.and_eq_true, inB_iff, inB_iff]; omega⟩
theorem parts_agree {L C c : Int} {os : List Opn} (hL : 0 ≤ L) (h : okTo L C os os.length = true) : partsS L c os = partsI L c os := by
  obtain ⟨N, rfl⟩ : ∃ N : Nat, L = N := ⟨L.toNat, by omega⟩
  unfold partsS partsI stI
  rw [Int.toNat_natCast, List.take_of_length_le (Nat.le_refl _)]
  refine sc_run (os.filter (inC c)) 0 [] (by omega) rfl (fun o ho => ?_) (segs_sorted h c) (fun j _ _ => opnAt_iff os j c)
  have := okTo_mem h (List.mem_filter.1 ho).1
  omega
end Go.Proofs.Ytnhmcmohnpbcjaa

/- What the parts of a course cover, how long they are, and the line that shows them. Nothing here speaks of the program. -/
namespace Go.Proofs.Ytnhmcmohnpbcjaa
open Go.RowKit
set_option linter.unusedSimpArgs false
set_option linter.unusedVariables false
set_option linter.unnecessarySimpa false

/-- the parts between openings, from a place on -/
def partsFrom : List Opn → Int → Int → List (Int × Int)
  | [], p, N => if p < N then [(p, N)] else []
  | o :: l, p, N => (if p < o.fr then [(p, o.fr)] else []) ++ partsFrom l o.en N
theorem partsFrom_fold (N : Int) : ∀ (l : List Opn) (p : Int) (acc : List (Int × Int)), addI (l.foldl gI (p, acc)) N = acc ++ partsFrom l p N
  | [], p, acc => by
    unfold addI partsFrom
    by_cases h : p < N
    · rw [if_pos h]; exact if_pos h
    · rw [if_neg h, List.append_nil]; exact if_neg h
  | o :: l, p, acc => by
    rw [List.foldl_cons]
    show addI (l.foldl gI (o.en, addI (p, acc) o.fr)) N = _
    rw [partsFrom_fold N l]
    unfold addI
    rw [partsFrom]
    by_cases h : p < o.fr
    · rw [if_pos h, if_pos h, List.append_assoc]
    · rw [if_neg h, if_neg h, List.nil_append]
theorem partsI_from (L c : Int) (os : List Opn) : partsI L c os = partsFrom (os.filter (inC c)) 0 L := by
  unfold partsI stI
  rw [List.take_of_length_le (Nat.le_refl _), partsFrom_fold, List.nil_append]
/-- openings of a course in their order, between two places -/
def Segs (l : List Opn) (p N : Int) : Prop := l.Pairwise (fun a b => a.en ≤ b.fr) ∧ (∀ o ∈ l, p ≤ o.fr ∧ o.fr < o.en ∧ o.en ≤ N) ∧ p ≤ N
theorem Segs.tail {o : Opn} {l : List Opn} {p N : Int} (h : Segs (o :: l) p N) : Segs l o.en N := by
  obtain ⟨h1, h2, h3⟩ := h
  rw [List.pairwise_cons] at h1
  have ho := h2 o (List.mem_cons_self ..)
  exact ⟨h1.2, fun x hx => ⟨h1.1 x hx, (h2 x (List.mem_cons_of_mem _ hx)).2⟩, by omega⟩
theorem Segs.head {o : Opn} {l : List Opn} {p N : Int} (h : Segs (o :: l) p N) : p ≤ o.fr ∧ o.fr < o.en ∧ o.en ≤ N := h.2.1 o (List.mem_cons_self ..)
theorem segs_of {L C c : Int} {os : List Opn} (hL : 0 ≤ L) (h : okTo L C os os.length = true) : Segs (os.filter (inC c)) 0 L :=
  ⟨segs_sorted h c, fun o ho => by have := okTo_mem h (List.mem_filter.1 ho).1; omega, hL⟩
theorem partsFrom_bd : ∀ (l : List Opn) (p N : Int), Segs l p N → ∀ q ∈ partsFrom l p N, p ≤ q.1 ∧ q.1 < q.2 ∧ q.2 ≤ N
  | [], p, N, _, q, hq => by
    unfold partsFrom at hq
    split at hq
    · simp only [List.mem_singleton] at hq; subst hq; dsimp only; omega
    · simp at hq
  | o :: l, p, N, h, q, hq => by
    have hh := h.head
    unfold partsFrom at hq
    rcases List.mem_append.1 hq with hq | hq
    · split at hq
      · simp only [List.mem_singleton] at hq; subst hq; dsimp only; omega
      · simp at hq
    · have := partsFrom_bd l o.en N h.tail q hq
      omega
theorem partsFrom_sep : ∀ (l : List Opn) (p N : Int), Segs l p N → (partsFrom l p N).Pairwise (fun x y => x.2 < y.1)
  | [], p, N, _ => by unfold partsFrom; split <;> simp
  | o :: l, p, N, h => by
    have hh := h.head
    have ih := partsFrom_sep l o.en N h.tail
    unfold partsFrom
    rw [List.pairwise_append]
    refine ⟨by split <;> simp, ih, fun x hx y hy => ?_⟩
    have hb := partsFrom_bd l o.en N h.tail y hy
    split at hx
    · simp only [List.mem_singleton] at hx; subst hx; dsimp only; omega
    · simp at hx
theorem partsFrom_cover : ∀ (l : List Opn) (p N : Int), Segs l p N → ∀ a, p ≤ a → a < N → ((∃ q ∈ partsFrom l p N, q.1 ≤ a ∧ a < q.2) ↔ ¬ ∃ o ∈ l, o.fr ≤ a ∧ a < o.en)
  | [], p, N, _, a, h1, h2 => by
    unfold partsFrom
    rw [if_pos (by omega)]
    simp; omega
  | o :: l, p, N, h, a, h1, h2 => by
    have hh := h.head
    have ht := h.tail
    unfold partsFrom
    by_cases ha : a < o.en
    · have hrest : ¬ ∃ q ∈ partsFrom l o.en N, q.1 ≤ a ∧ a < q.2 := by
        rintro ⟨q, hq, h3, h4⟩
        have := partsFrom_bd l o.en N ht q hq
        omega
      have hrest2 : ¬ ∃ x ∈ l, x.fr ≤ a ∧ a < x.en := by
        rintro ⟨x, hx, h3, h4⟩
        have := ht.2.1 x hx
        omega
      by_cases hb : a < o.fr
      · rw [if_pos (by omega)]
        constructor
        · rintro _ ⟨x, hx, h3, h4⟩
          rcases List.mem_cons.1 hx with rfl | hx
          · omega
          · exact hrest2 ⟨x, hx, h3, h4⟩
        · intro _
          exact ⟨(p, o.fr), by simp, by dsimp only; omega, by dsimp only; omega⟩
      · constructor
        · rintro ⟨q, hq, h3, h4⟩
          exfalso
          rcases List.mem_append.1 hq with hq | hq
          · split at hq
            · simp only [List.mem_singleton] at hq; subst hq; dsimp only at h3 h4; omega
            · simp at hq
          · exact hrest ⟨q, hq, h3, h4⟩
        · intro hn
          exact absurd ⟨o, List.mem_cons_self .., by omega, ha⟩ hn
    · have ih := partsFrom_cover l o.en N ht a (by omega) h2
      constructor
      · rintro ⟨q, hq, h3, h4⟩ ⟨x, hx, h5, h6⟩
        rcases List.mem_append.1 hq with hq | hq
        · split at hq
          · simp only [List.mem_singleton] at hq; subst hq; dsimp only at h3 h4; omega
          · simp at hq
        · rcases List.mem_cons.1 hx with rfl | hx
          · omega
          · exact ih.1 ⟨q, hq, h3, h4⟩ ⟨x, hx, h5, h6⟩
      · intro hn
        obtain ⟨q, hq, h3, h4⟩ := ih.2 (fun ⟨x, hx, h5, h6⟩ => hn ⟨x, List.mem_cons_of_mem _ hx, h5, h6⟩)
        exact ⟨q, List.mem_append_right _ hq, h3, h4⟩
/-- the length of all parts -/
def sumP (ps : List (Int × Int)) : Int := (ps.map fun q => q.2 - q.1).sum
def sumO (l : List Opn) : Int := (l.map fun o => o.en - o.fr).sum
theorem sumP_app (a b : List (Int × Int)) : sumP (a ++ b) = sumP a + sumP b := by unfold sumP; rw [List.map_append, List.sum_append]
theorem partsFrom_sum : ∀ (l : List Opn) (p N : Int), Segs l p N → sumP (partsFrom l p N) = N - p - sumO l
  | [], p, N, h => by
    have := h.2.2
    unfold partsFrom
    split
    · simp [sumP, sumO]
    · simp [sumP, sumO]; omega
  | o :: l, p, N, h => by
    have hh := h.head
    have ih := partsFrom_sum l o.en N h.tail
    unfold partsFrom
    rw [sumP_app, ih]
    unfold sumO
    rw [List.map_cons, List.sum_cons]
    split
    · simp only [sumP, List.map_cons, List.map_nil, List.sum_cons, List.sum_nil]; omega
    · simp only [sumP, List.map_nil, List.sum_nil]; omega
/-! ### how many places of a range meet a test -/
def cntR (f : Int → Bool) (p : Int) : Nat → Int
  | 0 => 0
  | n + 1 => (if f p then 1 else 0) + cntR f (p + 1) n
theorem cntR_split (f : Int → Bool) : ∀ (m n : Nat) (p : Int), cntR f p (m + n) = cntR f p m + cntR f (p + m) n
  | 0, n, p => by simp [cntR]
  | m + 1, n, p => by
    rw [show m + 1 + n = (m + n) + 1 by omega, cntR, cntR, cntR_split f m n (p + 1), show p + 1 + (m : Int) = p + ((m + 1 : Nat) : Int) by omega]
    omega
theorem cntR_all (f : Int → Bool) : ∀ (n : Nat) (p : Int), (∀ a, p ≤ a → a < p + n → f a = true) → cntR f p n = n
  | 0, p, _ => rfl
  | n + 1, p, h => by
    rw [cntR, h p (by omega) (by omega), cntR_all f n (p + 1) (fun a h1 h2 => h a (by omega) (by omega))]
    simp; omega
theorem cntR_none (f : Int → Bool) : ∀ (n : Nat) (p : Int), (∀ a, p ≤ a → a < p + n → f a = false) → cntR f p n = 0
  | 0, p, _ => rfl
  | n + 1, p, h => by
    rw [cntR, h p (by omega) (by omega), cntR_none f n (p + 1) (fun a h1 h2 => h a (by omega) (by omega))]
    simp
theorem cntR_bd (f : Int → Bool) : ∀ (n : Nat) (p : Int), 0 ≤ cntR f p n ∧ cntR f p n ≤ n
  | 0, p => by simp [cntR]
  | n + 1, p => by
    have := cntR_bd f n (p + 1)
    rw [cntR]
    split <;> omega
theorem cntR_parts (f : Int → Bool) : ∀ (l : List Opn) (p N : Int), Segs l p N → (∀ a, p ≤ a → a < N → (f a = true ↔ ¬ ∃ o ∈ l, o.fr ≤ a ∧ a < o.en)) → cntR f p (N - p).toNat = sumP (partsFrom l p N)
  | [], p, N, h, hf => by
    have h3 := h.2.2
    rw [cntR_all f _ p (fun a h1 h2 => (hf a h1 (by omega)).2 (by simp)), partsFrom_sum [] p N h]
    simp [sumO]; omega
  | o :: l, p, N, h, hf => by
    have hh := h.head
    have ht := h.tail
    have ih := cntR_parts f l o.en N ht (fun a h1 h2 => by
      rw [hf a (by omega) h2]
      constructor
      · exact fun hn ⟨x, hx, h5, h6⟩ => hn ⟨x, List.mem_cons_of_mem _ hx, h5, h6⟩
      · rintro hn ⟨x, hx, h5, h6⟩
        rcases List.mem_cons.1 hx with rfl | hx
        · omega
        · exact hn ⟨x, hx, h5, h6⟩)
    have e1 : (N - p).toNat = (o.fr - p).toNat + ((o.en - o.fr).toNat + (N - o.en).toNat) := by omega
    have e2 : p + ((o.fr - p).toNat : Int) = o.fr := by omega
    have e3 : o.fr + ((o.en - o.fr).toNat : Int) = o.en := by omega
    rw [e1, cntR_split, e2, cntR_split, e3, ih, partsFrom_sum _ _ _ h, partsFrom_sum _ _ _ ht]
    rw [cntR_all f _ p (fun a h1 h2 => (hf a h1 (by omega)).2 (by
      rintro ⟨x, hx, h5, h6⟩
      rcases List.mem_cons.1 hx with rfl | hx
      · omega
      · have := ht.2.1 x hx; omega))]
    rw [cntR_none f _ o.fr (fun a h1 h2 => by
      cases e : f a with
      | false => rfl
      | true => exact absurd ⟨o, List.mem_cons_self .., by omega, by omega⟩ ((hf a (by omega) (by omega)).1 e))]
    unfold sumO
    rw [List.map_cons, List.sum_cons]
    omega
/-! ### the line of a course -/
def lineB (N : Nat) (os : List Opn) (c : Int) : List UInt8 := (List.range N).map fun (a : Nat) => if opnAt os (a : Int) c then 46 else 35
theorem lineB_len (N : Nat) (os : List Opn) (c : Int) : (lineB N os c).length = N := by simp [lineB]
theorem lineB_at {N : Nat} {os : List Opn} {c : Int} {a : Nat} (h : a < N) : (lineB N os c).getD a 0 = if opnAt os (a : Int) c then 46 else 35 := by
  rw [List.getD_eq_getElem?_getD, lineB, List.getElem?_map, List.getElem?_range h]; rfl
theorem lineB_succ (N : Nat) (os : List Opn) (c : Int) : lineB (N + 1) os c = lineB N os c ++ [if opnAt os (N : Int) c then 46 else 35] := by
  unfold lineB
  rw [List.range_succ, List.map_append]; rfl
end Go.Proofs.Ytnhmcmohnpbcjaa
