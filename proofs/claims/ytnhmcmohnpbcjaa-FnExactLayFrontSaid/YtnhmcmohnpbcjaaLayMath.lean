/- What is laid by a bond: the letters of a course that is not ended, their sums, the course. No program in sight. -/
import Derived.Test.YtnhmcmohnpbcjaaCourseMath
namespace Go.Proofs.Ytnhmcmohnpbcjaa

/-- a course of a bond -/
structure Crs where
  lead : ByteArray
  cyc : ByteArray
  deriving DecidableEq
instance : Inhabited Crs := ⟨⟨⟨#[]⟩, ⟨#[]⟩⟩⟩
def isWh (b : UInt8) : Bool := decide (b.toNat = 83 ∨ b.toNat = 72)
def crsB (l c : List UInt8) : Bool := decide (l.length ≤ 6) && (l.all isPc && (inB c.length 1 8 && c.all isWh))
/-- the letter at place i -/
def ltr (l c : List UInt8) (i : Nat) : UInt8 := if i < l.length then l.getD i 0 else c.getD ((i - l.length) % c.length) 0
theorem isWh_q {b : UInt8} (h : isWh b = true) : 2 ≤ qB b := by
  simp only [isWh, decide_eq_true_eq] at h
  unfold qB qI
  rcases h with h | h <;> simp [h]
theorem isPc_q {b : UInt8} (h : isPc b = true) : 1 ≤ qB b := by
  simp only [isPc, decide_eq_true_eq] at h
  have := qB_bd b
  omega
theorem isWh_pc {b : UInt8} (h : isWh b = true) : isPc b = true := by
  have := isWh_q h
  simp only [isPc, decide_eq_true_eq]
  omega
theorem crsB_bd {l c : List UInt8} (h : crsB l c = true) : l.length ≤ 6 ∧ l.all isPc = true ∧ 1 ≤ c.length ∧ c.length ≤ 8 ∧ c.all isWh = true := by
  simp only [crsB, Bool.and_eq_true, decide_eq_true_eq] at h
  have := inB_iff.1 h.2.2.1
  exact ⟨h.1, h.2.1, by omega, by omega, h.2.2.2⟩
theorem ltr_pc {l c : List UInt8} (h : crsB l c = true) (i : Nat) : isPc (ltr l c i) = true := by
  obtain ⟨_, h1, h2, _, h3⟩ := crsB_bd h
  unfold ltr
  split
  · rename_i hi
    rw [List.getD_eq_getElem?_getD, List.getElem?_eq_getElem hi, Option.getD_some]
    exact List.all_eq_true.1 h1 _ (List.getElem_mem hi)
  · have hi : (i - l.length) % c.length < c.length := Nat.mod_lt _ (by omega)
    rw [List.getD_eq_getElem?_getD, List.getElem?_eq_getElem hi, Option.getD_some]
    exact isWh_pc (List.all_eq_true.1 h3 _ (List.getElem_mem hi))
/-- the quarters of the first k letters -/
def preQ (f : Nat → UInt8) : Nat → Int
  | 0 => 0
  | k + 1 => preQ f k + qB (f k)
theorem preQ_ge {f : Nat → UInt8} (h : ∀ i, 1 ≤ qB (f i)) (k : Nat) : (k : Int) ≤ preQ f k := by
  induction k with
  | zero => simp [preQ]
  | succ k ih => have := h k; show _ ≤ preQ f k + qB (f k); omega
theorem preQ_le (f : Nat → UInt8) (k : Nat) : preQ f k ≤ 4 * k := by
  induction k with
  | zero => simp [preQ]
  | succ k ih => have := qB_bd (f k); show preQ f k + qB (f k) ≤ _; omega
theorem preQ_mono (f : Nat → UInt8) {j k : Nat} (h : j ≤ k) : preQ f j ≤ preQ f k := by
  induction k with
  | zero => rw [Nat.le_zero.1 h]; exact Int.le_refl _
  | succ k ih =>
    by_cases e : j = k + 1
    · rw [e]; exact Int.le_refl _
    · have := ih (by omega); have := qB_bd (f k); show _ ≤ preQ f k + qB (f k); omega
/-- how many letters fit -/
def layN (f : Nat → UInt8) (n : Int) : Nat → Nat → Nat
  | 0, k => k
  | m + 1, k => if preQ f (k + 1) ≤ n then layN f n m (k + 1) else k
def layK (f : Nat → UInt8) (n : Int) : Nat := layN f n n.toNat 0
theorem layN_eq {f : Nat → UInt8} {n : Int} {k : Nat} (h1 : preQ f k ≤ n) (h2 : n < preQ f (k + 1)) (m : Nat) : ∀ j, j ≤ k → k ≤ j + m → layN f n m j = k := by
  induction m with
  | zero => intro j hj hk; show j = k; omega
  | succ m ih =>
    intro j hj hk
    show (if preQ f (j + 1) ≤ n then layN f n m (j + 1) else j) = k
    by_cases e : j = k
    · subst e; rw [if_neg (by omega)]
    · have := preQ_mono f (show j + 1 ≤ k by omega)
      rw [if_pos (by omega)]
      exact ih (j + 1) (by omega) (by omega)
theorem layK_eq {f : Nat → UInt8} {n : Int} {k : Nat} (h : ∀ i, 1 ≤ qB (f i)) (h1 : preQ f k ≤ n) (h2 : n < preQ f (k + 1)) : layK f n = k :=
  layN_eq h1 h2 _ 0 (by omega) (by have := preQ_ge h k; omega)
theorem layN_le {f : Nat → UInt8} {n : Int} (m : Nat) : ∀ j, preQ f j ≤ n → preQ f (layN f n m j) ≤ n := by
  induction m with
  | zero => intro j h; exact h
  | succ m ih =>
    intro j h
    show preQ f (if preQ f (j + 1) ≤ n then layN f n m (j + 1) else j) ≤ n
    split
    · rename_i h1; exact ih _ h1
    · exact h
theorem layN_gt {f : Nat → UInt8} {n : Int} (h : ∀ i, 1 ≤ qB (f i)) (m : Nat) : ∀ j : Nat, n < (j : Int) + m + 1 → n < preQ f (layN f n m j + 1) := by
  induction m with
  | zero => intro j hj; have := preQ_ge h (j + 1); show n < preQ f (j + 1); omega
  | succ m ih =>
    intro j hj
    show n < preQ f ((if preQ f (j + 1) ≤ n then layN f n m (j + 1) else j) + 1)
    split
    · exact ih _ (by omega)
    · omega
theorem layK_bd {f : Nat → UInt8} {n : Int} (h : ∀ i, 1 ≤ qB (f i)) (hn : 0 ≤ n) : preQ f (layK f n) ≤ n ∧ n < preQ f (layK f n + 1) :=
  ⟨layN_le _ 0 hn, layN_gt h _ 0 (by omega)⟩
/-- the piece that ends a course -/
def tailB (r : Int) : List UInt8 := if r = 1 then [67] else if r = 2 then [66] else if r = 3 then [84] else []
def layT (f : Nat → UInt8) (n : Int) : List UInt8 := (List.range (layK f n)).map f ++ tailB (n - preQ f (layK f n))
theorem tailB_len (r : Int) : (tailB r).length ≤ 1 := by unfold tailB; split <;> (try split) <;> (try split) <;> simp
theorem layK_le {f : Nat → UInt8} {n : Int} (h : ∀ i, 1 ≤ qB (f i)) (hn : 0 ≤ n) : (layK f n : Int) ≤ n := by
  have h1 := (layK_bd h hn).1
  have h2 := preQ_ge h (layK f n)
  omega
theorem layT_len {f : Nat → UInt8} {n : Int} (h : ∀ i, 1 ≤ qB (f i)) (hn : 0 ≤ n) : ((layT f n).length : Int) ≤ n + 1 := by
  have h1 := layK_le h hn
  have h2 := tailB_len (n - preQ f (layK f n))
  unfold layT
  rw [List.length_append, List.length_map, List.length_range]
  omega
/-- what is laid is as long as was asked -/
theorem qSum_range (f : Nat → UInt8) (k : Nat) : qSum ((List.range k).map f) = preQ f k := by
  induction k with
  | zero => rfl
  | succ k ih => rw [List.range_succ, List.map_append, qSum_append, ih]; show _ + qSum [f k] = _; rw [qSum_cons, qSum_nil, Int.add_zero]; rfl
theorem qSum_tail {r : Int} (h0 : 0 ≤ r) (h3 : r ≤ 3) : qSum (tailB r) = r := by
  have : r = 0 ∨ r = 1 ∨ r = 2 ∨ r = 3 := by omega
  rcases this with rfl | rfl | rfl | rfl <;> decide
theorem layT_qSum {f : Nat → UInt8} {n : Int} (h : ∀ i, 1 ≤ qB (f i)) (hn : 0 ≤ n) : qSum (layT f n) = n := by
  have ⟨h1, h2⟩ := layK_bd h hn
  have h3 := qB_bd (f (layK f n))
  have h4 : n < preQ f (layK f n) + qB (f (layK f n)) := h2
  unfold layT
  rw [qSum_append, qSum_range, qSum_tail (by omega) (by omega)]
  omega
theorem tailB_pc (r : Int) : (tailB r).all isPc = true := by unfold tailB; split <;> (try split) <;> (try split) <;> decide
theorem layT_pc {f : Nat → UInt8} {n : Int} (h : ∀ i, isPc (f i) = true) : (layT f n).all isPc = true := by
  unfold layT
  rw [List.all_append, tailB_pc, Bool.and_true, List.all_map, List.all_eq_true]
  intro i _
  exact h i
/-- a name -/
def smI (n : Int) : Bool := decide (97 ≤ n ∧ n ≤ 122)
def nmI (n : Int) : Bool := decide ((97 ≤ n ∧ n ≤ 122) ∨ (48 ≤ n ∧ n ≤ 57) ∨ n = 45)
def nmB (b : UInt8) : Bool := nmI b.toNat
def nameB (l : List UInt8) : Bool := inB l.length 1 12 && (smI (l.getD 0 0).toNat && l.all nmB)
def crsOk (c : Crs) : Bool := crsB c.lead.data.toList c.cyc.data.toList
def bondB (nm : List UInt8) (cs : List Crs) : Bool := nameB nm && (inB cs.length 1 8 && cs.all crsOk)
theorem bondB_bd {nm : List UInt8} {cs : List Crs} (h : bondB nm cs = true) : 1 ≤ cs.length ∧ cs.length ≤ 8 ∧ cs.all crsOk = true := by
  simp only [bondB, Bool.and_eq_true] at h
  have := inB_iff.1 h.2.1
  exact ⟨by omega, by omega, h.2.2⟩
/-- the letters of a course of a wall -/
def crsAt (cs : List Crs) (k : Int) : Crs := cs.getD (k % cs.length).toNat default
def ltrAt (cs : List Crs) (k : Int) : Nat → UInt8 := ltr (crsAt cs k).lead.data.toList (crsAt cs k).cyc.data.toList
theorem crsAt_ok {cs : List Crs} (h1 : 1 ≤ cs.length) (h : cs.all crsOk = true) (k : Int) : crsOk (crsAt cs k) = true := by
  have hm : 0 ≤ k % (cs.length : Int) := Int.emod_nonneg _ (by omega)
  have hl : k % (cs.length : Int) < cs.length := Int.emod_lt_of_pos _ (by omega)
  have hi : (k % (cs.length : Int)).toNat < cs.length := by omega
  unfold crsAt
  rw [List.getD_eq_getElem?_getD, List.getElem?_eq_getElem hi, Option.getD_some]
  exact List.all_eq_true.1 h _ (List.getElem_mem hi)
theorem ltrAt_pc {cs : List Crs} (h1 : 1 ≤ cs.length) (h : cs.all crsOk = true) (k : Int) (i : Nat) : isPc (ltrAt cs k i) = true := ltr_pc (crsAt_ok h1 h k) i
theorem ltrAt_q {cs : List Crs} (h1 : 1 ≤ cs.length) (h : cs.all crsOk = true) (k : Int) (i : Nat) : 1 ≤ qB (ltrAt cs k i) := isPc_q (ltrAt_pc h1 h k i)
end Go.Proofs.Ytnhmcmohnpbcjaa
