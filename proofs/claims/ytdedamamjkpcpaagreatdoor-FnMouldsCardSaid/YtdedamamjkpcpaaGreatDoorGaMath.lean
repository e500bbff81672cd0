/- A group of texts, one behind the other: GaugeMath, CourseMath, LayMath. -/
import Init.Omega
import Derived.Lib.Bytealg
/- The arithmetic of storey rods: marks, and which of them is nearest to a level. No program in sight. -/
namespace Go.Proofs.YtdedamamjkpcpaaGreatDoor

def inB (n low high : Int) : Bool := decide (low ≤ n) && decide (n ≤ high)
theorem inB_iff {n low high : Int} : inB n low high = true ↔ low ≤ n ∧ n ≤ high := by simp [inB]

def absI (n : Int) : Int := if n < 0 then -n else n
theorem absI_of_nonneg {n : Int} (h : 0 ≤ n) : absI n = n := by unfold absI; split <;> omega
def dist (a b : Int) : Int := if a < b then b - a else a - b
theorem dist_nonneg (a b : Int) : 0 ≤ dist a b := by unfold dist; split <;> omega
theorem dist_abs (a b : Int) : absI (a - b) = dist a b := by unfold dist absI; split <;> split <;> omega

/-- the mark k of a storey -/
def mark (h c k : Int) : Int := (2 * (k * h) + c) / (2 * c)

theorem mark_arg (h k : Int) (h1 : 0 ≤ h) (h2 : h ≤ 6000) (k1 : 0 ≤ k) (k2 : k ≤ 40) : 0 ≤ k * h ∧ k * h ≤ 240000 := by
  constructor
  · exact Int.mul_nonneg k1 h1
  · have a : k * h ≤ 40 * h := Int.mul_le_mul_of_nonneg_right k2 h1
    omega

theorem mark_bd (h c k : Int) (h1 : 0 ≤ h) (h2 : h ≤ 6000) (c1 : 1 ≤ c) (c2 : c ≤ 40) (k1 : 0 ≤ k) (k2 : k ≤ 40) : 0 ≤ mark h c k ∧ mark h c k ≤ 480040 := by
  have ⟨a, b⟩ := mark_arg h k h1 h2 k1 k2
  unfold mark
  constructor
  · exact Int.ediv_nonneg (by omega) (by omega)
  · have := Int.ediv_le_self (a := 2 * (k * h) + c) (2 * c) (by omega)
    omega

/-- The nearest of the marks 0 .. n, the least of them where two are nearest. -/
def near (h c l : Int) : Nat → Int
  | 0 => 0
  | n + 1 => if dist (mark h c ((n : Int) + 1)) l < dist (mark h c (near h c l n)) l then (n : Int) + 1 else near h c l n

theorem near_bd (h c l : Int) (n : Nat) : 0 ≤ near h c l n ∧ near h c l n ≤ n := by
  induction n with
  | zero => simp [near]
  | succ n ih => unfold near; split <;> omega

def gcode (h c : Int) : Bool := inB h 100 6000 && inB c 1 40

/-- the greatest common divisor, as a number -/
def gcdI (a b : Int) : Int := (Nat.gcd a.toNat b.toNat : Nat)
theorem gcdI_pos (a b : Int) (hb : 1 ≤ b) : 1 ≤ gcdI a b := by
  have := Nat.gcd_pos_of_pos_right a.toNat (show 0 < b.toNat by omega)
  unfold gcdI; omega
theorem gcdI_le (a b : Int) (hb : 1 ≤ b) : gcdI a b ≤ b := by
  have := Nat.gcd_le_right (m := a.toNat) (n := b.toNat) (by omega)
  unfold gcdI; omega
end Go.Proofs.YtdedamamjkpcpaaGreatDoor

/- Courses as lists of bytes: quarters, pieces, sums. No program in sight. -/
namespace Go.Proofs.YtdedamamjkpcpaaGreatDoor

/-- the quarters of a piece, 0 if it is none -/
def qI (n : Int) : Int := if n = 83 then 4 else if n = 84 then 3 else if n = 72 ∨ n = 66 then 2 else if n = 67 then 1 else 0
def qB (b : UInt8) : Int := qI b.toNat
def isPc (b : UInt8) : Bool := decide (qB b ≠ 0)
def cutI (n : Int) : Bool := decide (n = 84 ∨ n = 66 ∨ n = 67)
def cutB (b : UInt8) : Bool := cutI b.toNat
theorem qI_bd (n : Int) : 0 ≤ qI n ∧ qI n ≤ 4 := by unfold qI; split <;> (try split) <;> (try split) <;> (try split) <;> omega
theorem qB_bd (b : UInt8) : 0 ≤ qB b ∧ qB b ≤ 4 := qI_bd _

def qSum (l : List UInt8) : Int := (l.map qB).sum
theorem qSum_nil : qSum [] = 0 := rfl
theorem qSum_cons (b : UInt8) (l : List UInt8) : qSum (b :: l) = qB b + qSum l := by simp [qSum]
theorem qSum_append (l m : List UInt8) : qSum (l ++ m) = qSum l + qSum m := by simp [qSum]
theorem qSum_snoc (l : List UInt8) (b : UInt8) : qSum (l ++ [b]) = qSum l + qB b := by rw [qSum_append, qSum_cons, qSum_nil, Int.add_zero]
theorem qSum_bd (l : List UInt8) : 0 ≤ qSum l ∧ qSum l ≤ 4 * l.length := by
  induction l with
  | nil => simp [qSum]
  | cons b l ih => have := qB_bd b; rw [qSum_cons, List.length_cons]; omega
/-- how many of the pieces are cut -/
def cutN (l : List UInt8) : Int := (l.countP cutB : Nat)
theorem cutN_snoc (l : List UInt8) (b : UInt8) : cutN (l ++ [b]) = cutN l + (if cutB b then 1 else 0) := by
  unfold cutN
  rw [List.countP_append, List.countP_singleton]
  split <;> simp
theorem cutN_bd (l : List UInt8) : 0 ≤ cutN l ∧ cutN l ≤ l.length := by
  have := List.countP_le_length (p := cutB) (l := l)
  unfold cutN; omega
/-- a text is a course -/
def validC (l : List UInt8) : Bool := inB l.length 1 60 && l.all isPc && decide (qSum l ≤ 200)
theorem validC_bd {l : List UInt8} (h : validC l = true) : 1 ≤ l.length ∧ l.length ≤ 60 ∧ l.all isPc = true ∧ qSum l ≤ 200 := by
  simp only [validC, Bool.and_eq_true, decide_eq_true_eq] at h
  have := inB_iff.1 h.1.1
  exact ⟨by omega, by omega, h.1.2, h.2⟩
def inL (m : List UInt8) (b : UInt8) : Bool := decide (0 ≤ Lib.indexByte m b)
theorem forall_u8 {p : UInt8 → Bool} (h : (List.range 256).all (fun n => p (UInt8.ofNat n)) = true) (b : UInt8) : p b = true := by
  have h1 := List.all_eq_true.1 h b.toNat (List.mem_range.2 b.toNat_lt)
  rwa [UInt8.ofNat_toNat] at h1
theorem inL_pieces (b : UInt8) : inL [83, 72, 84, 66, 67] b = isPc b := by
  have h := forall_u8 (p := fun b => inL [83, 72, 84, 66, 67] b == isPc b) (by decide +kernel) b
  exact eq_of_beq h
theorem all_take_succ {l : List UInt8} {p : UInt8 → Bool} {k : Nat} (hk : k < l.length) : (l.take (k + 1)).all p = ((l.take k).all p && p l[k]) := by
  rw [List.take_succ_eq_append_getElem hk, List.all_append]; simp
theorem all_false_of {l : List UInt8} {p : UInt8 → Bool} {k : Nat} (hk : k < l.length) (h : p l[k] = false) : l.all p = false := by
  rw [List.all_eq_false]
  exact ⟨l[k], List.getElem_mem hk, by simp [h]⟩
/-- what is left of stretchers -/
def wasB (b : UInt8) : Int := if cutB b then 4 - qB b else 0
def wasN (l : List UInt8) : Int := (l.map wasB).sum
theorem wasB_bd (b : UInt8) : 0 ≤ wasB b ∧ wasB b ≤ 4 := by have := qB_bd b; unfold wasB; split <;> omega
theorem wasN_snoc (l : List UInt8) (b : UInt8) : wasN (l ++ [b]) = wasN l + wasB b := by simp [wasN]
theorem wasN_bd (l : List UInt8) : 0 ≤ wasN l ∧ wasN l ≤ 4 * l.length := by
  induction l with
  | nil => simp [wasN]
  | cons b l ih =>
    have := wasB_bd b
    have e : wasN (b :: l) = wasB b + wasN l := by simp [wasN]
    rw [e, List.length_cons]; omega
/-- the perpends behind the first k pieces -/
def perpTo (l : List UInt8) : Nat → List Int
  | 0 => []
  | k + 1 => perpTo l k ++ [qSum (l.take (k + 1))]
theorem perpTo_length (l : List UInt8) (k : Nat) : (perpTo l k).length = k := by induction k with | zero => rfl | succ k ih => simp [perpTo, ih]
def perps (l : List UInt8) : List Int := perpTo l (l.length - 1)
theorem perps_length (l : List UInt8) : (perps l).length = l.length - 1 := perpTo_length _ _
end Go.Proofs.YtdedamamjkpcpaaGreatDoor

/- What is laid by a bond: the letters of a course that is not ended, their sums, the course. No program in sight. -/
namespace Go.Proofs.YtdedamamjkpcpaaGreatDoor

/-- a course of a bond -/
structure Crs where
  lead : ByteArray
  cyc : ByteArray
  deriving DecidableEq
instance : Inhabited Crs := ⟨⟨⟨#[]⟩, ⟨#[]⟩⟩⟩
def isWh (b : UInt8) : Bool := decide (b.toNat = 83 ∨ b.toNat = 72)
def crsB (l c : List UInt8) : Bool := decide (l.length ≤ 6) && (l.all isPc && (inB c.length 1 8 && c.all isWh))
/-- the letter at place i -/
def ltr (l c : List UInt8) (i : Nat) : UInt8 := if i < l.length then l.getD i 0 else c.getD ((i - l.length) % c.length) 0
theorem isWh_q {b : UInt8} (h : isWh b = true) : 2 ≤ qB b := by
  simp only [isWh, decide_eq_true_eq] at h
  unfold qB qI
  rcases h with h | h <;> simp [h]
theorem isPc_q {b : UInt8} (h : isPc b = true) : 1 ≤ qB b := by
  simp only [isPc, decide_eq_true_eq] at h
  have := qB_bd b
  omega
theorem isWh_pc {b : UInt8} (h : isWh b = true) : isPc b = true := by
  have := isWh_q h
  simp only [isPc, decide_eq_true_eq]
  omega
theorem crsB_bd {l c : List UInt8} (h : crsB l c = true) : l.length ≤ 6 ∧ l.all isPc = true ∧ 1 ≤ c.length ∧ c.length ≤ 8 ∧ c.all isWh = true := by
  simp only [crsB, Bool.and_eq_true, decide_eq_true_eq] at h
  have := inB_iff.1 h.2.2.1
  exact ⟨h.1, h.2.1, by omega, by omega, h.2.2.2⟩
theorem ltr_pc {l c : List UInt8} (h : crsB l c = true) (i : Nat) : isPc (ltr l c i) = true := by
  obtain ⟨_, h1, h2, _, h3⟩ := crsB_bd h
  unfold ltr
  split
  · rename_i hi
    rw [List.getD_eq_getElem?_getD, List.getElem?_eq_getElem hi, Option.getD_some]
    exact List.all_eq_true.1 h1 _ (List.getElem_mem hi)
  · have hi : (i - l.length) % c.length < c.length := Nat.mod_lt _ (by omega)
    rw [List.getD_eq_getElem?_getD, List.getElem?_eq_getElem hi, Option.getD_some]
    exact isWh_pc (List.all_eq_true.1 h3 _ (List.getElem_mem hi))
/-- the quarters of the first k letters -/
def preQ (f : Nat → UInt8) : Nat → Int
  | 0 => 0
  | k + 1 => preQ f k + qB (f k)
theorem preQ_ge {f : Nat → UInt8} (h : ∀ i, 1 ≤ qB (f i)) (k : Nat) : (k : Int) ≤ preQ f k := by
  induction k with
  | zero => simp [preQ]
  | succ k ih => have := h k; show _ ≤ preQ f k + qB (f k); omega
theorem preQ_le (f : Nat → UInt8) (k : Nat) : preQ f k ≤ 4 * k := by
  induction k with
  | zero => simp [preQ]
  | succ k ih => have := qB_bd (f k); show preQ f k + qB (f k) ≤ _; omega
theorem preQ_mono (f : Nat → UInt8) {j k : Nat} (h : j ≤ k) : preQ f j ≤ preQ f k := by
  induction k with
  | zero => rw [Nat.le_zero.1 h]; exact Int.le_refl _
  | succ k ih =>
    by_cases e : j = k + 1
    · rw [e]; exact Int.le_refl _
    · have := ih (by omega); have := qB_bd (f k); show _ ≤ preQ f k + qB (f k); omega
/-- how many letters fit -/
def layN (f : Nat → UInt8) (n : Int) : Nat → Nat → Nat
  | 0, k => k
  | m + 1, k => if preQ f (k + 1) ≤ n then layN f n m (k + 1) else k
def layK (f : Nat → UInt8) (n : Int) : Nat := layN f n n.toNat 0
theorem layN_eq {f : Nat → UInt8} {n : Int} {k : Nat} (h1 : preQ f k ≤ n) (h2 : n < preQ f (k + 1)) (m : Nat) : ∀ j, j ≤ k → k ≤ j + m → layN f n m j = k := by
  induction m with
  | zero => intro j hj hk; show j = k; omega
  | succ m ih =>
    intro j hj hk
    show (if preQ f (j + 1) ≤ n then layN f n m (j + 1) else j) = k
    by_cases e : j = k
    · subst e; rw [if_neg (by omega)]
    · have := preQ_mono f (show j + 1 ≤ k by omega)
      rw [if_pos (by omega)]
      exact ih (j + 1) (by omega) (by omega)
theorem layK_eq {f : Nat → UInt8} {n : Int} {k : Nat} (h : ∀ i, 1 ≤ qB (f i)) (h1 : preQ f k ≤ n) (h2 : n < preQ f (k + 1)) : layK f n = k :=
  layN_eq h1 h2 _ 0 (by omega) (by have := preQ_ge h k; omega)
theorem layN_le {f : Nat → UInt8} {n : Int} (m : Nat) : ∀ j, preQ f j ≤ n → preQ f (layN f n m j) ≤ n := by
  induction m with
  | zero => intro j h; exact h
  | succ m ih =>
    intro j h
    show preQ f (if preQ f (j + 1) ≤ n then layN f n m (j + 1) else j) ≤ n
    split
    · rename_i h1; exact ih _ h1
    · exact h
theorem layN_gt {f : Nat → UInt8} {n : Int} (h : ∀ i, 1 ≤ qB (f i)) (m : Nat) : ∀ j : Nat, n < (j : Int) + m + 1 → n < preQ f (layN f n m j + 1) := by
  induction m with
  | zero => intro j hj; have := preQ_ge h (j + 1); show n < preQ f (j + 1); omega
  | succ m ih =>
    intro j hj
    show n < preQ f ((if preQ f (j + 1) ≤ n then layN f n m (j + 1) else j) + 1)
    split
    · exact ih _ (by omega)
    · omega
theorem layK_bd {f : Nat → UInt8} {n : Int} (h : ∀ i, 1 ≤ qB (f i)) (hn : 0 ≤ n) : preQ f (layK f n) ≤ n ∧ n < preQ f (layK f n + 1) :=
  ⟨layN_le _ 0 hn, layN_gt h _ 0 (by omega)⟩
/-- the piece that ends a course -/
def tailB (r : Int) : List UInt8 := if r = 1 then [67] else if r = 2 then [66] else if r = 3 then [84] else []
def layT (f : Nat → UInt8) (n : Int) : List UInt8 := (List.range (layK f n)).map f ++ tailB (n - preQ f (layK f n))
theorem tailB_len (r : Int) : (tailB r).length ≤ 1 := by unfold tailB; split <;> (try split) <;> (try split) <;> simp
theorem layK_le {f : Nat → UInt8} {n : Int} (h : ∀ i, 1 ≤ qB (f i)) (hn : 0 ≤ n) : (layK f n : Int) ≤ n := by
  have h1 := (layK_bd h hn).1
  have h2 := preQ_ge h (layK f n)
  omega
theorem layT_len {f : Nat → UInt8} {n : Int} (h : ∀ i, 1 ≤ qB (f i)) (hn : 0 ≤ n) : ((layT f n).length : Int) ≤ n + 1 := by
  have h1 := layK_le h hn
  have h2 := tailB_len (n - preQ f (layK f n))
  unfold layT
  rw [List.length_append, List.length_map, List.length_range]
  omega
/-- what is laid is as long as was asked -/
theorem qSum_range (f : Nat → UInt8) (k : Nat) : qSum ((List.range k).map f) = preQ f k := by
  induction k with
  | zero => rfl
  | succ k ih => rw [List.range_succ, List.map_append, qSum_append, ih]; show _ + qSum [f k] = _; rw [qSum_cons, qSum_nil, Int.add_zero]; rfl
theorem qSum_tail {r : Int} (h0 : 0 ≤ r) (h3 : r ≤ 3) : qSum (tailB r) = r := by
  have : r = 0 ∨ r = 1 ∨ r = 2 ∨ r = 3 := by omega
  rcases this with rfl | rfl | rfl | rfl <;> decide
theorem layT_qSum {f : Nat → UInt8} {n : Int} (h : ∀ i, 1 ≤ qB (f i)) (hn : 0 ≤ n) : qSum (layT f n) = n := by
  have ⟨h1, h2⟩ := layK_bd h hn
  have h3 := qB_bd (f (layK f n))
  have h4 : n < preQ f (layK f n) + qB (f (layK f n)) := h2
  unfold layT
  rw [qSum_append, qSum_range, qSum_tail (by omega) (by omega)]
  omega
theorem tailB_pc (r : Int) : (tailB r).all isPc = true := by unfold tailB; split <;> (try split) <;> (try split) <;> decide
theorem layT_pc {f : Nat → UInt8} {n : Int} (h : ∀ i, isPc (f i) = true) : (layT f n).all isPc = true := by
  unfold layT
  rw [List.all_append, tailB_pc, Bool.and_true, List.all_map, List.all_eq_true]
  intro i _
  exact h i
/-- a name -/
def smI (n : Int) : Bool := decide (97 ≤ n ∧ n ≤ 122)
def nmI (n : Int) : Bool := decide ((97 ≤ n ∧ n ≤ 122) ∨ (48 ≤ n ∧ n ≤ 57) ∨ n = 45)
def nmB (b : UInt8) : Bool := nmI b.toNat
def nameB (l : List UInt8) : Bool := inB l.length 1 12 && (smI (l.getD 0 0).toNat && l.all nmB)
def crsOk (c : Crs) : Bool := crsB c.lead.data.toList c.cyc.data.toList
def bondB (nm : List UInt8) (cs : List Crs) : Bool := nameB nm && (inB cs.length 1 8 && cs.all crsOk)
theorem bondB_bd {nm : List UInt8} {cs : List Crs} (h : bondB nm cs = true) : 1 ≤ cs.length ∧ cs.length ≤ 8 ∧ cs.all crsOk = true := by
  simp only [bondB, Bool.and_eq_true] at h
  have := inB_iff.1 h.2.1
  exact ⟨by omega, by omega, h.2.2⟩
/-- the letters of a course of a wall -/
def crsAt (cs : List Crs) (k : Int) : Crs := cs.getD (k % cs.length).toNat default
def ltrAt (cs : List Crs) (k : Int) : Nat → UInt8 := ltr (crsAt cs k).lead.data.toList (crsAt cs k).cyc.data.toList
theorem crsAt_ok {cs : List Crs} (h1 : 1 ≤ cs.length) (h : cs.all crsOk = true) (k : Int) : crsOk (crsAt cs k) = true := by
  have hm : 0 ≤ k % (cs.length : Int) := Int.emod_nonneg _ (by omega)
  have hl : k % (cs.length : Int) < cs.length := Int.emod_lt_of_pos _ (by omega)
  have hi : (k % (cs.length : Int)).toNat < cs.length := by omega
  unfold crsAt
  rw [List.getD_eq_getElem?_getD, List.getElem?_eq_getElem hi, Option.getD_some]
  exact List.all_eq_true.1 h _ (List.getElem_mem hi)
theorem ltrAt_pc {cs : List Crs} (h1 : 1 ≤ cs.length) (h : cs.all crsOk = true) (k : Int) (i : Nat) : isPc (ltrAt cs k i) = true := ltr_pc (crsAt_ok h1 h k) i
theorem ltrAt_q {cs : List Crs} (h1 : 1 ≤ cs.length) (h : cs.all crsOk = true) (k : Int) (i : Nat) : 1 ≤ qB (ltrAt cs k i) := isPc_q (ltrAt_pc h1 h k i)
end Go.Proofs.YtdedamamjkpcpaaGreatDoor
