/- CountPieces: how many pieces of each letter the courses of a wall have. -/
import Derived.Test.YtciamgnfbhijlaaClash
namespace Go.Proofs.Ytciamgnfbhijlaa
open Go.RowKit
set_option linter.unusedSimpArgs false
set_option linter.unusedVariables false
set_option linter.unnecessarySimpa false

/-- a number is written into a row of the call's own -/
theorem OwnInts.put {E : TypeId} {w : World} {base g n cap : Nat} {xs : List Int} (h : OwnInts E w base (.slice (some ⟨g, 0, none⟩) n cap) xs) (j : Nat) (y : Int) (hy : IsI64 y) :
    OwnInts E (w.setCell ⟨g, j, none⟩ (.int .i64 y)) base (.slice (some ⟨g, 0, none⟩) n cap) (xs.set j y) := by
  obtain rfl : xs.length = n := h.ints.1
  have hst := (h.1.stored j (.int .i64 y)).1
  refine ⟨?_, fun z hz => ?_⟩
  · rw [List.length_set, List.map_set]
    exact hst
  · rcases List.mem_or_eq_of_mem_set hz with h1 | h1
    · exact h.2 z h1
    · rw [h1]; exact hy
theorem OwnInts.reads {E : TypeId} {w : World} {base g n cap : Nat} {xs : List Int} (h : OwnInts E w base (.slice (some ⟨g, 0, none⟩) n cap) xs) (j : Nat) (hj : j < xs.length) :
    w.cell? ⟨g, j, none⟩ = some (.int .i64 (xs.getD j 0)) ∧ w.frozen? ⟨g, j, none⟩ = false := by
  obtain rfl : xs.length = n := h.ints.1
  refine ⟨?_, h.1.frozenAt j⟩
  rw [h.1.cellAt j (by omega), List.getElem?_map, List.getElem?_eq_getElem hj, List.getD_eq_getElem?_getD, List.getElem?_eq_getElem hj]
  rfl

def order5 : List UInt8 := [83, 72, 84, 66, 67]
/-- how many bytes of each letter -/
def cnt5 (l : List UInt8) : List Int := order5.map fun o => ((l.count o : Nat) : Int)
theorem cnt5_length (l : List UInt8) : (cnt5 l).length = 5 := by simp [cnt5, order5]
theorem cnt5_bd (l : List UInt8) : ∀ x ∈ cnt5 l, 0 ≤ x ∧ x ≤ l.length := by
  intro x hx
  obtain ⟨o, _, rfl⟩ := List.mem_map.1 hx
  have := List.count_le_length (a := o) (l := l)
  omega
theorem cnt5_at (l : List UInt8) (j : Nat) (hj : j < 5) : 0 ≤ (cnt5 l).getD j 0 ∧ (cnt5 l).getD j 0 ≤ l.length := by
  apply cnt5_bd
  rw [List.getD_eq_getElem?_getD, List.getElem?_eq_getElem (by rw [cnt5_length]; exact hj)]
  exact List.getElem_mem _
/-- the letter's number in the order -/
def idx5 (b : UInt8) : Nat := if b = 83 then 0 else if b = 72 then 1 else if b = 84 then 2 else if b = 66 then 3 else 4
theorem idx5_lt (b : UInt8) : idx5 b < 5 := by unfold idx5; repeat' split <;> try omega
theorem isPc_cases {b : UInt8} (h : isPc b = true) : b = 83 ∨ b = 72 ∨ b = 84 ∨ b = 66 ∨ b = 67 := by
  have h2 := forall_u8 (p := fun b => isPc b == (b == 83 || (b == 72 || (b == 84 || (b == 66 || b == 67))))) (by decide +kernel) b
  have h3 := eq_of_beq h2
  rw [h] at h3
  simpa using h3.symm
theorem index_order (b : UInt8) (h : isPc b = true) : Lib.indexByte order5 b = (idx5 b : Int) := by
  rcases isPc_cases h with rfl | rfl | rfl | rfl | rfl <;> decide +kernel
theorem cnt5_snoc (l : List UInt8) (b : UInt8) (h : isPc b = true) : cnt5 (l ++ [b]) = (cnt5 l).set (idx5 b) ((cnt5 l).getD (idx5 b) 0 + 1) := by
  rcases isPc_cases h with rfl | rfl | rfl | rfl | rfl <;> simp [cnt5, order5, idx5, List.count_append, List.count_cons, List.count_nil]
/-- the first j letters have been counted with one byte more -/
def mix5 (l : List UInt8) (b : UInt8) (j : Nat) : List Int := (cnt5 (l ++ [b])).take j ++ (cnt5 l).drop j
theorem mix5_length (l : List UInt8) (b : UInt8) (j : Nat) (hj : j ≤ 5) : (mix5 l b j).length = 5 := by
  simp [mix5, cnt5_length]; omega
theorem mix5_zero (l : List UInt8) (b : UInt8) : mix5 l b 0 = cnt5 l := by simp [mix5]
theorem mix5_five (l : List UInt8) (b : UInt8) : mix5 l b 5 = cnt5 (l ++ [b]) := by
  unfold mix5
  rw [List.take_of_length_le (by rw [cnt5_length]; omega), List.drop_of_length_le (by rw [cnt5_length]; omega), List.append_nil]
theorem cnt5_get (l : List UInt8) (j : Nat) (hj : j < 5) : (cnt5 l)[j]? = some ((l.count (order5.getD j 0) : Nat) : Int) := by
  rw [cnt5, List.getElem?_map, List.getElem?_eq_getElem (by exact hj), List.getD_eq_getElem?_getD, List.getElem?_eq_getElem (by exact hj)]
  rfl
theorem mix5_at (l : List UInt8) (b : UInt8) (j : Nat) (hj : j < 5) : (mix5 l b j).getD j 0 = (cnt5 l).getD j 0 := by
  unfold mix5
  rw [List.getD_eq_getElem?_getD, List.getD_eq_getElem?_getD, List.getElem?_append_right (by simp; omega), List.length_take, cnt5_length, List.getElem?_drop]
  congr 2
  omega
theorem mix5_succ (l : List UInt8) (b : UInt8) (j : Nat) (hj : j < 5) : mix5 l b (j + 1) = if order5.getD j 0 = b then (mix5 l b j).set j ((mix5 l b j).getD j 0 + 1) else mix5 l b j := by
  have e1 : mix5 l b j = (cnt5 (l ++ [b])).take j ++ (cnt5 l).getD j 0 :: (cnt5 l).drop (j + 1) := by
    unfold mix5
    rw [← drop_at (cnt5 l) j 0 (by rw [cnt5_length]; exact hj)]
  have e2 : mix5 l b (j + 1) = (cnt5 (l ++ [b])).take j ++ (cnt5 (l ++ [b])).getD j 0 :: (cnt5 l).drop (j + 1) := by
    unfold mix5
    rw [List.take_succ_eq_append_getElem (by rw [cnt5_length]; exact hj), List.append_assoc, List.getD_eq_getElem?_getD, List.getElem?_eq_getElem (by rw [cnt5_length]; exact hj)]
    rfl
  have g1 : (cnt5 (l ++ [b])).getD j 0 = (((l ++ [b]).count (order5.getD j 0) : Nat) : Int) := by rw [List.getD_eq_getElem?_getD, cnt5_get _ j hj]; rfl
  have g2 : (cnt5 l).getD j 0 = ((l.count (order5.getD j 0) : Nat) : Int) := by rw [List.getD_eq_getElem?_getD, cnt5_get _ j hj]; rfl
  have hl : ((cnt5 (l ++ [b])).take j).length = j := by rw [List.length_take, cnt5_length]; omega
  rw [mix5_at l b j hj, e2, e1, g1, g2, List.count_append]
  by_cases h : order5.getD j 0 = b
  · rw [if_pos h, List.set_append_right _ _ (by omega), hl, Nat.sub_self, List.set_cons_zero, h]
    simp
  · have : (b == order5.getD j 0) = false := by rw [beq_eq_false_iff_ne]; exact fun e => h e.symm
    rw [if_neg h, List.count_cons, List.count_nil, this]
    simp
/-- all bytes of the first k courses -/
def allB (ss : List ByteArray) (k : Nat) : List UInt8 := ((ss.take k).map bts).flatten
theorem allB_succ (ss : List ByteArray) (k : Nat) (h : k < ss.length) : allB ss (k + 1) = allB ss k ++ bts (ss.getD k ByteArray.empty) := by
  unfold allB
  rw [List.take_succ_eq_append_getElem h, List.map_append, List.flatten_append, List.getD_eq_getElem?_getD, List.getElem?_eq_getElem h]
  simp
theorem allB_length (ss : List ByteArray) (hb : Brief ss) (k : Nat) : (allB ss k).length ≤ 60 * k := by
  induction k with
  | zero => simp [allB]
  | succ k ih =>
    by_cases h : k < ss.length
    · rw [allB_succ ss k h, List.length_append, bts_length]
      have := hb.at h
      omega
    · have : allB ss (k + 1) = allB ss k := by
        unfold allB
        rw [List.take_of_length_le (by omega), List.take_of_length_le (by omega)]
      rw [this]; omega
/-- what CountPieces answers -/
def cpL (ss : List ByteArray) : List Int := if validW ss then cnt5 (allB ss ss.length) else []
theorem cpL_length (ss : List ByteArray) : (cpL ss).length ≤ 5 := by
  unfold cpL
  split
  · rw [cnt5_length]; exact Nat.le_refl _
  · simp
theorem cnt5_nil : cnt5 [] = [0, 0, 0, 0, 0] := by simp [cnt5, order5]
theorem OwnInts.zeros {w1 : World} {base n : Nat} {v : Value} (h : w1.ownsRow base 2 1 v n (List.replicate n (Value.int .i64 0))) : OwnInts 2 w1 base v (List.replicate n 0) := by
  refine ⟨by simpa using h, fun x hx => ?_⟩
  rw [List.eq_of_mem_replicate hx]
  unfold IsI64; omega
theorem s_l06Order (w : World) : Calls Try.prog 53 #[] w (RetV (.string ⟨#[83, 72, 84, 66, 67]⟩) w) := by
  go_enter Try.func53, Try.ntmps53
  go_wp2
  go_ret
  exact RetV.mk rfl
theorem order_txt : ∃ M : ByteArray, M = ⟨#[83, 72, 84, 66, 67]⟩ ∧ M.size = 5 ∧ bts M = order5 := ⟨_, rfl, rfl, rfl⟩
theorem order_at (M : ByteArray) (h : bts M = order5) (j : Nat) (hj : j < M.size) : order5.getD j 0 = M[j] := by
  obtain ⟨h3, h4⟩ := byte_at M j hj
  rw [← h, List.getD_eq_getElem?_getD, List.getElem?_eq_getElem h3, h4]
  rfl
end Go.Proofs.Ytciamgnfbhijlaa
