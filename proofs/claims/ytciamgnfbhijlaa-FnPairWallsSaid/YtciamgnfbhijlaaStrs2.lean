/- The laws' marks over rows of texts, and the count of what came in. -/
import Derived.Test.YtciamgnfbhijlaaStrs
namespace Go.Proofs.Ytciamgnfbhijlaa
open Go.RowKit
set_option linter.unusedSimpArgs false
set_option linter.unusedVariables false
set_option linter.unnecessarySimpa false

/-- the texts of the marks k, k+1, .. -/
def markSs (k : Int) (n : Nat) : List ByteArray := (marks k n).map mtx
theorem markSs_length (k : Int) (n : Nat) : (markSs k n).length = n := by simp [markSs, marks_length]
theorem markSs_get (k : Int) (n i : Nat) (h : i < n) : (markSs k n)[i]? = some (mtx (k + i)) := by simp [markSs, marks_get n k i h]
theorem mdig_len (k : Nat) : ∀ (acc : List UInt8), (mdig k acc).length ≤ k + acc.length := by
  induction k using Nat.strongRecOn with
  | ind k ih =>
    intro acc
    rw [mdig]
    split
    · omega
    · have := ih (k / 10) (by omega) (UInt8.ofNat (48 + k % 10) :: acc)
      simp only [List.length_cons] at this
      omega
theorem mtx_size (k : Int) (h : k ≤ 4000000000) : (mtx k).size ≤ 9223372036854775807 := by
  unfold mtx
  split
  · rw [mkS_size]; decide
  · rw [mkS_size]
    have := mdig_len k.toNat []
    simp at this ⊢
    omega
theorem markedS (k : Int) (xs : List ByteArray) (n j : Nat) (hx : xs.length = n) (hj : j < n) :
    ((markSs k j).map Value.string ++ (xs.drop j).map Value.string).set j (.string (mtx (k + j))) = (markSs k (j + 1)).map Value.string ++ (xs.drop (j + 1)).map Value.string := by
  apply List.ext_getElem?
  intro i
  have hl : ((markSs k j).map Value.string).length = j := by simp [markSs_length]
  have hl2 : ((markSs k (j + 1)).map Value.string).length = j + 1 := by simp [markSs_length]
  rcases Nat.lt_trichotomy i j with h | h | h
  · rw [List.getElem?_set_ne (by omega), List.getElem?_append_left (by omega), List.getElem?_append_left (by omega), List.getElem?_map, List.getElem?_map, markSs_get _ _ _ h, markSs_get _ _ _ (by omega)]
  · subst h
    rw [List.getElem?_set_self (by simp [markSs_length]; omega), List.getElem?_append_left (by omega), List.getElem?_map, markSs_get _ _ _ (by omega)]
    rfl
  · rw [List.getElem?_set_ne (by omega), List.getElem?_append_right (by omega), List.getElem?_append_right (by omega), hl, hl2, List.getElem?_map, List.getElem?_map, List.getElem?_drop, List.getElem?_drop]
    congr 2
    omega
/-- Marks have been written into the row v of the call's own, and nothing else that was there has changed. -/
def RetMarkS (base : Nat) (v : Value) (k : Int) (n : Nat) (w : World) (e : Ending) (w' : World) : Prop :=
  e = .returned (.int .i64 (k + n)) ∧ OwnStrs w' base v (markSs k n) ∧ w.grownBy w' v.ownBlock
theorem grown_ext_by {a b c : World} {row : Option Nat} (h : a.grownBy b row) (e : Ext b c) : a.grownBy c row :=
  ⟨e.os.trans h.os, e.tape.trans h.tape, e.output.trans h.output, Nat.le_trans h.size e.size, fun i hi hne => (Below.block e i (Nat.lt_of_lt_of_le hi h.size)).trans (h.block i hi hne)⟩
theorem grown_set_by {w wr : World} {g j : Nat} (h : w.grownBy wr (some g)) (v : Value) : w.grownBy (wr.setCell ⟨g, j, none⟩ v) (some g) :=
  ⟨h.os, h.tape, h.output, Nat.le_trans h.size (by simp [World.setCell]), fun i hi hne => (Below.heap_setCell _ _ _ _ (fun e => hne (by rw [e]))).trans (h.block i hi hne)⟩
end Go.Proofs.Ytciamgnfbhijlaa
