/- The first clash of a wall, as a search through lists. Nothing here speaks of the program. -/
import Derived.Test.YtciamgnfbhijlaaStrs2
import Derived.Test.YtciamgnfbhijlaaCourse
namespace Go.Proofs.Ytciamgnfbhijlaa
set_option linter.unusedSimpArgs false
set_option linter.unusedVariables false
set_option linter.unnecessarySimpa false

theorem perpTo_bd (l : List UInt8) (k : Nat) : ∀ x ∈ perpTo l k, 0 ≤ x ∧ x ≤ 4 * l.length := by
  induction k with
  | zero => intro x hx; simp [perpTo] at hx
  | succ k ih =>
    intro x hx
    rw [perpTo] at hx
    rcases List.mem_append.1 hx with h | h
    · exact ih x h
    · simp at h
      subst h
      have := qSum_bd (l.take (k + 1))
      have h2 : (l.take (k + 1)).length ≤ l.length := by rw [List.length_take]; omega
      omega
theorem perps_bd (l : List UInt8) : ∀ x ∈ perps l, 0 ≤ x ∧ x ≤ 4 * l.length := perpTo_bd l _
def findY (lap x : Int) : List Int → Option Int
  | [] => none
  | y :: r => if dist x y < lap then some y else findY lap x r
def findXY (lap : Int) (ys : List Int) : List Int → Option (Int × Int)
  | [] => none
  | x :: r => match findY lap x ys with
    | some y => some (x, y)
    | none => findXY lap ys r
def findK (lap : Int) : Int → List ByteArray → Option (Int × Int × Int)
  | k, a :: b :: r => match findXY lap (perps (bts b)) (perps (bts a)) with
    | some (x, y) => some (k, x, y)
    | none => findK lap (k + 1) (b :: r)
  | _, _ => none
theorem findY_none {lap x : Int} {l : List Int} : findY lap x l = none ↔ ∀ y ∈ l, ¬ dist x y < lap := by
  induction l with
  | nil => simp [findY]
  | cons y r ih =>
    rw [findY, List.forall_mem_cons]
    split
    · rename_i h
      exact ⟨fun h2 => (nomatch h2), fun h2 => absurd h h2.1⟩
    · rename_i h
      rw [ih]
      exact ⟨fun h2 => ⟨h, h2⟩, fun h2 => h2.2⟩
theorem findXY_none {lap : Int} {ys l : List Int} : findXY lap ys l = none ↔ ∀ x ∈ l, ∀ y ∈ ys, ¬ dist x y < lap := by
  induction l with
  | nil => simp [findXY]
  | cons x r ih =>
    rw [findXY, List.forall_mem_cons, ← findY_none (l := ys) (x := x)]
    cases h : findY lap x ys with
    | none => rw [ih]; exact ⟨fun h2 => ⟨rfl, h2⟩, fun h2 => h2.2⟩
    | some y => exact ⟨fun h2 => (nomatch h2), fun h2 => (nomatch h2.1)⟩
/-- what stands at a place, and behind it -/
theorem drop_at {α : Type} [Inhabited α] (l : List α) (k : Nat) (d : α) (h : k < l.length) : l.drop k = l.getD k d :: l.drop (k + 1) := by
  rw [List.getD_eq_getElem?_getD, List.getElem?_eq_getElem h, Option.getD_some, List.getElem_cons_drop]
theorem findY_hit {lap x : Int} {l : List Int} {m : Nat} (h : m < l.length) (hd : dist x (l.getD m 0) < lap) : findY lap x (l.drop m) = some (l.getD m 0) := by
  rw [drop_at l m 0 h, findY, if_pos hd]
theorem findY_miss {lap x : Int} {l : List Int} {m : Nat} (h : m < l.length) (hd : ¬ dist x (l.getD m 0) < lap) : findY lap x (l.drop m) = findY lap x (l.drop (m + 1)) := by
  rw [drop_at l m 0 h, findY, if_neg hd]
theorem findXY_hit {lap y : Int} {ys l : List Int} {j : Nat} (h : j < l.length) (hy : findY lap (l.getD j 0) ys = some y) : findXY lap ys (l.drop j) = some (l.getD j 0, y) := by
  rw [drop_at l j 0 h, findXY, hy]
theorem findXY_miss {lap : Int} {ys l : List Int} {j : Nat} (h : j < l.length) (hy : findY lap (l.getD j 0) ys = none) : findXY lap ys (l.drop j) = findXY lap ys (l.drop (j + 1)) := by
  rw [drop_at l j 0 h, findXY, hy]
theorem findK_hit {lap x y : Int} {l : List ByteArray} {k : Nat} (h : k + 1 < l.length) (hy : findXY lap (perps (bts (l.getD (k + 1) ByteArray.empty))) (perps (bts (l.getD k ByteArray.empty))) = some (x, y)) : findK lap k (l.drop k) = some ((k : Int), x, y) := by
  rw [drop_at l k ByteArray.empty (by omega), drop_at l (k + 1) ByteArray.empty h, findK, hy]
theorem findK_miss {lap : Int} {l : List ByteArray} {k : Nat} (h : k + 1 < l.length) (hy : findXY lap (perps (bts (l.getD (k + 1) ByteArray.empty))) (perps (bts (l.getD k ByteArray.empty))) = none) : findK lap k (l.drop k) = findK lap ((k : Int) + 1) (l.drop (k + 1)) := by
  rw [drop_at l k ByteArray.empty (by omega), drop_at l (k + 1) ByteArray.empty h, findK, hy]
theorem findK_end {lap : Int} {l : List ByteArray} {k : Nat} (h : l.length ≤ k + 1) (i : Int) : findK lap i (l.drop k) = none := by
  by_cases h2 : k < l.length
  · rw [drop_at l k ByteArray.empty h2, List.drop_of_length_le (by omega), findK]
    intro a b r e; simp at e
  · rw [List.drop_of_length_le (by omega), findK]
    intro a b r e; simp at e
end Go.Proofs.Ytciamgnfbhijlaa
