/- Contracts of the laws' own helpers over slices of integers: a copy, a comparison, marks that are written and looked for, the count of what came in. -/
import Derived.Test.YtdedamamjkpcpaaGreatDoorRows
import Derived.Test.YtdedamamjkpcpaaGreatDoorMem
namespace Go.Proofs.YtdedamamjkpcpaaGreatDoor
open Go.RowKit
set_option linter.unusedSimpArgs false
set_option linter.unusedVariables false
set_option linter.unnecessarySimpa false

theorem info_i64 : (Tryz.prog.info? 2).map (fun i => (i.zero, i.size, i.bytes)) = some (some (.int .i64 0), 1, 8) := by kernel_rfl

/-- a slice of integers that the call made is handed back -/
def RetInts (xs : List Int) (w : World) (e : Ending) (w' : World) : Prop := ∃ ao cap, e = .returned (.slice ao xs.length cap) ∧ OwnInts 2 w' w.heap.size (.slice ao xs.length cap) xs ∧ Ext w w'
/-- a value is handed back; nothing that was there has changed -/
def RetE (v : Value) (w : World) (e : Ending) (w' : World) : Prop := e = .returned v ∧ Ext w w'
theorem RetE.mk {v v' : Value} {w w' : World} (h : v' = v) (e : Ext w w') : RetE v w (.returned v') w' := ⟨by rw [h], e⟩

theorem ret_slice {ao : Option Addr} {n m c : Nat} (h : n = m) : Ending.returned (.slice ao n c) = .returned (.slice ao m c) := by rw [h]

theorem RetInts.of_own {xs : List Int} {w w' : World} {v : Value} (h : OwnInts 2 w' w.heap.size v xs) (e : Ext w w') : RetInts xs w (.returned v) w' := by
  obtain ⟨ao, cap, rfl, _, _⟩ := h.shape
  exact ⟨ao, cap, rfl, h, e⟩

/-- a slice of integers and a code are handed back -/
def RetIntsC (xs : List Int) (c : Int) (w : World) (e : Ending) (w' : World) : Prop := ∃ ao cap, e = .returned (.tuple #[.slice ao xs.length cap, .int .i64 c]) ∧ OwnInts 2 w' w.heap.size (.slice ao xs.length cap) xs ∧ Ext w w'
theorem RetIntsC.of_own {xs : List Int} {c c' : Int} {w w' : World} {v : Value} (h : OwnInts 2 w' w.heap.size v xs) (e : Ext w w') (hc : c' = c) : RetIntsC xs c w (.returned (.tuple #[v, .int .i64 c'])) w' := by
  obtain ⟨ao, cap, rfl, _, _⟩ := h.shape
  exact ⟨ao, cap, by rw [hc], h, e⟩

/-- one integer is appended to a row of the call's own -/
theorem wpList_append_int {W w0 w : World} {ops : Array Oper} {rest : List Oper} {o : Oper} {a : Act} {Q : Exit → Act → World → Prop} (hgd : o.guard = none) (s x : Operand)
    (ho : o.op = .call { callee := .builtin .append, args := #[s, x], argTypes := #[33, 33] })
    (v : Value) (xs : List Int) (y : Int) (hs : a.eval s = v) (hw : w = w0.alloc (.cells #[.int .i64 y] 2)) (hx : a.eval x = .slice (some ⟨w0.heap.size, 0, none⟩) 1 1)
    (hown : OwnInts 2 w0 W.heap.size v xs) (e : Ext W w0) (hy : IsI64 y) (hlen : xs.length ≤ 1000000000)
    (h : ∀ v' w', OwnInts 2 w' W.heap.size v' (xs ++ [y]) → Ext W w' → wpList Tryz.prog ops Q rest (a.put o.dst v') w') : wpList Tryz.prog ops Q (o :: rest) a w := by
  obtain ⟨i0, hi, hz0, hz1, hz2⟩ := info_parts info_i64
  subst hw
  refine wpList_append_own _ hgd s x 33 ho W.heap.size 2 i0 (.int .i64 0) 1 8 Tryz.underlying33 hi hz0 hz1 hz2 rfl (by decide) v xs.length (xs.map (Value.int .i64)) hs (hown.1.alloc _)
    ⟨w0.heap.size, 0, none⟩ 1 1 [.int .i64 y] hx rfl (cell_one_new _ _ _) (by intro u hu; simp at hu; subst hu; rfl) (by unfold maxLen; omega) (by omega) (by have := e.size; simp; omega) ?_
  intro v' w' ho' hg _
  refine h v' w' ⟨?_, ?_⟩ ?_
  · simpa using ho'
  · intro z hz
    rcases List.mem_append.1 hz with hz | hz
    · exact hown.2 z hz
    · simp at hz; subst hz; exact hy
  · exact (e.alloc _).grown hg (fun k hk => (hown.1.lt k hk).1)

theorem copied (xs : List Int) (n k : Nat) (hx : xs.length = n) (hk : k < n) :
    ((xs.take k).map (Value.int .i64) ++ List.replicate (n - k) (Value.int .i64 0)).set k (.int .i64 (xs.getD k 0)) = (xs.take (k + 1)).map (Value.int .i64) ++ List.replicate (n - (k + 1)) (Value.int .i64 0) := by
  have h1 : ((xs.take k).map (Value.int .i64)).length = k := by simp; omega
  have h2 : n - k = (n - (k + 1)) + 1 := by omega
  rw [List.set_append_right _ _ (by omega), h1, Nat.sub_self, h2, List.replicate_succ, List.set_cons_zero, List.take_succ_eq_append_getElem (by omega), List.map_append, List.append_assoc]
  congr 1
  simp [List.getD_eq_getElem?_getD, List.getElem?_eq_getElem (show k < xs.length by omega)]

/-- the marks k, k+1, .. -/
def marks (k : Int) : Nat → List Int
  | 0 => []
  | n + 1 => k :: marks (k + 1) n
theorem marks_length (n : Nat) : ∀ k, (marks k n).length = n := by induction n with | zero => intro k; rfl | succ n ih => intro k; simp [marks, ih]
theorem marks_get (n : Nat) : ∀ (k : Int) (i : Nat), i < n → (marks k n)[i]? = some (k + i) := by
  induction n with
  | zero => intro k i h; omega
  | succ n ih =>
    intro k i h
    cases i with
    | zero => simp [marks]
    | succ i => simp only [marks, List.getElem?_cons_succ]; rw [ih _ _ (by omega)]; congr 1; omega
theorem marks_mem {n : Nat} {k x : Int} (h : x ∈ marks k n) : k ≤ x ∧ x < k + n := by
  obtain ⟨i, hi, rfl⟩ := List.mem_iff_getElem.1 h
  rw [marks_length] at hi
  have := marks_get n k i hi
  rw [List.getElem?_eq_getElem (by rw [marks_length]; exact hi)] at this
  have := Option.some.inj this
  omega
theorem marked (k : Int) (xs : List Int) (n j : Nat) (hx : xs.length = n) (hj : j < n) :
    ((marks k j).map (Value.int .i64) ++ (xs.drop j).map (Value.int .i64)).set j (.int .i64 (k + j)) = (marks k (j + 1)).map (Value.int .i64) ++ (xs.drop (j + 1)).map (Value.int .i64) := by
  apply List.ext_getElem?
  intro i
  have hl : ((marks k j).map (Value.int .i64)).length = j := by simp [marks_length]
  have hl2 : ((marks k (j + 1)).map (Value.int .i64)).length = j + 1 := by simp [marks_length]
  rcases Nat.lt_trichotomy i j with h | h | h
  · rw [List.getElem?_set_ne (by omega), List.getElem?_append_left (by omega), List.getElem?_append_left (by omega), List.getElem?_map, List.getElem?_map, marks_get _ _ _ h, marks_get _ _ _ (by omega)]
  · subst h
    rw [List.getElem?_set_self (by simp [marks_length]; omega), List.getElem?_append_left (by omega), List.getElem?_map, marks_get _ _ _ (by omega)]
    rfl
  · rw [List.getElem?_set_ne (by omega), List.getElem?_append_right (by omega), List.getElem?_append_right (by omega), hl, hl2, List.getElem?_map, List.getElem?_map, List.getElem?_drop, List.getElem?_drop]
    congr 2
    omega

/-- Marks have been written into the row v of the call's own, and nothing else has changed. -/
def RetMark (base : Nat) (v : Value) (k : Int) (n : Nat) (w : World) (e : Ending) (w' : World) : Prop :=
  e = .returned (.int .i64 (k + n)) ∧ OwnInts 2 w' base v (marks k n) ∧ w.grownBy w' v.ownBlock
end Go.Proofs.YtdedamamjkpcpaaGreatDoor
