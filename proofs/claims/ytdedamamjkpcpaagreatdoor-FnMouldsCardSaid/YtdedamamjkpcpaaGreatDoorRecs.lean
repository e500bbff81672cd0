/- Rows of the call's own whose elements have k cells each, as lists of lists; boxes of the call's own. Nothing here speaks of the program. -/
import Derived.Test.YtdedamamjkpcpaaGreatDoorMem
namespace Go.Proofs.YtdedamamjkpcpaaGreatDoor
open Go.RowKit
set_option linter.unusedSimpArgs false
set_option linter.unusedVariables false
set_option linter.unnecessarySimpa false

theorem flat_len {k : Nat} : ∀ (rs : List (List Value)), (∀ r ∈ rs, r.length = k) → rs.flatten.length = rs.length * k
  | [], _ => by simp
  | r :: rs, h => by
    rw [List.flatten_cons, List.length_append, h r (List.mem_cons_self ..), flat_len rs (fun x hx => h x (List.mem_cons_of_mem _ hx)), List.length_cons, Nat.succ_mul]
    omega
theorem flat_split {k : Nat} (rs : List (List Value)) (h : ∀ r ∈ rs, r.length = k) (j : Nat) (hj : j < rs.length) :
    rs.flatten = (rs.take j).flatten ++ (rs.getD j [] ++ (rs.drop (j + 1)).flatten) ∧ (rs.take j).flatten.length = j * k ∧ (rs.getD j []).length = k := by
  have hg : rs.getD j [] = rs[j] := by rw [List.getD_eq_getElem?_getD, List.getElem?_eq_getElem hj]; rfl
  refine ⟨?_, ?_, ?_⟩
  · conv => lhs; rw [← List.take_append_drop j rs, List.drop_eq_getElem_cons hj]
    rw [List.flatten_append, List.flatten_cons, hg]
  · rw [flat_len (k := k) _ (fun r hr => h r (List.mem_of_mem_take hr)), List.length_take, Nat.min_eq_left (by omega)]
  · rw [hg]; exact h _ (List.getElem_mem _)
theorem flat_get {k : Nat} (rs : List (List Value)) (h : ∀ r ∈ rs, r.length = k) (j i : Nat) (hj : j < rs.length) (hi : i < k) : rs.flatten[j * k + i]? = (rs.getD j [])[i]? := by
  obtain ⟨e, l1, l2⟩ := flat_split rs h j hj
  rw [e, List.getElem?_append_right (by omega), l1, Nat.add_sub_cancel_left, List.getElem?_append_left (by omega)]
theorem flat_set {k : Nat} (rs : List (List Value)) (h : ∀ r ∈ rs, r.length = k) (j i : Nat) (hj : j < rs.length) (hi : i < k) (v : Value) :
    rs.flatten.set (j * k + i) v = (rs.set j ((rs.getD j []).set i v)).flatten := by
  obtain ⟨e, l1, l2⟩ := flat_split rs h j hj
  conv => rhs; rw [List.set_eq_take_append_cons_drop, if_pos hj, List.flatten_append, List.flatten_cons]
  rw [e, List.set_append_right _ _ (by omega), l1, Nat.add_sub_cancel_left, List.set_append_left _ _ (by omega)]

/-- The slice v is one that the call made (from block base on), it may be written, and its elements of k cells each hold rs. -/
def OwnRecs (E : TypeId) (k : Nat) (w : World) (base : Nat) (v : Value) (rs : List (List Value)) : Prop := w.ownsRow base E k v rs.length rs.flatten ∧ ∀ r ∈ rs, r.length = k
theorem OwnRecs.ext {E : TypeId} {k : Nat} {w w' : World} {base : Nat} {v : Value} {rs : List (List Value)} (h : OwnRecs E k w base v rs) (e : Ext w w') : OwnRecs E k w' base v rs := ⟨ownsRow_ext h.1 e, h.2⟩
theorem OwnRecs.len {E : TypeId} {k : Nat} {w : World} {base n cap : Nat} {ao : Option Addr} {rs : List (List Value)} (h : OwnRecs E k w base (.slice ao n cap) rs) : rs.length = n := by
  rcases h.1.2 with ⟨hv, h0⟩ | ⟨g, c, cur, hv, _⟩
  · simp only [Value.slice.injEq] at hv; omega
  · simp only [Value.slice.injEq] at hv; exact hv.2.1.symm
theorem OwnRecs.reads {E : TypeId} {k : Nat} {w : World} {base g n cap : Nat} {rs : List (List Value)} (h : OwnRecs E k w base (.slice (some ⟨g, 0, none⟩) n cap) rs) (j i : Nat) (hj : j < n) (hi : i < k) (u : Value) (hu : (rs.getD j [])[i]? = some u) :
    w.cell? ⟨g, j * k + i, none⟩ = some u ∧ w.frozen? ⟨g, j * k + i, none⟩ = false := by
  obtain rfl := h.len
  refine ⟨?_, h.1.frozenAt _⟩
  rw [h.1.cellAt (j * k + i) (by have : j * k + k ≤ rs.length * k := by rw [← Nat.succ_mul]; exact Nat.mul_le_mul_right _ hj
                                 omega), flat_get rs h.2 j i hj hi, hu]
theorem OwnRecs.put {E : TypeId} {k : Nat} {w : World} {base g n cap : Nat} {rs : List (List Value)} (h : OwnRecs E k w base (.slice (some ⟨g, 0, none⟩) n cap) rs) (j i : Nat) (hj : j < n) (hi : i < k) (v : Value) :
    OwnRecs E k (w.setCell ⟨g, j * k + i, none⟩ v) base (.slice (some ⟨g, 0, none⟩) n cap) (rs.set j ((rs.getD j []).set i v)) := by
  obtain rfl := h.len
  have hst := (h.1.stored (j * k + i) v).1
  rw [flat_set rs h.2 j i hj hi] at hst
  refine ⟨by rw [List.length_set]; exact hst, fun r hr => ?_⟩
  rcases List.mem_or_eq_of_mem_set hr with h1 | h1
  · exact h.2 r h1
  · rw [h1, List.length_set]
    exact (flat_split rs h.2 j hj).2.2
theorem set_set_same (rs : List (List Value)) (j : Nat) (hj : j < rs.length) (f g : List Value → List Value) : (rs.set j (f (rs.getD j []))).set j (g ((rs.set j (f (rs.getD j []))).getD j [])) = rs.set j (g (f (rs.getD j []))) := by
  have : (rs.set j (f (rs.getD j []))).getD j [] = f (rs.getD j []) := by
    rw [List.getD_eq_getElem?_getD, List.getElem?_set_self (by exact hj)]; rfl
  rw [this, List.set_set]
/-- what an element of three cells reads as -/
theorem OwnRecs.reads3 {E : TypeId} {w : World} {base g n cap : Nat} {rs : List (List Value)} (h : OwnRecs E 3 w base (.slice (some ⟨g, 0, none⟩) n cap) rs) (j : Nat) (hj : j < n) {a b c : Value} (hr : rs.getD j [] = [a, b, c]) :
    w.cell? ⟨g, j * 3, none⟩ = some a ∧ w.cell? ⟨g, j * 3 + 1, none⟩ = some b ∧ w.cell? ⟨g, j * 3 + 2, none⟩ = some c ∧ w.frozen? ⟨g, j * 3, none⟩ = false ∧ w.frozen? ⟨g, j * 3 + 1, none⟩ = false ∧ w.frozen? ⟨g, j * 3 + 2, none⟩ = false := by
  have h0 := h.reads j 0 hj (by omega) a (by rw [hr]; rfl)
  have h1 := h.reads j 1 hj (by omega) b (by rw [hr]; rfl)
  have h2 := h.reads j 2 hj (by omega) c (by rw [hr]; rfl)
  exact ⟨h0.1, h1.1, h2.1, h0.2, h1.2, h2.2⟩
theorem OwnRecs.reads2 {E : TypeId} {w : World} {base g n cap : Nat} {rs : List (List Value)} (h : OwnRecs E 2 w base (.slice (some ⟨g, 0, none⟩) n cap) rs) (j : Nat) (hj : j < n) {a b : Value} (hr : rs.getD j [] = [a, b]) :
    w.cell? ⟨g, j * 2, none⟩ = some a ∧ w.cell? ⟨g, j * 2 + 1, none⟩ = some b ∧ w.frozen? ⟨g, j * 2, none⟩ = false ∧ w.frozen? ⟨g, j * 2 + 1, none⟩ = false := by
  have h0 := h.reads j 0 hj (by omega) a (by rw [hr]; rfl)
  have h1 := h.reads j 1 hj (by omega) b (by rw [hr]; rfl)
  exact ⟨h0.1, h1.1, h0.2, h1.2⟩
theorem three_list {l : List Value} (h : l.length = 3) (a b c : Value) : ((l.set 0 a).set 1 b).set 2 c = [a, b, c] := by
  match l, h with
  | [x, y, z], _ => rfl
/-- an element of three cells is written -/
theorem OwnRecs.put3 {E : TypeId} {w : World} {base g n cap : Nat} {rs : List (List Value)} (h : OwnRecs E 3 w base (.slice (some ⟨g, 0, none⟩) n cap) rs) (j : Nat) (hj : j < n) (a b c : Value) :
    OwnRecs E 3 (((w.setCell ⟨g, j * 3, none⟩ a).setCell ⟨g, j * 3 + 1, none⟩ b).setCell ⟨g, j * 3 + 2, none⟩ c) base (.slice (some ⟨g, 0, none⟩) n cap) (rs.set j [a, b, c]) := by
  have hl := h.len
  have h3 := ((h.put j 0 hj (by omega) a).put j 1 hj (by omega) b).put j 2 hj (by omega) c
  have g1 : ∀ (x : List Value), (rs.set j x).getD j [] = x := fun x => by rw [List.getD_eq_getElem?_getD, List.getElem?_set_self (by omega)]; rfl
  simp only [g1, List.set_set] at h3
  rw [three_list (flat_split rs h.2 j (by omega)).2.2] at h3
  exact h3
theorem two_list {l : List Value} (h : l.length = 2) (a b : Value) : (l.set 0 a).set 1 b = [a, b] := by
  match l, h with
  | [x, y], _ => rfl
theorem OwnRecs.put2 {E : TypeId} {w : World} {base g n cap : Nat} {rs : List (List Value)} (h : OwnRecs E 2 w base (.slice (some ⟨g, 0, none⟩) n cap) rs) (j : Nat) (hj : j < n) (a b : Value) :
    OwnRecs E 2 ((w.setCell ⟨g, j * 2, none⟩ a).setCell ⟨g, j * 2 + 1, none⟩ b) base (.slice (some ⟨g, 0, none⟩) n cap) (rs.set j [a, b]) := by
  have hl := h.len
  have h3 := (h.put j 0 hj (by omega) a).put j 1 hj (by omega) b
  have g1 : ∀ (x : List Value), (rs.set j x).getD j [] = x := fun x => by rw [List.getD_eq_getElem?_getD, List.getElem?_set_self (by omega)]; rfl
  simp only [g1, List.set_set] at h3
  rw [two_list (flat_split rs h.2 j (by omega)).2.2] at h3
  exact h3
theorem made3 (a b c : Value) (n : Nat) : (madeCells #[a, b, c] (n * 3)).toList = (List.replicate n [a, b, c]).flatten := by
  have hl : ∀ r ∈ List.replicate n [a, b, c], r.length = 3 := fun r hr => by rw [List.eq_of_mem_replicate hr]; rfl
  apply List.ext_getElem?
  intro j
  by_cases hj : j < n * 3
  · have hr := flat_get _ hl (j / 3) (j % 3) (by rw [List.length_replicate]; omega) (Nat.mod_lt _ (by omega))
    rw [show j / 3 * 3 + j % 3 = j by omega] at hr
    rw [hr, List.getD_eq_getElem?_getD, List.getElem?_replicate, if_pos (by omega)]
    have h4 : j % 3 = 0 ∨ j % 3 = 1 ∨ j % 3 = 2 := by omega
    rcases h4 with h | h | h <;> simp [madeCells, hj, h]
  · rw [List.getElem?_eq_none (by simp [madeCells]; omega), List.getElem?_eq_none (by rw [flat_len _ hl, List.length_replicate]; omega)]
theorem made2 (a b : Value) (n : Nat) : (madeCells #[a, b] (n * 2)).toList = (List.replicate n [a, b]).flatten := by
  have hl : ∀ r ∈ List.replicate n [a, b], r.length = 2 := fun r hr => by rw [List.eq_of_mem_replicate hr]; rfl
  apply List.ext_getElem?
  intro j
  by_cases hj : j < n * 2
  · have hr := flat_get _ hl (j / 2) (j % 2) (by rw [List.length_replicate]; omega) (Nat.mod_lt _ (by omega))
    rw [show j / 2 * 2 + j % 2 = j by omega] at hr
    rw [hr, List.getD_eq_getElem?_getD, List.getElem?_replicate, if_pos (by omega)]
    have h4 : j % 2 = 0 ∨ j % 2 = 1 := by omega
    rcases h4 with h | h <;> simp [madeCells, hj, h]
  · rw [List.getElem?_eq_none (by simp [madeCells]; omega), List.getElem?_eq_none (by rw [flat_len _ hl, List.length_replicate]; omega)]
theorem OwnRecs.setBelow {E : TypeId} {k : Nat} {w : World} {base : Nat} {v : Value} {rs : List (List Value)} (h : OwnRecs E k w base v rs) {a : Addr} (ha : a.block < base) (u : Value) : OwnRecs E k (w.setCell a u) base v rs := ⟨ownsRow_setCell_below h.1 ha u, h.2⟩
theorem OwnRecs.blk {E : TypeId} {k : Nat} {w : World} {base n cap : Nat} {ao : Option Addr} {rs : List (List Value)} (h : OwnRecs E k w base (.slice ao n cap) rs) : ∀ b, (Value.slice ao n cap).ownBlock = some b → base ≤ b ∧ b < w.heap.size := h.1.lt
/-- a cell of another block is written -/
theorem ownsRow_setCell_other {w : World} {base n : Nat} {E : TypeId} {size : Nat} {v : Value} {xs : List Value} (h : w.ownsRow base E size v n xs) {a : Addr} (ha : ∀ k, v.ownBlock = some k → a.block ≠ k) (u : Value) : (w.setCell a u).ownsRow base E size v n xs := by
  obtain ⟨h1, h2⟩ := h
  refine ⟨h1, ?_⟩
  rcases h2 with h2 | ⟨g, cap, cur, hv, hg, hh, r⟩
  · exact .inl h2
  · refine .inr ⟨g, cap, cur, hv, hg, ?_, r⟩
    rw [Below.heap_setCell _ _ _ _ (fun e => ha g (by rw [hv]; rfl) e.symm)]
    exact hh
/-- a box of the call's own that holds these cells -/
def Box (E : TypeId) (w : World) (base g : Nat) (vs : List Value) : Prop := OwnRecs E vs.length w base (.slice (some ⟨g, 0, none⟩) 1 1) [vs]
theorem Box.ext {E : TypeId} {w w' : World} {base g : Nat} {vs : List Value} (h : Box E w base g vs) (e : Ext w w') : Box E w' base g vs := OwnRecs.ext h e
theorem Box.new (E : TypeId) (w : World) (base : Nat) (vs : List Value) (hb : base ≤ w.heap.size) : Box E (w.alloc (.cells vs.toArray E)) base w.heap.size vs := by
  refine ⟨⟨by simp, .inr ⟨w.heap.size, 1, vs.toArray, rfl, hb, heap_alloc_new w _, Nat.le_refl _, by unfold maxLen; omega, by simp, by simp⟩⟩, fun r hr => ?_⟩
  simp at hr; rw [hr]
theorem Box.at {E : TypeId} {w : World} {base g : Nat} {vs : List Value} (h : Box E w base g vs) (i : Nat) (hi : i < vs.length) (u : Value) (hu : vs[i]? = some u) : w.cell? ⟨g, i, none⟩ = some u ∧ w.frozen? ⟨g, i, none⟩ = false := by
  have := OwnRecs.reads h 0 i (by omega) hi u hu
  simpa using this
theorem Box.put {E : TypeId} {w : World} {base g : Nat} {vs : List Value} (h : Box E w base g vs) (i : Nat) (hi : i < vs.length) (u : Value) : Box E (w.setCell ⟨g, i, none⟩ u) base g (vs.set i u) := by
  have := OwnRecs.put h 0 i (by omega) hi u
  unfold Box
  rw [List.length_set]
  simpa using this
end Go.Proofs.YtdedamamjkpcpaaGreatDoor
