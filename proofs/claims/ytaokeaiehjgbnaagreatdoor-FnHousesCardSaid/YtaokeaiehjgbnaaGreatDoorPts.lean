/- Rows of places that the call itself makes: a slice of slices of two integers. Nothing here speaks of the program. -/
import Derived.Test.YtaokeaiehjgbnaaGreatDoorLawInts
import Derived.Test.YtaokeaiehjgbnaaGreatDoorHouse0
namespace Go.Proofs.YtaokeaiehjgbnaaGreatDoor
open Go.RowKit
set_option linter.unusedSimpArgs false
set_option linter.unusedVariables false
set_option linter.unnecessarySimpa false

def slV (g : Nat) : Value := .slice (some ⟨g, 0, none⟩) 2 2
def PB (w : World) (base g : Nat) (p : Int × Int) : Prop := base ≤ g ∧ w.heap[g]? = some (.cells #[.int .i64 p.1, .int .i64 p.2] 2 (0, 0))
/-- a row of places that the call owns -/
def OwnPts (w : World) (base : Nat) (v : Value) (ps : List (Int × Int)) : Prop :=
  ∃ gs : List Nat, gs.length = ps.length ∧ w.ownsRow base 24 1 v ps.length (gs.map slV) ∧ (∀ i, i < ps.length → PB w base (gs.getD i 0) (ps.getD i (0, 0))) ∧ gs.Nodup
theorem PB.ext {w w' : World} {base g : Nat} {p : Int × Int} (h : PB w base g p) (e : Ext w w') : PB w' base g p := ⟨h.1, e.block h.2⟩
theorem OwnPts.ext {w w' : World} {base : Nat} {v : Value} {ps : List (Int × Int)} (h : OwnPts w base v ps) (e : Ext w w') : OwnPts w' base v ps :=
  let ⟨gs, h1, h2, h3, h4⟩ := h
  ⟨gs, h1, ownsRow_ext h2 e, fun i hi => (h3 i hi).ext e, h4⟩
/-- a block of another type is not the row's -/
theorem row_ne {w : World} {base : Nat} {E T : TypeId} {size n k : Nat} {v : Value} {xs : List Value} {cur : Array Value} {m : Nat × Nat} (h : w.ownsRow base E size v n xs) (hk : w.heap[k]? = some (.cells cur T m)) (hT : T ≠ E) : some k ≠ v.ownBlock := by
  intro e
  rcases h.2 with ⟨rfl, _⟩ | ⟨g, cap, c2, rfl, _, hg, _⟩
  · simp [Value.ownBlock] at e
  · simp only [Value.ownBlock, Option.some.injEq] at e
    subst e
    rw [hk] at hg
    simp only [Option.some.injEq, Obj.cells.injEq] at hg
    exact hT hg.2.1
theorem row_slice {w : World} {base : Nat} {E : TypeId} {size n : Nat} {v : Value} {xs : List Value} (h : w.ownsRow base E size v n xs) : ∃ a c, v = .slice a n c := by
  rcases h.2 with ⟨rfl, h0⟩ | ⟨g, cap, cur, rfl, _⟩
  · exact ⟨_, _, by rw [h0]⟩
  · exact ⟨_, _, rfl⟩
theorem ii_ne : (2 : TypeId) ≠ 24 := by decide
theorem info_is : (Tryz.prog.info? 24).map (fun i => (i.zero, i.size, i.bytes)) = some (some (.slice none 0 0), 1, 24) := by kernel_rfl
theorem wpList_append_pt {W w0 w : World} {ops : Array Oper} {rest : List Oper} {o : Oper} {a : Act} {Q : Exit → Act → World → Prop} (hgd : o.guard = none) (s x : Operand)
    (ho : o.op = .call { callee := .builtin .append, args := #[s, x], argTypes := #[30, 30] })
    (v : Value) (ps : List (Int × Int)) (px py : Int) (hs : a.eval s = v) (hw : w = (w0.alloc (.cells #[.int .i64 px, .int .i64 py] 2)).alloc (.cells #[slV w0.heap.size] 24)) (hx : a.eval x = .slice (some ⟨w0.heap.size + 1, 0, none⟩) 1 1)
    (hown : OwnPts w0 W.heap.size v ps) (e : Ext W w0) (hlen : ps.length ≤ 1000000)
    (h : ∀ v' w', OwnPts w' W.heap.size v' (ps ++ [(px, py)]) → Ext W w' → (∀ (k : Nat) (cur : Array Value) (T : TypeId) (m : Nat × Nat), T ≠ 24 → w0.heap[k]? = some (.cells cur T m) → w'.heap[k]? = some (.cells cur T m)) → wpList Tryz.prog ops Q rest (a.put o.dst v') w') : wpList Tryz.prog ops Q (o :: rest) a w := by
  obtain ⟨i0, hi, hz0, hz1, hz2⟩ := info_parts info_is
  obtain ⟨gs, hg1, hg2, hg3, hg4⟩ := hown
  subst hw
  have e1 : Ext w0 (w0.alloc (.cells #[.int .i64 px, .int .i64 py] 2)) := (Ext.refl _).alloc _
  have e2 : Ext (w0.alloc (.cells #[.int .i64 px, .int .i64 py] 2)) ((w0.alloc (.cells #[.int .i64 px, .int .i64 py] 2)).alloc (.cells #[slV w0.heap.size] 24)) := (Ext.refl _).alloc _
  have hbn : (w0.alloc (.cells #[.int .i64 px, .int .i64 py] 2)).heap[w0.heap.size]? = some (.cells #[.int .i64 px, .int .i64 py] 2 (0, 0)) := heap_alloc_new w0 _
  have hw2 := ownsRow_ext hg2 (e1.trans e2)
  refine wpList_append_own _ hgd s x 30 ho W.heap.size 24 i0 (.slice none 0 0) 1 24 Tryz.underlying30 hi hz0 hz1 hz2 rfl (by decide) v ps.length (gs.map slV) hs hw2
    ⟨w0.heap.size + 1, 0, none⟩ 1 1 [slV w0.heap.size] hx rfl ?_ (by intro u hu; simp at hu; subst hu; rfl) (by unfold maxLen; omega) (by omega) (by have := e.size; simp; omega) ?_
  · have hc := cell_one_new (w0.alloc (.cells #[.int .i64 px, .int .i64 py] 2)) (slV w0.heap.size) 24
    rw [World.size_alloc] at hc
    exact hc
  intro v' w' ho' hg _
  have hk : ∀ (k : Nat) (cur : Array Value) (T : TypeId) (m : Nat × Nat), T ≠ 24 → w0.heap[k]? = some (.cells cur T m) → w'.heap[k]? = some (.cells cur T m) := fun k cur T m hT hk => by
    have h1 := (e1.trans e2).block hk
    rw [hg.block k (lt_of_block h1) (row_ne hw2 h1 hT)]
    exact h1
  have hnew : w'.heap[w0.heap.size]? = some (.cells #[.int .i64 px, .int .i64 py] 2 (0, 0)) := by
    have h1 := e2.block hbn
    rw [hg.block _ (lt_of_block h1) (row_ne hw2 h1 ii_ne)]
    exact h1
  refine h v' w' ⟨gs ++ [w0.heap.size], by simp [hg1], ?_, ?_, ?_⟩ (((e.trans e1).trans e2).grown hg (fun k hk => (hw2.lt k hk).1)) hk
  · rw [List.length_append, List.map_append]; exact ho'
  · intro i hi
    by_cases h2 : i < ps.length
    · have h3 := hg3 i h2
      have e3 : (gs ++ [w0.heap.size]).getD i 0 = gs.getD i 0 := by rw [List.getD_eq_getElem?_getD, List.getElem?_append_left (by omega), ← List.getD_eq_getElem?_getD]
      have e4 : (ps ++ [(px, py)]).getD i (0, 0) = ps.getD i (0, 0) := by rw [List.getD_eq_getElem?_getD, List.getElem?_append_left h2, ← List.getD_eq_getElem?_getD]
      rw [e3, e4]
      exact ⟨h3.1, hk _ _ _ _ ii_ne h3.2⟩
    · obtain rfl : i = ps.length := by simp at hi; omega
      have e3 : (gs ++ [w0.heap.size]).getD ps.length 0 = w0.heap.size := by rw [List.getD_eq_getElem?_getD, List.getElem?_append_right (by omega), hg1]; simp
      have e4 : (ps ++ [(px, py)]).getD ps.length (0, 0) = (px, py) := by rw [List.getD_eq_getElem?_getD, List.getElem?_append_right (Nat.le_refl _)]; simp
      rw [e3, e4]
      exact ⟨e.size, hnew⟩
  · rw [List.nodup_append]
    refine ⟨hg4, by simp, fun a ha b hb => ?_⟩
    simp only [List.mem_singleton] at hb
    subst hb
    intro he
    obtain ⟨i, hi, hai⟩ := List.mem_iff_getElem.1 ha
    have h5 := hg3 i (by omega)
    rw [List.getD_eq_getElem?_getD, List.getElem?_eq_getElem hi, Option.getD_some, hai, he] at h5
    exact absurd (lt_of_block h5.2) (Nat.lt_irrefl _)
/-- The slice of n places at ao reads, in w, as ps. -/
def PtsAt (w : World) (ao : Option Addr) (n : Nat) (ps : List (Int × Int)) : Prop :=
  n ≤ ps.length ∧ ∀ i, i < n → ∃ g gi, ao = some ⟨g, 0, none⟩ ∧ w.cell? ⟨g, i, none⟩ = some (slV gi) ∧ w.cell? ⟨gi, 0, none⟩ = some (.int .i64 (ps.getD i (0, 0)).1) ∧ w.cell? ⟨gi, 1, none⟩ = some (.int .i64 (ps.getD i (0, 0)).2)
theorem PtsAt.ext {w w' : World} {ao : Option Addr} {n : Nat} {ps : List (Int × Int)} (h : PtsAt w ao n ps) (e : Ext w w') : PtsAt w' ao n ps :=
  ⟨h.1, fun i hi => let ⟨g, gi, h1, h2, h3, h4⟩ := h.2 i hi; ⟨g, gi, h1, e.cell h2, e.cell h3, e.cell h4⟩⟩
theorem OwnPts.pts {w : World} {base n c : Nat} {ao : Option Addr} {ps : List (Int × Int)} (h : OwnPts w base (.slice ao n c) ps) : PtsAt w ao n ps := by
  obtain ⟨gs, h1, h2, h3, _⟩ := h
  have h2' := h2
  rcases h2.2 with ⟨hv, h0⟩ | ⟨g, cap, cur, hv, _⟩
  · simp only [Value.slice.injEq] at hv
    exact ⟨by omega, fun i hi => by omega⟩
  · simp only [Value.slice.injEq] at hv
    obtain ⟨rfl, rfl, rfl⟩ := hv
    refine ⟨Nat.le_refl _, fun i hi => ⟨g, gs.getD i 0, rfl, ?_, ?_, ?_⟩⟩
    · rw [h2'.cellAt i (by omega), List.getElem?_map, List.getElem?_eq_getElem (by omega), List.getD_eq_getElem?_getD, List.getElem?_eq_getElem (by omega)]
      rfl
    · exact (two_cells (h3 i hi).2).1
    · exact (two_cells (h3 i hi).2).2.1
theorem OwnPts.len {w : World} {base n c : Nat} {ao : Option Addr} {ps : List (Int × Int)} (h : OwnPts w base (.slice ao n c) ps) : ps.length = n := by
  obtain ⟨gs, h1, h2, h3, _⟩ := h
  rcases h2.2 with ⟨hv, h0⟩ | ⟨g, cap, cur, hv, _⟩
  · simp only [Value.slice.injEq] at hv; omega
  · simp only [Value.slice.injEq] at hv; exact hv.2.1.symm
theorem OwnPts.slice {w : World} {base : Nat} {v : Value} {ps : List (Int × Int)} (h : OwnPts w base v ps) : ∃ a c, v = .slice a ps.length c := let ⟨_, _, h2, _⟩ := h; row_slice h2
theorem OwnPts.cap {w : World} {base n c : Nat} {ao : Option Addr} {ps : List (Int × Int)} (h : OwnPts w base (.slice ao n c) ps) : n ≤ c := by
  obtain ⟨gs, h1, h2, h3, _⟩ := h
  rcases h2.2 with ⟨hv, h0⟩ | ⟨g, cap, cur, hv, hg, hh, hc, r⟩
  · simp only [Value.slice.injEq] at hv; omega
  · simp only [Value.slice.injEq] at hv
    obtain ⟨_, rfl, rfl⟩ := hv
    exact hc
def RetPts (ps : List (Int × Int)) (w : World) (e : Ending) (w' : World) : Prop := ∃ ao cap, e = .returned (.slice ao ps.length cap) ∧ OwnPts w' w.heap.size (.slice ao ps.length cap) ps ∧ Ext w w'
theorem RetPts.of_own {ps : List (Int × Int)} {w w' : World} {v : Value} (h : OwnPts w' w.heap.size v ps) (e : Ext w w') : RetPts ps w (.returned v) w' := by
  obtain ⟨a, c, rfl⟩ := h.slice
  exact ⟨a, c, rfl, h, e⟩
/-- the first place, laid by the call -/
theorem OwnPts.first {W w0 : World} (x y : Int) (e : Ext W w0) : OwnPts ((w0.alloc (.cells #[.int .i64 x, .int .i64 y] 2)).alloc (.cells #[slV w0.heap.size] 24)) W.heap.size (.slice (some ⟨w0.heap.size + 1, 0, none⟩) 1 1) [(x, y)] := by
  refine ⟨[w0.heap.size], rfl, ⟨rfl, .inr ⟨w0.heap.size + 1, 1, #[slV w0.heap.size], rfl, by have := e.size; omega, ?_, Nat.le_refl _, by unfold maxLen; omega, rfl, rfl⟩⟩, fun i hi => ?_, by simp⟩
  · have := heap_alloc_new (w0.alloc (.cells #[.int .i64 x, .int .i64 y] 2)) (.cells #[slV w0.heap.size] 24)
    rwa [World.size_alloc] at this
  · obtain rfl : i = 0 := by simp at hi; omega
    exact ⟨e.size, ((Ext.refl _).alloc _).block (heap_alloc_new w0 _)⟩
end Go.Proofs.YtaokeaiehjgbnaaGreatDoor
