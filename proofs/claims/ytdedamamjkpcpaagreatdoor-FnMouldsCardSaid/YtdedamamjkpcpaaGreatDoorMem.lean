/- Words for memory: a world that only grows, a slice of integers that is read, one that the call itself made; how they last. Nothing here speaks of the program. -/
import Derived.Test.YtdedamamjkpcpaaGreatDoorLib
import Derived.Deep.QuietTactic
import Derived.BigQuiet
import Derived.Carry
namespace Go.Proofs.YtdedamamjkpcpaaGreatDoor
open Go.RowKit
set_option linter.unusedSimpArgs false
set_option linter.unusedVariables false
set_option linter.unnecessarySimpa false

/-- what was there is as it was; there may be new blocks -/
def Ext (w w' : World) : Prop := Below w.heap.size w w'
theorem Ext.refl (w : World) : Ext w w := Below.refl _ _
theorem Ext.trans {a b c : World} (h : Ext a b) (k : Ext b c) : Ext a c := Below.trans h (Below.mono k h.size)
theorem Ext.size {a b : World} (h : Ext a b) : a.heap.size ≤ b.heap.size := Below.size h
theorem Ext.of_below {a b : World} {B : Nat} (h : Below B a b) (hB : a.heap.size ≤ B) : Ext a b := Below.mono h hB
theorem Ext.below {a b : World} {B : Nat} (h : Ext a b) (hB : B ≤ a.heap.size) : Below B a b := Below.mono h hB
theorem Ext.alloc {a b : World} (h : Ext a b) (o : Obj) : Ext a (b.alloc o) := Below.alloc h h.size o
theorem Ext.drew {a b : World} (h : Ext a b) : Ext a b.drew := Below.drew h
theorem Ext.drewN {a b : World} (h : Ext a b) (n : Nat) : Ext a (b.drewN n) := below_drewN h n
theorem Ext.setCell {a b : World} (h : Ext a b) {p : Addr} (hp : a.heap.size ≤ p.block) (u : Value) : Ext a (b.setCell p u) := Below.setCell h hp u
theorem Ext.cell {a b : World} (h : Ext a b) {p : Addr} {v : Value} (hv : a.cell? p = some v) : b.cell? p = some v := cell_later h hv
theorem Ext.block {a b : World} (h : Ext a b) {k : Nat} {o : Obj} (hk : a.heap[k]? = some o) : b.heap[k]? = some o := by
  rw [Below.block h k (lt_of_block hk)]; exact hk
theorem Ext.grown {a b c : World} (h : Ext a b) {row : Option Nat} (hg : b.grownBy c row) (hr : ∀ k, row = some k → a.heap.size ≤ k) : Ext a c := Below.grown h hg h.size hr
theorem grown_ext {a b : World} {row : Option Nat} (hg : a.grownBy b none) : Ext a b := Ext.grown (Ext.refl a) hg (by intro k h; cases h)

/-- The slice of n integers at ao reads, in w, as xs. -/
def Ints (w : World) (ao : Option Addr) (n : Nat) (xs : List Int) : Prop :=
  xs.length = n ∧ n ≤ 9223372036854775807 ∧ (∀ i, i < n → ∃ b off, ao = some ⟨b, off, none⟩ ∧ w.cell? ⟨b, off + i, none⟩ = some (.int .i64 (xs.getD i 0))) ∧ ∀ x ∈ xs, IsI64 x
theorem Ints.ext {w w' : World} {ao : Option Addr} {n : Nat} {xs : List Int} (h : Ints w ao n xs) (e : Ext w w') : Ints w' ao n xs :=
  ⟨h.1, h.2.1, fun i hi => let ⟨b, off, h1, h2⟩ := h.2.2.1 i hi; ⟨b, off, h1, e.cell h2⟩, h.2.2.2⟩
theorem Ints.at {w : World} {ao : Option Addr} {n : Nat} {xs : List Int} (h : Ints w ao n xs) {i : Nat} (hi : i < n) : IsI64 (xs.getD i 0) := by
  rw [List.getD_eq_getElem?_getD, List.getElem?_eq_getElem (by rw [h.1]; exact hi)]
  exact h.2.2.2 _ (List.getElem_mem _)

/-- The slice v is one that the call made (from block base on), it may be written, and it holds the integers xs. -/
def OwnInts (E : TypeId) (w : World) (base : Nat) (v : Value) (xs : List Int) : Prop :=
  w.ownsRow base E 1 v xs.length (xs.map (Value.int .i64)) ∧ ∀ x ∈ xs, IsI64 x
theorem OwnInts.mono {E : TypeId} {w : World} {base base' : Nat} {v : Value} {xs : List Int} (h : OwnInts E w base v xs) (hb : base' ≤ base) : OwnInts E w base' v xs := by
  obtain ⟨⟨h1, h2⟩, h3⟩ := h
  refine ⟨⟨h1, ?_⟩, h3⟩
  rcases h2 with h2 | ⟨g, cap, cur, hv, hg, r⟩
  · exact .inl h2
  · exact .inr ⟨g, cap, cur, hv, by omega, r⟩
theorem ownsRow_ext {E : TypeId} {size : Nat} {w w' : World} {base n : Nat} {v : Value} {xs : List Value} (h : w.ownsRow base E size v n xs) (e : Ext w w') : w'.ownsRow base E size v n xs := by
  obtain ⟨h1, h2⟩ := h
  refine ⟨h1, ?_⟩
  rcases h2 with h2 | ⟨g, cap, cur, hv, hg, hh, r⟩
  · exact .inl h2
  · exact .inr ⟨g, cap, cur, hv, hg, e.block hh, r⟩
theorem OwnInts.ext {E : TypeId} {w w' : World} {base : Nat} {v : Value} {xs : List Int} (h : OwnInts E w base v xs) (e : Ext w w') : OwnInts E w' base v xs := ⟨ownsRow_ext h.1 e, h.2⟩
theorem OwnInts.kept {E : TypeId} {w w' : World} {base : Nat} {v : Value} {xs : List Int} {row : Option Nat} (h : OwnInts E w base v xs) (hg : w.grownBy w' row) (hne : ∀ k, row = some k → k < base) : OwnInts E w' base v xs := by
  refine ⟨h.1.kept hg ?_, h.2⟩
  cases hr : row with
  | none => cases hv : v.ownBlock <;> simp
  | some k =>
    right
    intro e
    have := h.1.lt k e
    have := hne k hr
    omega
theorem OwnInts.apart {E : TypeId} {w w' : World} {base : Nat} {v : Value} {xs : List Int} {row : Option Nat} (h : OwnInts E w base v xs) (hg : w.grownBy w' row) (hne : ∀ k k', v.ownBlock = some k → row = some k' → k ≠ k') : OwnInts E w' base v xs := by
  refine ⟨h.1.kept hg ?_, h.2⟩
  cases hv : v.ownBlock with
  | none => exact .inl rfl
  | some k =>
    right
    cases hr : row with
    | none => simp
    | some k' => exact fun e => hne k k' hv hr (Option.some.inj e)
theorem OwnInts.setBelow {E : TypeId} {w : World} {base : Nat} {v : Value} {xs : List Int} (h : OwnInts E w base v xs) {a : Addr} (ha : a.block < base) (u : Value) : OwnInts E (w.setCell a u) base v xs := ⟨ownsRow_setCell_below h.1 ha u, h.2⟩
theorem OwnInts.shape {E : TypeId} {w : World} {base : Nat} {v : Value} {xs : List Int} (h : OwnInts E w base v xs) :
    ∃ ao cap, v = .slice ao xs.length cap ∧ Ints w ao xs.length xs ∧ (∀ a, ao = some a → v.ownBlock = some a.block ∧ base ≤ a.block ∧ a.block < w.heap.size) := by
  obtain ⟨hrow, hi⟩ := h
  have hrow' := hrow
  obtain ⟨h1, h2⟩ := hrow
  rcases h2 with ⟨rfl, h0⟩ | ⟨g, cap, cur, rfl, hg, hh, hc, hm, hcur, htake⟩
  · have hx : xs = [] := List.eq_nil_of_length_eq_zero h0
    subst hx
    exact ⟨none, 0, rfl, ⟨rfl, by omega, fun i hi => by omega, by simp⟩, by simp⟩
  · refine ⟨some ⟨g, 0, none⟩, cap, rfl, ⟨rfl, by have := hm; unfold maxLen at this; omega, fun i hi' => ⟨g, 0, rfl, ?_⟩, hi⟩, ?_⟩
    · rw [Nat.zero_add, hrow'.cellAt i (by omega), List.getElem?_map, List.getElem?_eq_getElem hi', List.getD_eq_getElem?_getD, List.getElem?_eq_getElem hi']
      rfl
    · intro a ha
      obtain rfl := Option.some.inj ha
      exact ⟨rfl, hg, lt_of_block hh⟩
theorem OwnInts.ints {E : TypeId} {w : World} {base n cap : Nat} {ao : Option Addr} {xs : List Int} (h : OwnInts E w base (.slice ao n cap) xs) : Ints w ao n xs := by
  obtain ⟨a, c, hv, hi, _⟩ := h.shape
  simp only [Value.slice.injEq] at hv
  obtain ⟨rfl, rfl, rfl⟩ := hv
  exact hi
theorem OwnInts.blk {E : TypeId} {w : World} {base n cap : Nat} {ao : Option Addr} {xs : List Int} (h : OwnInts E w base (.slice ao n cap) xs) :
    ∀ k, (Value.slice ao n cap).ownBlock = some k → base ≤ k ∧ k < w.heap.size := h.1.lt
theorem OwnInts.nilv (E : TypeId) (w : World) (base : Nat) : OwnInts E w base (.slice none 0 0) [] := ⟨World.ownsRow_nil _ _ _ _, by simp⟩

/-- a callee that leaves the world alone, met in a region that draws its order -/
theorem quiet_retv {P : Program} {f : FuncId} {args : Array Value} {w : World} {n : Nat} {v : Value} (h : Calls P f args (w.drewN n) (RetV v (w.drewN n))) :
    Calls P f args (w.drewN n) fun e w'' => e = .returned v ∧ ∃ m, w'' = w.drewN m :=
  h.mono fun _ _ ⟨he, hm⟩ => ⟨he, n, hm.symm⟩

theorem two_cells {w : World} {b : Nat} {x y : Value} {T : TypeId} (hb : w.heap[b]? = some (.cells #[x, y] T (0, 0))) :
    w.cell? ⟨b, 0, none⟩ = some x ∧ w.cell? ⟨b, 1, none⟩ = some y ∧ w.frozen? ⟨b, 0, none⟩ = false ∧ w.frozen? ⟨b, 1, none⟩ = false ∧ b < w.heap.size :=
  ⟨by simp [World.cell?, hb], by simp [World.cell?, hb], by simp [World.frozen?, hb], by simp [World.frozen?, hb], lt_of_block hb⟩

theorem OwnInts.empty {E : TypeId} {W w : World} (e : Ext W w) : OwnInts E (w.alloc (.cells #[] E)) W.heap.size (.slice (some ⟨w.heap.size, 0, none⟩) 0 0) [] :=
  ⟨World.ownsRow_made w #[] 0 e.size (by unfold maxLen; omega) rfl, by simp⟩

/-- a block of two cells, as a walk wants it -/
abbrev Two (w : World) (b : Nat) (x y : Value) : Prop := w.cell? ⟨b, 0, none⟩ = some x ∧ w.cell? ⟨b, 1, none⟩ = some y ∧ b < w.heap.size
theorem Two.ext {w w' : World} {b : Nat} {x y : Value} (h : Two w b x y) (e : Ext w w') : Two w' b x y := ⟨e.cell h.1, e.cell h.2.1, Nat.lt_of_lt_of_le h.2.2 e.size⟩
theorem Two.of {w : World} {b : Nat} {x y : Value} {T : TypeId} (hb : w.heap[b]? = some (.cells #[x, y] T (0, 0))) : Two w b x y := let h := two_cells hb; ⟨h.1, h.2.1, h.2.2.2.2⟩
theorem Two.new (w : World) (x y : Value) (T : TypeId) : Two (w.alloc (.cells #[x, y] T)) w.heap.size x y := Two.of (heap_alloc_new w _)

theorem three_cells {w : World} {b : Nat} {x y z : Value} {T : TypeId} (hb : w.heap[b]? = some (.cells #[x, y, z] T (0, 0))) :
    w.cell? ⟨b, 0, none⟩ = some x ∧ w.cell? ⟨b, 1, none⟩ = some y ∧ w.cell? ⟨b, 2, none⟩ = some z ∧ w.frozen? ⟨b, 0, none⟩ = false ∧ w.frozen? ⟨b, 1, none⟩ = false ∧ w.frozen? ⟨b, 2, none⟩ = false ∧ b < w.heap.size :=
  ⟨by simp [World.cell?, hb], by simp [World.cell?, hb], by simp [World.cell?, hb], by simp [World.frozen?, hb], by simp [World.frozen?, hb], by simp [World.frozen?, hb], lt_of_block hb⟩
abbrev Three (w : World) (b : Nat) (x y z : Value) : Prop := w.cell? ⟨b, 0, none⟩ = some x ∧ w.cell? ⟨b, 1, none⟩ = some y ∧ w.cell? ⟨b, 2, none⟩ = some z ∧ b < w.heap.size
theorem Three.ext {w w' : World} {b : Nat} {x y z : Value} (h : Three w b x y z) (e : Ext w w') : Three w' b x y z := ⟨e.cell h.1, e.cell h.2.1, e.cell h.2.2.1, Nat.lt_of_lt_of_le h.2.2.2 e.size⟩
theorem Three.of {w : World} {b : Nat} {x y z : Value} {T : TypeId} (hb : w.heap[b]? = some (.cells #[x, y, z] T (0, 0))) : Three w b x y z := let h := three_cells hb; ⟨h.1, h.2.1, h.2.2.1, h.2.2.2.2.2.2⟩
theorem Three.new (w : World) (x y z : Value) (T : TypeId) : Three (w.alloc (.cells #[x, y, z] T)) w.heap.size x y z := Three.of (heap_alloc_new w _)

theorem toList_ne {s t : ByteArray} (h : ¬ s = t) : (s.toList == t.toList) = false := by
  rw [beq_eq_false_iff_ne]
  intro e
  rw [ByteArray.toList_eq, ByteArray.toList_eq] at e
  exact h (ByteArray.ext (Array.ext' e))

end Go.Proofs.YtdedamamjkpcpaaGreatDoor
