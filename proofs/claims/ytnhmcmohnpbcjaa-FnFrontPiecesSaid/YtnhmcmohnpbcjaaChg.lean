/- Worlds that change in some blocks alone. Nothing here speaks of the program. -/
import Derived.Test.YtnhmcmohnpbcjaaRecs
namespace Go.Proofs.Ytnhmcmohnpbcjaa
open Go.RowKit
set_option linter.unusedSimpArgs false
set_option linter.unusedVariables false
set_option linter.unnecessarySimpa false

/-- w' is w with new blocks, and with writes to the blocks of S alone -/
structure ChgS (S : Nat → Prop) (w w' : World) : Prop where
  os : w'.os = w.os
  tape : w'.tape = w.tape
  output : w'.output = w.output
  size : w.heap.size ≤ w'.heap.size
  block : ∀ k, k < w.heap.size → ¬ S k → w'.heap[k]? = w.heap[k]?
theorem ChgS.refl (S : Nat → Prop) (w : World) : ChgS S w w := ⟨rfl, rfl, rfl, Nat.le_refl _, fun _ _ _ => rfl⟩
theorem ChgS.trans {S : Nat → Prop} {a b c : World} (h : ChgS S a b) (k : ChgS S b c) : ChgS S a c :=
  ⟨k.os.trans h.os, k.tape.trans h.tape, k.output.trans h.output, Nat.le_trans h.size k.size, fun i hi hs => (k.block i (Nat.lt_of_lt_of_le hi h.size) hs).trans (h.block i hi hs)⟩
theorem ChgS.ext {S : Nat → Prop} {a b c : World} (h : ChgS S a b) (e : Ext b c) : ChgS S a c :=
  ⟨e.os.trans h.os, e.tape.trans h.tape, e.output.trans h.output, Nat.le_trans h.size e.size, fun i hi hs => (Below.block e i (Nat.lt_of_lt_of_le hi h.size)).trans (h.block i hi hs)⟩
theorem ChgS.of_ext {S : Nat → Prop} {a b : World} (e : Ext a b) : ChgS S a b := (ChgS.refl S a).ext e
theorem ChgS.blk {S : Nat → Prop} {a b : World} (h : ChgS S a b) {k : Nat} {o : Obj} (hk : a.heap[k]? = some o) (hs : ¬ S k) : b.heap[k]? = some o := (h.block k (lt_of_block hk) hs).trans hk
/-- a write to a block of S, or to one that was not there at first -/
theorem ChgS.set {S : Nat → Prop} {a b : World} (h : ChgS S a b) {p : Addr} (hp : S p.block ∨ a.heap.size ≤ p.block) (v : Value) : ChgS S a (b.setCell p v) := by
  obtain ⟨bl, i, x⟩ := p
  refine ⟨h.os, h.tape, h.output, Nat.le_trans h.size (by simp [World.setCell]), fun k hk hs => (Below.heap_setCell _ _ _ _ (fun e => ?_)).trans (h.block k hk hs)⟩
  dsimp only at hp e
  subst e
  rcases hp with hp | hp
  · exact hs hp
  · omega
theorem ChgS.grown {S : Nat → Prop} {a b c : World} (h : ChgS S a b) {r : Nat} (g : b.grownBy c (some r)) (hr : S r ∨ a.heap.size ≤ r) : ChgS S a c :=
  ⟨g.os.trans h.os, g.tape.trans h.tape, g.output.trans h.output, Nat.le_trans h.size g.size, fun i hi hs => (g.block i (Nat.lt_of_lt_of_le hi h.size) (fun e => by
    cases e
    rcases hr with hr | hr
    · exact hs hr
    · omega)).trans (h.block i hi hs)⟩
theorem ext_chg {S : Nat → Prop} {w W W' : World} (e : Ext w W) (h : ChgS S W W') (hs : ∀ i, S i → w.heap.size ≤ i) : Ext w W' :=
  ⟨h.os.trans e.os, h.tape.trans e.tape, h.output.trans e.output, Nat.le_trans e.size h.size, fun i hi => (h.block i (Nat.lt_of_lt_of_le hi e.size) (fun s => by have := hs i s; omega)).trans (Below.block e i hi)⟩
theorem ChgS.mono {S T : Nat → Prop} {a b : World} (h : ChgS S a b) (hT : ∀ i, i < a.heap.size → S i → T i) : ChgS T a b :=
  ⟨h.os, h.tape, h.output, h.size, fun i hi hs => h.block i hi (fun s => hs (hT i hi s))⟩
theorem OwnRecs.chg {E : TypeId} {k : Nat} {w w' : World} {base n cap g : Nat} {rs : List (List Value)} {S : Nat → Prop} (h : OwnRecs E k w base (.slice (some ⟨g, 0, none⟩) n cap) rs) (c : ChgS S w w') (hg : ¬ S g) : OwnRecs E k w' base (.slice (some ⟨g, 0, none⟩) n cap) rs := by
  refine ⟨⟨h.1.1, ?_⟩, h.2⟩
  rcases h.1.2 with ⟨hv, _⟩ | ⟨g', cap', cur, hv, hg', hh, r⟩
  · cases hv
  · have e := hv
    simp only [Value.slice.injEq, Option.some.injEq, Addr.mk.injEq, and_true] at e
    obtain ⟨rfl, _, _⟩ := e
    exact .inr ⟨g, cap', cur, hv, hg', c.blk hh hg, r⟩
/-- a block that is known whole, a cell of it written -/
theorem heap_setC {W : World} {b : Nat} (i : Nat) (x : Value) {cs : Array Value} {T : TypeId} {m : Nat × Nat} (h : W.heap[b]? = some (.cells cs T m)) : (W.setCell ⟨b, i, none⟩ x).heap[b]? = some (.cells (cs.setIfInBounds i x) T m) := by
  show (W.heap.modify b _)[b]? = _
  rw [Array.getElem?_modify, if_pos rfl, h]
  rfl
theorem heap_setN {W : World} {b : Nat} {o : Obj} (k i : Nat) (x : Value) (h : W.heap[b]? = some o) (hne : b ≠ k) : (W.setCell ⟨k, i, none⟩ x).heap[b]? = some o :=
  (Below.heap_setCell _ _ _ _ (fun e => hne e)).trans h
theorem four_cells {w : World} {b : Nat} {x y z u : Value} {T : TypeId} (hb : w.heap[b]? = some (.cells #[x, y, z, u] T (0, 0))) :
    w.cell? ⟨b, 0, none⟩ = some x ∧ w.cell? ⟨b, 1, none⟩ = some y ∧ w.cell? ⟨b, 2, none⟩ = some z ∧ w.cell? ⟨b, 3, none⟩ = some u ∧ w.frozen? ⟨b, 0, none⟩ = false ∧ w.frozen? ⟨b, 1, none⟩ = false ∧ w.frozen? ⟨b, 2, none⟩ = false ∧ w.frozen? ⟨b, 3, none⟩ = false ∧ b < w.heap.size :=
  ⟨by simp [World.cell?, hb], by simp [World.cell?, hb], by simp [World.cell?, hb], by simp [World.cell?, hb], by simp [World.frozen?, hb], by simp [World.frozen?, hb], by simp [World.frozen?, hb], by simp [World.frozen?, hb], lt_of_block hb⟩
theorem five_cells {w : World} {b : Nat} {x y z u v : Value} {T : TypeId} (hb : w.heap[b]? = some (.cells #[x, y, z, u, v] T (0, 0))) :
    w.cell? ⟨b, 0, none⟩ = some x ∧ w.cell? ⟨b, 1, none⟩ = some y ∧ w.cell? ⟨b, 2, none⟩ = some z ∧ w.cell? ⟨b, 3, none⟩ = some u ∧ w.cell? ⟨b, 4, none⟩ = some v ∧ b < w.heap.size :=
  ⟨by simp [World.cell?, hb], by simp [World.cell?, hb], by simp [World.cell?, hb], by simp [World.cell?, hb], by simp [World.cell?, hb], lt_of_block hb⟩
theorem gD_set_ne {α : Type} (l : List α) (i j : Nat) (v e : α) (h : i ≠ j) : (l.set i v).getD j e = l.getD j e := by
  rw [List.getD_eq_getElem?_getD, List.getD_eq_getElem?_getD, List.getElem?_set_ne h]
theorem gD_set_eq {α : Type} (l : List α) (j : Nat) (v e : α) (h : j < l.length) : (l.set j v).getD j e = v := by
  rw [List.getD_eq_getElem?_getD, List.getElem?_set_self h]; rfl
end Go.Proofs.Ytnhmcmohnpbcjaa
