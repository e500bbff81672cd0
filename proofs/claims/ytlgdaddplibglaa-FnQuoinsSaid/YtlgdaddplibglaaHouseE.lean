/- Contracts: a plan of a house that is drawn, and bent seldom. -/
import Derived.Test.YtlgdaddplibglaaHouseD
import Derived.Test.YtlgdaddplibglaaRecs
import Derived.Test.YtlgdaddplibglaaRowCat
import Derived.Deep.RegionHeld3
import Derived.Deep.DeepCutAuto
namespace Go.Proofs.Ytlgdaddplibglaa
open Go.RowKit
set_option linter.unusedSimpArgs false
set_option linter.unusedVariables false
set_option linter.unnecessarySimpa false

theorem ints_ne {E : TypeId} {w : World} {base : Nat} {v : Value} {xs : List Int} (h : OwnInts E w base v xs) {b : Nat} {cs : Array Value} {T : TypeId} {m : Nat × Nat} (hb : w.heap[b]? = some (.cells cs T m)) (hT : T ≠ E) : ∀ j, v.ownBlock = some j → b ≠ j := by
  intro j hj e
  subst e
  rcases h.1.2 with ⟨rfl, _⟩ | ⟨g, cap, cur, rfl, _, hh, _⟩
  · simp [Value.ownBlock] at hj
  · have e : g = b := by simpa [Value.ownBlock] using hj
    subst e
    rw [hh] at hb
    simp only [Option.some.injEq, Obj.cells.injEq] at hb
    exact hT hb.2.1.symm
/-- what stands in memory while a plan is bent -/
structure BH (w : World) (g : Nat) (ao : Option Addr) (n c b3 : Nat) (v : Value) (t : ByteArray) (xs : List Int) (W0 : World) (B : Nat) (st : Src) (W : World) : Prop where
  res : W.heap[w.heap.size]? = some (.cells #[.slice none 0 0, .string ⟨#[]⟩] 26 (0, 0))
  box : W.heap[b3]? = some (.cells #[v, .string t] 26 (0, 0))
  own : OwnInts 2 W w.heap.size v xs
  src : SrcAt W g ao n c st
  gr : w.grownBy W (some g)
  lt : w.heap.size < b3
  gs : g < w.heap.size
  ok : st.Ok B
  ex : Ext W0 W
  w0 : W0.heap.size ≤ g
theorem BH.draw {w : World} {g : Nat} {ao : Option Addr} {n c b3 : Nat} {v : Value} {t : ByteArray} {xs : List Int} {W0 : World} {B B' : Nat} {st st' : Src} {W W' : World} (h : BH w g ao n c b3 v t xs W0 B st W) (hs : SrcAt W' g ao n c st') (hg : W.grownBy W' (some g)) (ok : st'.Ok B') : BH w g ao n c b3 v t xs W0 B' st' W' :=
  have h1 := h.gs
  have h2 := h.lt
  ⟨blkQ_grown h.res hg (fun e => by simp at e; omega), blkQ_grown h.box hg (fun e => by simp at e; omega), h.own.kept hg (fun k hk => by cases hk; exact h.gs), hs, h.gr.trans hg, h.lt, h.gs, ok, extQ_of_src hg h.ex h.w0, h.w0⟩
theorem BH.ext {w : World} {g : Nat} {ao : Option Addr} {n c b3 : Nat} {v : Value} {t : ByteArray} {xs : List Int} {W0 : World} {B : Nat} {st : Src} {W W' : World} (h : BH w g ao n c b3 v t xs W0 B st W) (e : Ext W W') : BH w g ao n c b3 v t xs W0 B st W' :=
  ⟨e.block h.res, e.block h.box, h.own.ext e, e.block h.src, grownQ_ext h.gr e, h.lt, h.gs, h.ok, h.ex.trans e, h.w0⟩
theorem BH.two {w : World} {g : Nat} {ao : Option Addr} {n c b3 : Nat} {v : Value} {t : ByteArray} {xs : List Int} {W0 : World} {B : Nat} {st : Src} {W : World} (h : BH w g ao n c b3 v t xs W0 B st W) : Two W b3 v (.string t) := Two.of h.box
/-- both cells of the plan are written anew -/
theorem BH.put {w : World} {g : Nat} {ao : Option Addr} {n c b3 : Nat} {v : Value} {t : ByteArray} {xs : List Int} {W0 : World} {B : Nat} {st : Src} {W : World} (h : BH w g ao n c b3 v t xs W0 B st W) {v' : Value} {xs' : List Int} (o : OwnInts 2 W w.heap.size v' xs') (t' : ByteArray) (u u' : Value) (hu : (u = v' ∧ u' = .string t')) :
    BH w g ao n c b3 v' t' xs' W0 B st ((W.setCell ⟨b3, 0, none⟩ u).setCell ⟨b3, 1, none⟩ u') := by
  obtain ⟨rfl, rfl⟩ := hu
  have h1 := h.gs
  have h2 := h.lt
  have h3 := h.w0
  have hne := ints_ne o h.box (by decide)
  refine ⟨heapQ_setO _ _ _ (heapQ_setO _ _ _ h.res (by omega)) (by omega), ?_, ⟨ownsRow_setCell_other (ownsRow_setCell_other o.1 hne _) hne _, o.2⟩, heapQ_setO _ _ _ (heapQ_setO _ _ _ h.src (by omega)) (by omega), ?_, h.lt, h.gs, h.ok, ?_, h.w0⟩
  · exact heap_setS _ _ 1 _ (heap_setS _ _ 0 _ h.box)
  · exact grownQ_above (grownQ_above h.gr (by dsimp only; omega) _) (by dsimp only; omega) _
  · exact (h.ex.setCell (by dsimp only; omega) _).setCell (by dsimp only; omega) _
theorem BH.putT {w : World} {g : Nat} {ao : Option Addr} {n c b3 : Nat} {v : Value} {t : ByteArray} {xs : List Int} {W0 : World} {B : Nat} {st : Src} {W : World} (h : BH w g ao n c b3 v t xs W0 B st W) (t' : ByteArray) : BH w g ao n c b3 v t' xs W0 B st (W.setCell ⟨b3, 1, none⟩ (.string t')) := by
  have h1 := h.gs
  have h2 := h.lt
  have h3 := h.w0
  have hne := ints_ne h.own h.box (by decide)
  refine ⟨heapQ_setO _ _ _ h.res (by omega), heap_setS _ _ 1 _ h.box, ⟨ownsRow_setCell_other h.own.1 hne _, h.own.2⟩, heapQ_setO _ _ _ h.src (by omega), ?_, h.lt, h.gs, h.ok, ?_, h.w0⟩
  · exact grownQ_above h.gr (by dsimp only; omega) _
  · exact h.ex.setCell (by dsimp only; omega) _
theorem BH.putV {w : World} {g : Nat} {ao : Option Addr} {n c b3 : Nat} {v : Value} {t : ByteArray} {xs : List Int} {W0 : World} {B : Nat} {st : Src} {W : World} (h : BH w g ao n c b3 v t xs W0 B st W) {v' : Value} {xs' : List Int} (o : OwnInts 2 W w.heap.size v' xs') : BH w g ao n c b3 v' t xs' W0 B st (W.setCell ⟨b3, 0, none⟩ v') := by
  have h1 := h.gs
  have h2 := h.lt
  have h3 := h.w0
  have hne := ints_ne o h.box (by decide)
  refine ⟨heapQ_setO _ _ _ h.res (by omega), heap_setS _ _ 0 _ h.box, ⟨ownsRow_setCell_other o.1 hne _, o.2⟩, heapQ_setO _ _ _ h.src (by omega), ?_, h.lt, h.gs, h.ok, ?_, h.w0⟩
  · exact grownQ_above h.gr (by dsimp only; omega) _
  · exact h.ex.setCell (by dsimp only; omega) _
/-- a side is written anew -/
theorem BH.putX {w : World} {g : Nat} {ao : Option Addr} {n c b3 hb m cap : Nat} {t : ByteArray} {xs : List Int} {W0 : World} {B : Nat} {st : Src} {W : World} (h : BH w g ao n c b3 (.slice (some ⟨hb, 0, none⟩) m cap) t xs W0 B st W) (j : Nat) (z : Int) (hz : IsI64 z) : BH w g ao n c b3 (.slice (some ⟨hb, 0, none⟩) m cap) t (xs.set j z) W0 B st (W.setCell ⟨hb, j, none⟩ (.int .i64 z)) := by
  have h1 := h.gs
  have h2 := h.lt
  have h3 := h.w0
  have hb1 := h.own.blk hb rfl
  have n1 := ints_ne h.own h.box (by decide) hb rfl
  have n2 := ints_ne h.own h.res (by decide) hb rfl
  have hl : xs.length = m := h.own.ints.1
  subst hl
  have hst := (h.own.1.stored j (.int .i64 z)).1
  refine ⟨heapQ_setO _ _ _ h.res n2, heapQ_setO _ _ _ h.box n1, ⟨?_, fun x hx => ?_⟩, heapQ_setO _ _ _ h.src (by omega), ?_, h.lt, h.gs, h.ok, ?_, h.w0⟩
  · rw [List.length_set, List.map_set]; exact hst
  · rcases List.mem_or_eq_of_mem_set hx with h4 | h4
    · exact h.own.2 x h4
    · rw [h4]; exact hz
  · exact grownQ_above h.gr (by dsimp only; omega) _
  · exact h.ex.setCell (by dsimp only; omega) _
theorem BH.row {w : World} {g : Nat} {ao : Option Addr} {n c b3 hb m cap : Nat} {t : ByteArray} {xs : List Int} {W0 : World} {B : Nat} {st : Src} {W : World} (h : BH w g ao n c b3 (.slice (some ⟨hb, 0, none⟩) m cap) t xs W0 B st W) : ∀ j : Nat, j < m → W.cell? ⟨hb, j, none⟩ = some (.int .i64 (xs.getD j 0)) ∧ W.frozen? ⟨hb, j, none⟩ = false := by
  intro j hj
  obtain ⟨b, off, he, hc⟩ := h.own.ints.2.2.1 j hj
  simp only [Option.some.injEq, Addr.mk.injEq, and_true] at he
  obtain ⟨rfl, rfl⟩ := he
  rw [Nat.zero_add] at hc
  have hl : xs.length = m := h.own.ints.1
  subst hl
  exact ⟨hc, h.own.1.frozenAt _⟩
/-- the plan is handed back -/
theorem BH.fin {w : World} {g : Nat} {ao : Option Addr} {n c b3 hb m cap : Nat} {t : ByteArray} {xs : List Int} {W0 : World} {B : Nat} {st : Src} {W : World} (h : BH w g ao n c b3 (.slice (some ⟨hb, 0, none⟩) m cap) t xs W0 B st W) {lo hx tl tu : Nat} (l0 : m ≤ cap) (l1 : lo ≤ m) (l2 : m ≤ hx) (ht1 : tl ≤ t.size) (ht : t.size ≤ tu) (u u' : Value) {B' : Nat} (hB : B ≤ B') :
    RetHD g ao n c lo hx tl tu B' w (.returned (.agg #[.slice (some ⟨hb, 0, none⟩) m cap, .string t])) ((W.setCell ⟨w.heap.size, 0, none⟩ u).setCell ⟨w.heap.size, 1, none⟩ u') := by
  have h1 := h.gs
  have hl : xs.length = m := h.own.ints.1
  subst hl
  have hne := ints_ne h.own h.res (by decide)
  refine ⟨hb, cap, xs, t, st, rfl, l1, l2, l0, ht1, ht, ⟨ownsRow_setCell_other (ownsRow_setCell_other h.own.1 hne _) hne _, h.own.2⟩, h.ok.mono hB, heapQ_setO _ _ _ (heapQ_setO _ _ _ h.src (by omega)) (by omega), ?_⟩
  exact grownQ_above (grownQ_above h.gr (Nat.le_refl _) _) (Nat.le_refl _) _
theorem BH.res2 {w : World} {g : Nat} {ao : Option Addr} {n c b3 : Nat} {v : Value} {t : ByteArray} {xs : List Int} {W0 : World} {B : Nat} {st : Src} {W : World} (h : BH w g ao n c b3 v t xs W0 B st W) : W.cell? ⟨w.heap.size, 0, none⟩ = some (.slice none 0 0) ∧ W.cell? ⟨w.heap.size, 1, none⟩ = some (.string ⟨#[]⟩) ∧ W.cell? ⟨b3, 0, none⟩ = some v ∧ W.cell? ⟨b3, 1, none⟩ = some (.string t) ∧ W.frozen? ⟨w.heap.size, 0, none⟩ = false ∧ W.frozen? ⟨w.heap.size, 1, none⟩ = false ∧ W.frozen? ⟨b3, 0, none⟩ = false ∧ W.frozen? ⟨b3, 1, none⟩ = false := by
  obtain ⟨a1, a2, a3, a4, _⟩ := two_cells h.res
  obtain ⟨c1, c2, c3, c4, _⟩ := two_cells h.box
  exact ⟨a1, a2, c1, c2, a3, a4, c3, c4⟩
theorem BH.putNew {w : World} {g : Nat} {ao : Option Addr} {n c b3 : Nat} {v : Value} {t : ByteArray} {xs : List Int} {W0 : World} {B : Nat} {st : Src} {W : World} (h : BH w g ao n c b3 v t xs W0 B st W) (ys : List Int) (cs : Array Value) (hcs : cs = (ys.map (Value.int .i64)).toArray) (hi : ∀ x ∈ ys, IsI64 x) (k : Nat) (hk : ys.length = k) (hk2 : k ≤ 100) :
    BH w g ao n c b3 (.slice (some ⟨W.heap.size, 0, none⟩) k k) t ys W0 B st ((W.setCell ⟨b3, 0, none⟩ (.slice (some ⟨W.heap.size, 0, none⟩) k k)).alloc (.cells cs 2)) := by
  subst hk
  have hbl := lt_of_block h.box
  have hgl := lt_of_block h.res
  have o := OwnInts.lit (E := 2) (w := W) (base := w.heap.size) ys cs hcs (Nat.le_of_lt hgl) (by omega) hi
  have h2 := (h.ext ((Ext.refl _).alloc (.cells cs 2))).putV o
  rw [World.setCell_alloc_past _ _ _ _ hbl] at h2
  exact h2
theorem BH.finA {w : World} {g : Nat} {ao : Option Addr} {n c b3 hb m cap : Nat} {t : ByteArray} {xs : List Int} {W0 : World} {B : Nat} {st : Src} {W : World} {o : Obj} (h : BH w g ao n c b3 (.slice (some ⟨hb, 0, none⟩) m cap) t xs W0 B st (W.alloc o)) (hl : w.heap.size < W.heap.size) {lo hx tl tu : Nat} (l0 : m ≤ cap) (l1 : lo ≤ m) (l2 : m ≤ hx) (ht1 : tl ≤ t.size) (ht : t.size ≤ tu) (u u' : Value) {B' : Nat} (hB : B ≤ B') :
    RetHD g ao n c lo hx tl tu B' w (.returned (.agg #[.slice (some ⟨hb, 0, none⟩) m cap, .string t])) (((W.setCell ⟨w.heap.size, 0, none⟩ u).setCell ⟨w.heap.size, 1, none⟩ u').alloc o) := by
  have h2 := h.fin l0 l1 l2 ht1 ht u u' hB
  rw [World.setCell_alloc_past _ _ _ _ hl, World.setCell_alloc_past _ _ _ _ (by simp [World.setCell]; exact hl)] at h2
  exact h2
/-- numbers are appended to the sides -/
theorem wpList_append_intsG {w0 w : World} {ops : Array Oper} {rest : List Oper} {o : Oper} {a : Act} {Q : Exit → Act → World → Prop} (hgd : o.guard = none) (s x : Operand)
    (ho : o.op = .call { callee := .builtin .append, args := #[s, x], argTypes := #[22, 22] })
    (v : Value) (xs ys : List Int) (cs : Array Value) (hcs : cs = (ys.map (Value.int .i64)).toArray) (hi : ∀ x ∈ ys, IsI64 x) (k : Nat) (hk : ys.length = k) (hk2 : k ≤ 100) (base : Nat) (hs : a.eval s = v) (hw : w = w0.alloc (.cells cs 2)) (hx : a.eval x = .slice (some ⟨w0.heap.size, 0, none⟩) k k)
    (hown : OwnInts 2 w0 base v xs) (hb : base ≤ w0.heap.size) (hlen : xs.length ≤ 1000000)
    (h : ∀ v' w', OwnInts 2 w' base v' (xs ++ ys) → w0.grownBy w' v.ownBlock → wpList Try.prog ops Q rest (a.put o.dst v') w') : wpList Try.prog ops Q (o :: rest) a w := by
  obtain ⟨i0, h0, hz0, hz1, hz2⟩ := info_parts info_i64
  subst hw hk
  have hY := (OwnInts.lit (E := 2) (w := w0) (base := w0.heap.size) ys cs hcs (Nat.le_refl _) (by omega) hi).ints
  refine wpList_append_own _ hgd s x 22 ho base 2 i0 (.int .i64 0) 1 8 Try.underlying22 h0 hz0 hz1 hz2 rfl (by decide) v xs.length (xs.map (Value.int .i64)) hs (hown.1.alloc _)
    ⟨w0.heap.size, 0, none⟩ ys.length ys.length (ys.map (Value.int .i64)) hx (by simp) (ints_news hY) ints_one (by unfold maxLen; omega) (by omega) (by simp; omega) ?_
  intro v' w' ho' hg _
  exact h v' w' (cat_own ho' rfl rfl hown.2 hi) ((World.grownBy_alloc w0 _ _).trans hg)
/-- behind an append to the sides -/
theorem BH.app {w : World} {g : Nat} {ao : Option Addr} {n c b3 : Nat} {v : Value} {t : ByteArray} {xs : List Int} {W0 : World} {B : Nat} {st : Src} {W W' : World} (h : BH w g ao n c b3 v t xs W0 B st W) (hg : W.grownBy W' v.ownBlock) {v' : Value} {ys : List Int} (o : OwnInts 2 W' w.heap.size v' ys) :
    BH w g ao n c b3 v' t ys W0 B st (W'.setCell ⟨b3, 0, none⟩ v') ∧ W'.heap[w.heap.size]? = some (.cells #[.slice none 0 0, .string ⟨#[]⟩] 26 (0, 0)) ∧ W'.heap[b3]? = some (.cells #[v, .string t] 26 (0, 0)) := by
  have h1 := h.gs
  have h2 := h.lt
  have h3 := h.w0
  have n1 := ints_ne h.own h.box (by decide)
  have n2 := ints_ne h.own h.res (by decide)
  have n3 := fun j hj => (h.own.1.lt j hj).1
  have hres := blkQ_grown h.res hg (fun e => n2 _ e.symm rfl)
  have hbox := blkQ_grown h.box hg (fun e => n1 _ e.symm rfl)
  have hne := ints_ne o hbox (by decide)
  refine ⟨⟨heapQ_setO _ _ _ hres (by omega), heap_setS _ _ 0 _ hbox, ⟨ownsRow_setCell_other o.1 hne _, o.2⟩, heapQ_setO _ _ _ (blkQ_grown h.src hg (fun e => by have := n3 g e.symm; omega)) (by omega), ?_, h.lt, h.gs, h.ok, ?_, h.w0⟩, hres, hbox⟩
  · exact grownQ_above (grownQ_then h.gr hg (fun j hj => n3 j hj)) (by dsimp only; omega) _
  · exact (h.ex.grown hg (fun j hj => by have := n3 j hj; omega)).setCell (by dsimp only; omega) _
theorem strs_lit {w : World} (ss : List ByteArray) (cs : Array Value) (hcs : cs = (ss.map Value.string).toArray) (hl : ss.length ≤ 1000) (hi : ∀ s ∈ ss, s.size ≤ 9223372036854775807) : Strs (w.alloc (.cells cs 9)) (some ⟨w.heap.size, 0, none⟩) ss.length ss := by
  subst hcs
  refine ⟨rfl, by omega, fun i h => ⟨w.heap.size, 0, rfl, ?_⟩, hi⟩
  have hb := heap_alloc_new w (.cells (ss.map Value.string).toArray 9)
  simp only [World.cell?, hb]
  simp [h, List.getD_eq_getElem?_getD]
theorem pickBH {w : World} {g : Nat} {ao : Option Addr} {n c b3 : Nat} {bs : List UInt8} {v : Value} {t : ByteArray} {xs : List Int} {W0 : World} (hbW : U8s W0 ao n bs) (N : Int) (h1 : 1 ≤ N) (h2 : N ≤ 200) {B : Nat} {st : Src} {W : World} (h : BH w g ao n c b3 v t xs W0 B st W) (hB : B ≤ 2900000000000000000) :
    Calls Try.prog 50 #[.pointer (some ⟨g, 0, none⟩), .int .i64 N] W (fun e w' => ∃ q st', e = .returned (.int .i64 q) ∧ 0 ≤ q ∧ q < N ∧ BH w g ao n c b3 v t xs W0 (B + 2) st' w' ∧ W.grownBy w' (some g)) := by
  refine (s_pickQ N h1 h2 hbW h.w0 B hB st h.ok W h.src h.ex).mono ?_
  rintro e w' ⟨q, st', rfl, a, b, ok, s1, g1⟩
  exact ⟨q, st', rfl, a, b, h.draw s1 g1 ok, g1⟩
theorem oneBH {w : World} {g : Nat} {ao : Option Addr} {n c b3 : Nat} {bs : List UInt8} {v : Value} {t : ByteArray} {xs : List Int} {W0 : World} (hbW : U8s W0 ao n bs) (N : Int) (h1 : 1 ≤ N) (h2 : N ≤ 200) {B : Nat} {st : Src} {W : World} (h : BH w g ao n c b3 v t xs W0 B st W) (hB : B ≤ 2900000000000000000) :
    Calls Try.prog 51 #[.pointer (some ⟨g, 0, none⟩), .int .i64 N] W (fun e w' => ∃ b st', e = .returned (.bool b) ∧ BH w g ao n c b3 v t xs W0 (B + 2) st' w') := by
  refine (s_oneQ N h1 h2 hbW h.w0 B hB st h.ok W h.src h.ex).mono ?_
  rintro e w' ⟨b, st', rfl, ok, s1, g1⟩
  exact ⟨b, st', rfl, h.draw s1 g1 ok⟩
theorem lit_ints {W : World} (ys : List Int) (cs : Array Value) (hcs : cs = (ys.map (Value.int .i64)).toArray) (hi : ∀ x ∈ ys, IsI64 x) (m : Nat) (hm : ys.length = m) (hm2 : m ≤ 200) (k : Nat) (hk : k = W.heap.size) : Ints (W.alloc (.cells cs 2)) (some ⟨k, 0, none⟩) m ys := by
  subst hk hm
  exact (OwnInts.lit (E := 2) (w := W) (base := W.heap.size) ys cs hcs (Nat.le_refl _) (by omega) hi).ints
theorem Ints.grown {W w' : World} {g k m : Nat} {ys : List Int} (h : Ints W (some ⟨k, 0, none⟩) m ys) (hg : W.grownBy w' (some g)) (hk : k ≠ g) : Ints w' (some ⟨k, 0, none⟩) m ys := by
  refine ⟨h.1, h.2.1, fun i hi => ?_, h.2.2.2⟩
  obtain ⟨b, off, he, hc⟩ := h.2.2.1 i hi
  simp only [Option.some.injEq, Addr.mk.injEq, and_true] at he
  obtain ⟨rfl, rfl⟩ := he
  exact ⟨k, 0, rfl, cell_grown hc hg (fun e => hk (by simpa using e))⟩
theorem amongBH {w : World} {g : Nat} {ao : Option Addr} {n c b3 : Nat} {bs : List UInt8} {v : Value} {t : ByteArray} {xs : List Int} {W0 : World} (hbW : U8s W0 ao n bs) (ys : List Int) (m : Nat) (hm1 : 1 ≤ m) (hm2 : m ≤ 200) (k : Nat) {B : Nat} {st : Src} {W : World} (h : BH w g ao n c b3 v t xs W0 B st W) (hI : Ints W (some ⟨k, 0, none⟩) m ys) (hk : k ≠ g) (hB : B ≤ 2900000000000000000) :
    Calls Try.prog 52 #[.pointer (some ⟨g, 0, none⟩), .slice (some ⟨k, 0, none⟩) m m] W (fun e w' => ∃ x st', e = .returned (.int .i64 x) ∧ x ∈ ys ∧ BH w g ao n c b3 v t xs W0 (B + 2) st' w') := by
  refine (s_amongQ hbW h.w0 B hB st h.ok _ h.src h.ex k m m ys hI hk hm1 hm2).mono ?_
  rintro e w' ⟨x, st', rfl, hx, ok, s1, g1⟩
  exact ⟨x, st', rfl, hx, h.draw s1 g1 ok⟩
theorem textBH {w : World} {g : Nat} {ao : Option Addr} {n c b3 : Nat} {bs : List UInt8} {v : Value} {t : ByteArray} {xs : List Int} {W0 : World} (hbW : U8s W0 ao n bs) (ss : List ByteArray) (cs : Array Value) (hcs : cs = (ss.map Value.string).toArray) (hi : ∀ x ∈ ss, x.size ≤ 4) (m : Nat) (hm : ss.length = m) (hm1 : 1 ≤ m) (hm2 : m ≤ 200) {B : Nat} {st : Src} {W : World} (h : BH w g ao n c b3 v t xs W0 B st W) (hB : B ≤ 2900000000000000000) (k : Nat) (hk : k = W.heap.size) :
    Calls Try.prog 58 #[.pointer (some ⟨g, 0, none⟩), .slice (some ⟨k, 0, none⟩) m m] (W.alloc (.cells cs 9)) (fun e w' => ∃ x st', e = .returned (.string x) ∧ x.size ≤ 4 ∧ BH w g ao n c b3 v t xs W0 (B + 2) st' w') := by
  subst hk hm
  have hW := h.ext ((Ext.refl W).alloc (.cells cs 9))
  have hg1 := h.gs
  have hg2 := lt_of_block h.res
  have hI := strs_lit (w := W) ss cs hcs (by omega) (fun s hs => by have := hi s hs; omega)
  have hbd := pickV_bd bs st ss.length
  refine (s_text g ao n c bs st (some ⟨W.heap.size, 0, none⟩) ss.length ss.length ss _ hW.src W0 hW.ex hbW h.w0 (h.ok.mono (by omega)) hI (fun a ha => by cases ha; dsimp only; omega) hm1 hm2).mono ?_
  rintro e w' ⟨rfl, s1, g1⟩
  refine ⟨_, _, rfl, ?_, hW.draw s1 g1 (pickS_ok h.ok)⟩
  obtain ⟨b1, b2⟩ := hbd
  have b3 := b2 (by omega)
  refine hi _ ?_
  rw [List.getD_eq_getElem?_getD, List.getElem?_eq_getElem (by omega)]
  exact List.getElem_mem _
end Go.Proofs.Ytlgdaddplibglaa
