/- The reference's search for the best pair of courses: what it keeps in memory. -/
import Derived.Test.YtciamgnfbhijlaaPairS0
import Derived.Test.YtciamgnfbhijlaaBestI0
import Derived.Deep.RegionHeld3
import Derived.Deep.DeepCutAuto
import Derived.IntWalk
namespace Go.Proofs.Ytciamgnfbhijlaa
open Go.RowKit
set_option linter.unusedSimpArgs false
set_option linter.unusedVariables false
set_option linter.unnecessarySimpa false

def cellsP (o : Option PR) : List Value := [.int .i64 (cutO o), .int .i64 (numO o), .string (lowO o), .string (highO o)]
theorem cellsP_len (o : Option PR) : (cellsP o).length = 4 := rfl
theorem cellsP_end : cellsP (some ([], [])) = [.int .i64 0, .int .i64 0, .string ⟨#[]⟩, .string ⟨#[]⟩] := rfl
theorem cellsP_none : cellsP none = [.int .i64 (-1), .int .i64 0, .string ⟨#[]⟩, .string ⟨#[]⟩] := rfl
/-- places in a table -/
theorem at_inj {L a b a' b' : Int} (hL : 0 ≤ L) (hb : 0 ≤ b ∧ b ≤ L) (hb' : 0 ≤ b' ∧ b' ≤ L) (h : a * (L + 1) + b = a' * (L + 1) + b') : a = a' ∧ b = b' := by
  have h1 : ∀ x y u v : Int, 0 ≤ u → u ≤ L → 0 ≤ v → v ≤ L → x * (L + 1) + u = y * (L + 1) + v → ¬ x < y := fun x y u v u0 u1 v0 v1 e hlt => by
    have := Int.mul_le_mul_of_nonneg_right (show x + 1 ≤ y by omega) (show 0 ≤ L + 1 by omega)
    rw [Int.add_mul] at this
    omega
  have e : a = a' := by
    have := h1 a a' b b' hb.1 hb.2 hb'.1 hb'.2 h
    have := h1 a' a b' b hb'.1 hb'.2 hb.1 hb.2 h.symm
    omega
  subst e
  exact ⟨rfl, by omega⟩
theorem at_bd {L a b : Int} (hL : 0 ≤ L) (hL2 : L ≤ 80) (ha : 0 ≤ a ∧ a ≤ L) (hb : 0 ≤ b ∧ b ≤ L) : 0 ≤ a * (L + 1) ∧ a * (L + 1) ≤ 10000 ∧ a * (L + 1) + b < (L + 1) * (L + 1) ∧ (L + 1) * (L + 1) ≤ 10000 := by
  have h1 := Int.mul_le_mul_of_nonneg_right ha.2 (show 0 ≤ L + 1 by omega)
  have h2 := Int.mul_nonneg ha.1 (show 0 ≤ L + 1 by omega)
  have h3 : (L + 1) * (L + 1) ≤ 81 * 81 := Int.mul_le_mul (by omega) (by omega) (by omega) (by omega)
  have h4 : (L + 1) * (L + 1) = L * (L + 1) + 1 * (L + 1) := Int.add_mul ..
  omega
/-- what the search keeps -/
structure SS (L lap : Int) (N : Nat) (g gt gd : Nat) (W : World) : Prop where
  box : SBox g L lap (.slice (some ⟨gt, 0, none⟩) N N) (.slice (some ⟨gd, 0, none⟩) N N) W
  rows : ∃ rs ds, OwnRecs 48 4 W 0 (.slice (some ⟨gt, 0, none⟩) N N) rs ∧ OwnRecs 4 1 W 0 (.slice (some ⟨gd, 0, none⟩) N N) ds ∧
    ∀ (a b : Int) (i : Nat), 0 ≤ a → a ≤ L → 0 ≤ b → b ≤ L → (i : Int) = a * (L + 1) + b → ds.getD i [] = [.bool false] ∨ (ds.getD i [] = [.bool true] ∧ ∃ o, IsBest (SetR L lap a b) o ∧ rs.getD i [] = cellsP o)
  ne1 : g ≠ gt
  ne2 : g ≠ gd
  ne3 : gt ≠ gd
  lt1 : gt < W.heap.size
  lt2 : gd < W.heap.size
def TG (gt gd : Nat) : Nat → Prop := fun i => i = gt ∨ i = gd
theorem SS.ext {L lap : Int} {N g gt gd : Nat} {W W' : World} (h : SS L lap N g gt gd W) (e : Ext W W') : SS L lap N g gt gd W' := by
  obtain ⟨h1, ⟨rs, ds, h2, h3, h4⟩, n1, n2, n3, l1, l2⟩ := h
  exact ⟨e.block h1, ⟨rs, ds, h2.ext e, h3.ext e, h4⟩, n1, n2, n3, Nat.lt_of_lt_of_le l1 e.size, Nat.lt_of_lt_of_le l2 e.size⟩
/-- a write to another block -/
theorem SS.setOther {L lap : Int} {N g gt gd : Nat} {W : World} (h : SS L lap N g gt gd W) {b : Nat} (i : Nat) (v : Value) (n : b ≠ g ∧ b ≠ gt ∧ b ≠ gd) : SS L lap N g gt gd (W.setCell ⟨b, i, none⟩ v) := by
  obtain ⟨h1, ⟨rs, ds, h2, h3, h4⟩, n1, n2, n3, l1, l2⟩ := h
  refine ⟨heap_setN _ _ _ h1 (fun e => n.1 e.symm), ⟨rs, ds, ⟨ownsRow_setCell_other h2.1 (fun k hk => ?_) v, h2.2⟩, ⟨ownsRow_setCell_other h3.1 (fun k hk => ?_) v, h3.2⟩, h4⟩, n1, n2, n3, by simp [World.setCell]; exact l1, by simp [World.setCell]; exact l2⟩
  · have : gt = k := by simpa [Value.ownBlock] using hk
    subst this; exact n.2.1
  · have : gd = k := by simpa [Value.ownBlock] using hk
    subst this; exact n.2.2
/-- what is known of a place -/
theorem SS.look {L lap : Int} {N g gt gd : Nat} {W : World} (h : SS L lap N g gt gd W) {a b : Int} {i : Nat} (a0 : 0 ≤ a) (a1 : a ≤ L) (b0 : 0 ≤ b) (b1 : b ≤ L) (hi : (i : Int) = a * (L + 1) + b) (hN : i < N) :
    (W.cell? ⟨gd, i, none⟩ = some (.bool false) ∧ W.frozen? ⟨gd, i, none⟩ = false) ∨ (W.cell? ⟨gd, i, none⟩ = some (.bool true) ∧ ∃ o, IsBest (SetR L lap a b) o ∧ W.cell? ⟨gt, i * 4, none⟩ = some (.int .i64 (cutO o)) ∧ W.cell? ⟨gt, i * 4 + 1, none⟩ = some (.int .i64 (numO o)) ∧ W.cell? ⟨gt, i * 4 + 2, none⟩ = some (.string (lowO o)) ∧ W.cell? ⟨gt, i * 4 + 3, none⟩ = some (.string (highO o))) := by
  obtain ⟨h1, ⟨rs, ds, h2, h3, h4⟩, n1, n2, n3, l1, l2⟩ := h
  rcases h4 a b i a0 a1 b0 b1 hi with h5 | ⟨h5, o, h6, h7⟩
  · have := h3.reads i 0 hN (by omega) (.bool false) (by rw [h5]; rfl)
    rw [Nat.mul_one, Nat.add_zero] at this
    exact .inl this
  · have := h3.reads i 0 hN (by omega) (.bool true) (by rw [h5]; rfl)
    rw [Nat.mul_one, Nat.add_zero] at this
    refine .inr ⟨this.1, o, h6, ?_, ?_, ?_, ?_⟩
    · exact (h2.reads i 0 hN (by omega) _ (by rw [h7]; rfl)).1
    · exact (h2.reads i 1 hN (by omega) _ (by rw [h7]; rfl)).1
    · exact (h2.reads i 2 hN (by omega) _ (by rw [h7]; rfl)).1
    · exact (h2.reads i 3 hN (by omega) _ (by rw [h7]; rfl)).1
theorem SS.frz {L lap : Int} {N g gt gd : Nat} {W : World} (h : SS L lap N g gt gd W) {i : Nat} (hN : i < N) : (∃ v, W.cell? ⟨gd, i, none⟩ = some v) ∧ W.frozen? ⟨gd, i, none⟩ = false ∧ (∃ v0 v1 v2 v3, W.cell? ⟨gt, i * 4, none⟩ = some v0 ∧ W.cell? ⟨gt, i * 4 + 1, none⟩ = some v1 ∧ W.cell? ⟨gt, i * 4 + 2, none⟩ = some v2 ∧ W.cell? ⟨gt, i * 4 + 3, none⟩ = some v3) ∧ W.frozen? ⟨gt, i * 4, none⟩ = false ∧ W.frozen? ⟨gt, i * 4 + 1, none⟩ = false ∧ W.frozen? ⟨gt, i * 4 + 2, none⟩ = false ∧ W.frozen? ⟨gt, i * 4 + 3, none⟩ = false := by
  obtain ⟨h1, ⟨rs, ds, h2, h3, h4⟩, n1, n2, n3, l1, l2⟩ := h
  obtain rfl := h2.len
  have hd := h3.len
  have e1 := (flat_split rs h2.2 i hN).2.2
  have e2 := (flat_split ds h3.2 i (by omega)).2.2
  obtain ⟨v0, v1, v2, v3, hr⟩ : ∃ v0 v1 v2 v3, rs.getD i [] = [v0, v1, v2, v3] := by
    match rs.getD i [], e1 with
    | [v0, v1, v2, v3], _ => exact ⟨v0, v1, v2, v3, rfl⟩
  obtain ⟨u, hu⟩ : ∃ u, ds.getD i [] = [u] := by
    match ds.getD i [], e2 with
    | [u], _ => exact ⟨u, rfl⟩
  have k := h3.reads i 0 hN (by omega) u (by rw [hu]; rfl)
  rw [Nat.mul_one, Nat.add_zero] at k
  have k0 := h2.reads i 0 hN (by omega) v0 (by rw [hr]; rfl)
  have k1 := h2.reads i 1 hN (by omega) v1 (by rw [hr]; rfl)
  have k2 := h2.reads i 2 hN (by omega) v2 (by rw [hr]; rfl)
  have k3 := h2.reads i 3 hN (by omega) v3 (by rw [hr]; rfl)
  exact ⟨⟨u, k.1⟩, k.2, ⟨v0, v1, v2, v3, k0.1, k1.1, k2.1, k3.1⟩, k0.2, k1.2, k2.2, k3.2⟩
theorem four_list {l : List Value} (h : l.length = 4) (a b c d : Value) : (((l.set 0 a).set 1 b).set 2 c).set 3 d = [a, b, c, d] := by
  match l, h with
  | [x, y, z, u], _ => rfl
theorem one_listP {l : List Value} (h : l.length = 1) (a : Value) : l.set 0 a = [a] := by
  match l, h with
  | [x], _ => rfl
/-- an answer is kept -/
theorem SS.keep {L lap : Int} {N g gt gd : Nat} {W : World} (h : SS L lap N g gt gd W) (hL : 0 ≤ L) {a b : Int} {i : Nat} (b0 : 0 ≤ b) (b1 : b ≤ L) (hi : (i : Int) = a * (L + 1) + b) (hN : i < N) {o : Option PR} (ho : IsBest (SetR L lap a b) o) :
    SS L lap N g gt gd (((((W.setCell ⟨gd, i, none⟩ (.bool true)).setCell ⟨gt, i * 4, none⟩ (.int .i64 (cutO o))).setCell ⟨gt, i * 4 + 1, none⟩ (.int .i64 (numO o))).setCell ⟨gt, i * 4 + 2, none⟩ (.string (lowO o))).setCell ⟨gt, i * 4 + 3, none⟩ (.string (highO o))) := by
  obtain ⟨h1, ⟨rs, ds, h2, h3, h4⟩, n1, n2, n3, l1, l2⟩ := h
  have hlr := h2.len
  have hld := h3.len
  have d1 := h3.put i 0 hN (by omega) (.bool true)
  rw [Nat.mul_one, Nat.add_zero, one_listP (flat_split ds h3.2 i (by omega)).2.2] at d1
  have hno : ∀ {W : World} {rs : List (List Value)} (j : Nat) (v : Value), OwnRecs 48 4 W 0 (.slice (some ⟨gt, 0, none⟩) N N) rs → OwnRecs 48 4 (W.setCell ⟨gd, j, none⟩ v) 0 (.slice (some ⟨gt, 0, none⟩) N N) rs := fun j v h => ⟨ownsRow_setCell_other h.1 (fun k hk => (by have h9 : gt = k := (by simpa [Value.ownBlock] using hk); subst h9; exact fun e => n3 e.symm)) v, h.2⟩
  have hnd : ∀ {W : World} {rs : List (List Value)} (j : Nat) (v : Value), OwnRecs 4 1 W 0 (.slice (some ⟨gd, 0, none⟩) N N) rs → OwnRecs 4 1 (W.setCell ⟨gt, j, none⟩ v) 0 (.slice (some ⟨gd, 0, none⟩) N N) rs := fun j v h => ⟨ownsRow_setCell_other h.1 (fun k hk => (by have h9 : gd = k := (by simpa [Value.ownBlock] using hk); subst h9; exact n3)) v, h.2⟩
  have r0 := hno i (.bool true) h2
  have r1 := r0.put i 0 hN (by omega) (.int .i64 (cutO o))
  have r2 := r1.put i 1 hN (by omega) (.int .i64 (numO o))
  have r3 := r2.put i 2 hN (by omega) (.string (lowO o))
  have r4 := r3.put i 3 hN (by omega) (.string (highO o))
  have q : ∀ (x : List Value), (rs.set i x).getD i [] = x := fun x => gD_set_eq rs i x [] (by omega)
  simp only [q, List.set_set] at r4
  rw [four_list (flat_split rs h2.2 i (by omega)).2.2, Nat.add_zero] at r4
  refine ⟨?_, ⟨rs.set i (cellsP o), ds.set i [.bool true], r4, hnd _ _ (hnd _ _ (hnd _ _ (hnd _ _ d1))), fun a' b' i' x0 x1 y0 y1 e => ?_⟩, n1, n2, n3, by simp [World.setCell]; exact l1, by simp [World.setCell]; exact l2⟩
  · exact heap_setN _ _ _ (heap_setN _ _ _ (heap_setN _ _ _ (heap_setN _ _ _ (heap_setN _ _ _ h1 n2) n1) n1) n1) n1
  · by_cases e2 : i = i'
    · subst e2
      obtain ⟨rfl, rfl⟩ := at_inj hL ⟨b0, b1⟩ ⟨y0, y1⟩ (hi.symm.trans e)
      rw [gD_set_eq _ _ _ _ (by omega), gD_set_eq _ _ _ _ (by omega)]
      exact .inr ⟨rfl, o, ho, rfl⟩
    · rw [gD_set_ne _ _ _ _ _ e2, gD_set_ne _ _ _ _ _ e2]
      exact h4 a' b' i' x0 x1 y0 y1 e
/-- what stands in memory at each round's head -/
structure RP (w : World) (L lap : Int) (N g gt gd bn : Nat) (o : Option PR) (W : World) : Prop where
  res : W.heap[w.heap.size]? = some (.cells #[.int .i64 0, .int .i64 0, .string ⟨#[]⟩, .string ⟨#[]⟩] 48 (0, 0))
  now : W.heap[bn]? = some (.cells #[.int .i64 (cutO o), .int .i64 (numO o), .string (lowO o), .string (highO o)] 48 (0, 0))
  ss : SS L lap N g gt gd W
  ch : ChgS (TG gt gd) w W
  lt : w.heap.size < bn
  gs : g < w.heap.size ∧ gt < w.heap.size ∧ gd < w.heap.size
theorem RP.ext {w : World} {L lap : Int} {N g gt gd bn : Nat} {o : Option PR} {W W' : World} (h : RP w L lap N g gt gd bn o W) (e : Ext W W') : RP w L lap N g gt gd bn o W' :=
  ⟨e.block h.res, e.block h.now, h.ss.ext e, h.ch.ext e, h.lt, h.gs⟩
theorem RP.call {w : World} {L lap : Int} {N g gt gd bn : Nat} {o : Option PR} {W W' : World} (h : RP w L lap N g gt gd bn o W) (s : SS L lap N g gt gd W') (c : ChgS (TG gt gd) W W') : RP w L lap N g gt gd bn o W' :=
  have h1 := h.gs
  have h2 := h.lt
  ⟨c.blk h.res (by unfold TG; omega), c.blk h.now (by unfold TG; omega), s, h.ch.trans c, h.lt, h.gs⟩
/-- a box of the round's own is written -/
theorem RP.put {w : World} {L lap : Int} {N g gt gd bn : Nat} {o : Option PR} {W : World} (h : RP w L lap N g gt gd bn o W) {b : Nat} (hb : bn < b) (i : Nat) (v : Value) : RP w L lap N g gt gd bn o (W.setCell ⟨b, i, none⟩ v) :=
  have h1 := h.gs
  have h2 := h.lt
  ⟨heap_setN _ _ _ h.res (by omega), heap_setN _ _ _ h.now (by omega), h.ss.setOther i v ⟨by omega, by omega, by omega⟩, h.ch.set (.inr (by dsimp only; omega)) v, h.lt, h.gs⟩
/-- the best one is written anew -/
theorem RP.better {w : World} {L lap : Int} {N g gt gd bn : Nat} {o : Option PR} {W : World} (h : RP w L lap N g gt gd bn o W) (o' : Option PR) : RP w L lap N g gt gd bn o' ((((W.setCell ⟨bn, 0, none⟩ (.int .i64 (cutO o'))).setCell ⟨bn, 1, none⟩ (.int .i64 (numO o'))).setCell ⟨bn, 2, none⟩ (.string (lowO o'))).setCell ⟨bn, 3, none⟩ (.string (highO o'))) := by
  have h1 := h.gs
  have h2 := h.lt
  refine ⟨?_, ?_, ?_, ?_, h.lt, h.gs⟩
  · exact heap_setN _ _ _ (heap_setN _ _ _ (heap_setN _ _ _ (heap_setN _ _ _ h.res (by omega)) (by omega)) (by omega)) (by omega)
  · exact heap_setC 3 _ (heap_setC 2 _ (heap_setC 1 _ (heap_setC 0 _ h.now)))
  · have n : bn ≠ g ∧ bn ≠ gt ∧ bn ≠ gd := ⟨by omega, by omega, by omega⟩
    exact (((h.ss.setOther 0 _ n).setOther 1 _ n).setOther 2 _ n).setOther 3 _ n
  · have n : w.heap.size ≤ bn := by omega
    exact (((h.ch.set (.inr n) _).set (.inr n) _).set (.inr n) _).set (.inr n) _
end Go.Proofs.Ytciamgnfbhijlaa
