/- The program's best course: the walk (under way). -/
import Derived.Test.YtciamgnfbhijlaaBestI0
import Derived.Test.YtciamgnfbhijlaaBestS
import Derived.Deep.OwnRows
import Derived.RegionTactic
import Derived.BigRegion
import Derived.Deep.DeepCutAuto
import Derived.Outline
namespace Go.Proofs.Ytciamgnfbhijlaa
open Go.RowKit
set_option linter.unusedSimpArgs false
set_option linter.unusedVariables false
set_option linter.unnecessarySimpa false

theorem info_cost : (Try.prog.info? 52).map (fun i => (i.zero, i.size, i.bytes)) = some (some (.agg #[.int .i64 0, .int .i64 0]), 2, 16) := by kernel_rfl
theorem info_bool : (Try.prog.info? 4).map (fun i => (i.zero, i.size, i.bytes)) = some (some (.bool false), 1, 1) := by kernel_rfl
/-- a new row, whatever its elements -/
theorem run_make_any {P : Program} (t e : TypeId) (z : Value) (size bytes : Nat) (ht : P.underlying t = some (.slice e)) (hinfo : (P.info? e).map (fun i => (i.zero, i.size, i.bytes)) = some (some z, size, bytes)) (n : Nat) (x : Int) (hx : x = n) (hb : bytes * n ≤ 281474976710656) (h63 : n ≤ 9223372036854775807) (w : World) :
    (Instr.makeSlice t (.int .i64 x) (.int .i64 x)).run P w = .ok (.slice (some ⟨w.heap.size, 0, none⟩) n n) (w.alloc (.cells (madeCells z.cells (n * size)) e)) := by
  subst hx
  obtain ⟨i, hi, hzz⟩ := Option.map_eq_some_iff.1 hinfo
  simp only [Prod.mk.injEq] at hzz
  obtain ⟨hz, hs, hb'⟩ := hzz
  have hbb : (i.bytes : Int) * (n : Int) ≤ 281474976710656 := by
    have h : ((i.bytes * n : Nat) : Int) ≤ 281474976710656 := by rw [hb']; omega
    rwa [Int.natCast_mul] at h
  have hr := run_make (P := P) w t e i z ht hi hz .i64 .i64 n n (by omega) (Int.le_refl _) hbb (by omega)
  simp only [Int.toNat_natCast, hs] at hr
  exact hr
theorem flat_one {α : Type} (f : α → Value) : ∀ (l : List α), (l.map fun x => [f x]).flatten = l.map f
  | [] => rfl
  | x :: l => by rw [List.map_cons, List.flatten_cons, flat_one f l]; rfl
theorem OwnRecs.reads1 {E : TypeId} {w : World} {base g n cap : Nat} {rs : List (List Value)} (h : OwnRecs E 1 w base (.slice (some ⟨g, 0, none⟩) n cap) rs) (j : Nat) (hj : j < n) {a : Value} (hr : rs.getD j [] = [a]) :
    w.cell? ⟨g, j, none⟩ = some a ∧ w.frozen? ⟨g, j, none⟩ = false := by
  have h0 := h.reads j 0 hj (by omega) a (by rw [hr]; rfl)
  rw [Nat.mul_one] at h0
  exact h0
theorem one_list {l : List Value} (h : l.length = 1) (a : Value) : l.set 0 a = [a] := by
  match l, h with
  | [x], _ => rfl
theorem OwnRecs.put1 {E : TypeId} {w : World} {base g n cap : Nat} {rs : List (List Value)} (h : OwnRecs E 1 w base (.slice (some ⟨g, 0, none⟩) n cap) rs) (j : Nat) (hj : j < n) (a : Value) :
    OwnRecs E 1 (w.setCell ⟨g, j, none⟩ a) base (.slice (some ⟨g, 0, none⟩) n cap) (rs.set j [a]) := by
  have hl := h.len
  have h3 := h.put j 0 hj (by omega) a
  rw [one_list (flat_split rs h.2 j (by omega)).2.2, Nat.mul_one] at h3
  exact h3
/-- a cell of another block is written -/
theorem OwnRecs.other {E : TypeId} {k : Nat} {w : World} {base g n cap : Nat} {rs : List (List Value)} (h : OwnRecs E k w base (.slice (some ⟨g, 0, none⟩) n cap) rs) {a : Addr} (ha : a.block ≠ g) (u : Value) : OwnRecs E k (w.setCell a u) base (.slice (some ⟨g, 0, none⟩) n cap) rs :=
  ⟨ownsRow_setCell_other h.1 (fun b hb => by simp [Value.ownBlock] at hb; omega) u, h.2⟩
/-- the best of the first k letters, as the program takes them -/
def order4 : List UInt8 := [67, 72, 83, 84]
def nowI (ok : Int → Bool) (L : Int) (d k : Nat) : Option Rw := (order4.take k).foldl (fun now b => pickBy ltI now (cand ok L (d + 1) (rowsT ok L d) b)) none
theorem nowI_zero (ok : Int → Bool) (L : Int) (d : Nat) : nowI ok L d 0 = none := rfl
theorem nowI_succ (ok : Int → Bool) (L : Int) (d k : Nat) (hk : k < 4) : nowI ok L d (k + 1) = pickBy ltI (nowI ok L d k) (cand ok L (d + 1) (rowsT ok L d) (order4.getD k 0)) := by
  unfold nowI
  rw [List.take_succ_eq_append_getElem (show k < order4.length from hk), List.foldl_append, List.getD_eq_getElem?_getD, List.getElem?_eq_getElem (show k < order4.length from hk)]
  rfl
theorem nowI_four (ok : Int → Bool) (L : Int) (d : Nat) : nowI ok L d 4 = best ok L (d + 1) := by rw [best_succI]; rfl
def cC : Option Rw → Int | none => 0 | some r => r.c
def cP : Option Rw → Int | none => 0 | some r => r.p
def rT (o : Option Rw) : List Value := [.string (tS o)]
def rC (o : Option Rw) : List Value := [.int .i64 (cC o), .int .i64 (cP o)]
def rK (o : Option Rw) : List Value := [.bool o.isSome]
theorem nowI_good (ok : Int → Bool) (L : Int) (d k : Nat) (hk : k ≤ 4) : ∀ r, nowI ok L d k = some r → Good (d + 1) r := by
  have hb : ∀ d', d' ≤ d → ∀ r, best ok L d' = some r → Good d' r := fun d' _ => best_good ok L d'
  induction k with
  | zero => intro r h; rw [nowI_zero] at h; cases h
  | succ k ih =>
    intro r h
    rw [nowI_succ ok L d k (by omega)] at h
    rcases pickBy_from h with h | h
    · exact ih (by omega) r h
    · have hk5 : k = 0 ∨ k = 1 ∨ k = 2 ∨ k = 3 := by omega
      rcases hk5 with rfl | rfl | rfl | rfl
      · exact cand_good hb qB_C (by decide) h
      · exact cand_good hb qB_H (by decide) h
      · exact cand_good hb qB_S (by decide) h
      · exact cand_good hb qB_T (by decide) h
theorem old_blk {w : World} {o : Obj} {k : Nat} {x : Obj} (h : w.heap[k]? = some x) : (w.alloc o).heap[k]? = some x := by
  rw [Below.heap_alloc w o k (lt_of_block h)]; exact h
theorem at_blk (w : World) (o : Obj) (k : Nat) (h : w.heap.size = k) : (w.alloc o).heap[k]? = some o := by subst h; exact heap_alloc_new w o
theorem rec_new1 {E : TypeId} {w : World} {base g : Nat} {a : Value} {n : Nat} (hh : w.heap[g]? = some (.cells (madeCells #[a] n) E)) (hb : base ≤ g) (hn : n ≤ maxLen) : OwnRecs E 1 w base (.slice (some ⟨g, 0, none⟩) n n) (List.replicate n [a]) := by
  have h : (List.replicate n [a]).flatten = (madeCells #[a] n).toList := by rw [toList_madeCells_one]; simp
  refine ⟨⟨by rw [h]; simp [madeCells], .inr ⟨g, n, madeCells #[a] n, by simp, hb, hh, by simp, hn, by simp [madeCells], by rw [h]; exact List.take_of_length_le (by simp [madeCells])⟩⟩, fun r hr => by rw [List.eq_of_mem_replicate hr]; rfl⟩
theorem rec_new2 {E : TypeId} {w : World} {base g : Nat} {a b : Value} {n : Nat} (hh : w.heap[g]? = some (.cells (madeCells #[a, b] (n * 2)) E)) (hb : base ≤ g) (hn : n ≤ maxLen) : OwnRecs E 2 w base (.slice (some ⟨g, 0, none⟩) n n) (List.replicate n [a, b]) := by
  have h : (List.replicate n [a, b]).flatten = (madeCells #[a, b] (n * 2)).toList := (made2 a b n).symm
  refine ⟨⟨by rw [h]; simp [madeCells], .inr ⟨g, n, madeCells #[a, b] (n * 2), by simp, hb, hh, by simp, hn, by simp [madeCells], by rw [h]; exact List.take_of_length_le (by simp [madeCells])⟩⟩, fun r hr => by rw [List.eq_of_mem_replicate hr]; rfl⟩
theorem getD_set_ne {α : Type} (l : List α) (i j : Nat) (v e : α) (h : i ≠ j) : (l.set i v).getD j e = l.getD j e := by
  rw [List.getD_eq_getElem?_getD, List.getElem?_set_ne h, ← List.getD_eq_getElem?_getD]
theorem getD_set_eq {α : Type} (l : List α) (j : Nat) (v e : α) (h : j < l.length) : (l.set j v).getD j e = v := by
  rw [List.getD_eq_getElem?_getD, List.getElem?_set_self h]; rfl
theorem order4_at (k : Nat) (h : k < (⟨#[67, 72, 83, 84]⟩ : ByteArray).size) : order4.getD k 0 = (⟨#[67, 72, 83, 84]⟩ : ByteArray)[k] := by
  obtain ⟨h3, h4⟩ := byte_at ⟨#[67, 72, 83, 84]⟩ k h
  rw [show order4 = bts ⟨#[67, 72, 83, 84]⟩ from rfl, List.getD_eq_getElem?_getD, List.getElem?_eq_getElem h3, h4]
  rfl
theorem ord4_q (k : Nat) (hk : k < 4) : ∃ q : Nat, 1 ≤ q ∧ q ≤ 4 ∧ qB (order4.getD k 0) = q := by
  have hk5 : k = 0 ∨ k = 1 ∨ k = 2 ∨ k = 3 := by omega
  rcases hk5 with rfl | rfl | rfl | rfl
  · exact ⟨1, by omega, by omega, qB_C⟩
  · exact ⟨2, by omega, by omega, qB_H⟩
  · exact ⟨4, by omega, by omega, qB_S⟩
  · exact ⟨3, by omega, by omega, qB_T⟩
def lessOI (a : Rw) : Option Rw → Bool
  | none => true
  | some b => ltI a b
theorem pick_lessI (a : Rw) (now : Option Rw) : pickBy ltI now (some a) = if lessOI a now then some a else now := by
  cases now with
  | none => rfl
  | some b => rfl
abbrev C1 (w : World) (g o : Nat) (a : Value) : Prop := w.cell? ⟨g, o, none⟩ = some a
abbrev C2 (w : World) (g o : Nat) (a b : Value) : Prop := w.cell? ⟨g, o, none⟩ = some a ∧ w.cell? ⟨g, o + 1, none⟩ = some b
theorem keepBI {w2 W W' : World} {g8 M g7 o g9 p : Nat} {v a b c d : Value} (h : C1 W g8 M v ∧ C2 W g7 o a b ∧ C2 W g9 p c d ∧ Ext w2 W) (e : Ext W W') : C1 W' g8 M v ∧ C2 W' g7 o a b ∧ C2 W' g9 p c d ∧ Ext w2 W' :=
  ⟨e.cell h.1, ⟨e.cell h.2.1.1, e.cell h.2.1.2⟩, ⟨e.cell h.2.2.1.1, e.cell h.2.2.1.2⟩, h.2.2.2.trans e⟩
theorem heldBI {w2 W : World} {g8 M g7 o g9 p : Nat} {v a b c d : Value} (h : C1 W g8 M v ∧ C2 W g7 o a b ∧ C2 W g9 p c d ∧ Ext w2 W) : Ext w2 W := h.2.2.2
end Go.Proofs.Ytciamgnfbhijlaa
