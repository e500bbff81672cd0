/- The reference's search for the best pair of courses: words for its walk. -/
import Derived.Test.YtciamgnfbhijlaaPairS
namespace Go.Proofs.Ytciamgnfbhijlaa
open Go.RowKit
set_option linter.unusedSimpArgs false
set_option linter.unusedVariables false
set_option linter.unnecessarySimpa false

theorem old_blkP {w : World} {o : Obj} {k : Nat} {x : Obj} (h : w.heap[k]? = some x) : (w.alloc o).heap[k]? = some x := by
  rw [heap_alloc_old w o (lt_of_block h)]; exact h
theorem extract_one (M : ByteArray) (k : Nat) (h : k < M.size) : M.extract k (k + 1) = mkS [M[k]] := by
  apply ByteArray.ext
  apply Array.ext'
  have h' : k < M.data.toList.length := by simpa using h
  simp only [ByteArray.data_extract, Array.toList_extract, List.extract_eq_take_drop, mkS]
  rw [show k + 1 - k = 1 by omega, List.drop_eq_getElem_cons h']
  rfl
theorem cutZ_bd (b : UInt8) : 0 ≤ cutZ b ∧ cutZ b ≤ 1 := by unfold cutZ; split <;> omega
theorem pcN_nonneg (x : PR) : 0 ≤ pcN x := by
  have h1 := cutN_bd x.1
  have h2 := cutN_bd x.2
  unfold pcN; omega
theorem cells_consL (c : UInt8) (y : PR) : cellsP (some (consL c y)) = [.int .i64 (pcN y + cutZ c), .int .i64 (ppN y + 1), .string (mkS [c] ++ mkS y.1), .string (mkS y.2)] := by
  rw [mkS_app]
  unfold cellsP consL cutO numO lowO highO pcN ppN
  simp only [cutN_cons, List.length_cons]
  rw [show cutN y.1 + cutZ c + cutN y.2 = cutN y.1 + cutN y.2 + cutZ c by omega, show ((y.1.length + 1 : Nat) : Int) + y.2.length = (y.1.length : Int) + y.2.length + 1 by omega]
  rfl
theorem cells_consR (c : UInt8) (y : PR) : cellsP (some (consR c y)) = [.int .i64 (pcN y + cutZ c), .int .i64 (ppN y + 1), .string (mkS y.1), .string (mkS [c] ++ mkS y.2)] := by
  rw [mkS_app]
  unfold cellsP consR cutO numO lowO highO pcN ppN
  simp only [cutN_cons, List.length_cons]
  rw [show cutN y.1 + (cutN y.2 + cutZ c) = cutN y.1 + cutN y.2 + cutZ c by omega, show (y.1.length : Int) + ((y.2.length + 1 : Nat) : Int) = (y.1.length : Int) + y.2.length + 1 by omega]
  rfl
theorem gen_world {P : World → Prop} {W : World} (Q : World → Prop) (hQ : Q W) (h : ∀ W', Q W' → P W') : P W := h W hQ
def RetBP (L lap a b : Int) (N g gt gd : Nat) (w : World) (e : Ending) (w' : World) : Prop :=
  ∃ o, IsBest (SetR L lap a b) o ∧ e = .returned (.agg #[.int .i64 (cutO o), .int .i64 (numO o), .string (lowO o), .string (highO o)]) ∧ SS L lap N g gt gd w' ∧ ChgS (TG gt gd) w w'
theorem resP_four {w1 : World} {b : Nat} {x y z u : Value} (r0 : w1.cell? ⟨b, 0, none⟩ = some x) (r1 : w1.cell? ⟨b, 1, none⟩ = some y) (r2 : w1.cell? ⟨b, 2, none⟩ = some z) (r3 : w1.cell? ⟨b, 3, none⟩ = some u) (a c d e : Value) :
    ((((w1.setCell ⟨b, 0, none⟩ a).setCell ⟨b, 1, none⟩ c).setCell ⟨b, 2, none⟩ d).setCell ⟨b, 3, none⟩ e).cell? ⟨b, 0, none⟩ = some a ∧ ((((w1.setCell ⟨b, 0, none⟩ a).setCell ⟨b, 1, none⟩ c).setCell ⟨b, 2, none⟩ d).setCell ⟨b, 3, none⟩ e).cell? ⟨b, 1, none⟩ = some c ∧
    ((((w1.setCell ⟨b, 0, none⟩ a).setCell ⟨b, 1, none⟩ c).setCell ⟨b, 2, none⟩ d).setCell ⟨b, 3, none⟩ e).cell? ⟨b, 2, none⟩ = some d ∧ ((((w1.setCell ⟨b, 0, none⟩ a).setCell ⟨b, 1, none⟩ c).setCell ⟨b, 2, none⟩ d).setCell ⟨b, 3, none⟩ e).cell? ⟨b, 3, none⟩ = some e := by
  have n : ∀ {i j : Nat}, i ≠ j → (⟨b, i, none⟩ : Addr) ≠ ⟨b, j, none⟩ := fun h e => h (by simpa using e)
  refine ⟨?_, ?_, ?_, ?_⟩
  · rw [World.cell?_setCell_other _ _ _ _ (n (by decide)), World.cell?_setCell_other _ _ _ _ (n (by decide)), World.cell?_setCell_other _ _ _ _ (n (by decide))]
    exact World.cell?_setCell_same _ _ _ r0
  · rw [World.cell?_setCell_other _ _ _ _ (n (by decide)), World.cell?_setCell_other _ _ _ _ (n (by decide))]
    exact World.cell?_setCell_same _ _ _ ((World.cell?_setCell_other _ _ _ _ (n (by decide))).trans r1)
  · rw [World.cell?_setCell_other _ _ _ _ (n (by decide))]
    exact World.cell?_setCell_same _ _ _ ((World.cell?_setCell_other _ _ _ _ (n (by decide))).trans ((World.cell?_setCell_other _ _ _ _ (n (by decide))).trans r2))
  · exact World.cell?_setCell_same _ _ _ ((World.cell?_setCell_other _ _ _ _ (n (by decide))).trans ((World.cell?_setCell_other _ _ _ _ (n (by decide))).trans ((World.cell?_setCell_other _ _ _ _ (n (by decide))).trans r3)))
theorem ss_set4 {L lap : Int} {N g gt gd : Nat} {w W : World} (h : SS L lap N g gt gd W) (c : ChgS (TG gt gd) w W) (hg : g < w.heap.size ∧ gt < w.heap.size ∧ gd < w.heap.size) (v0 v1 v2 v3 : Value) :
    SS L lap N g gt gd ((((W.setCell ⟨w.heap.size, 0, none⟩ v0).setCell ⟨w.heap.size, 1, none⟩ v1).setCell ⟨w.heap.size, 2, none⟩ v2).setCell ⟨w.heap.size, 3, none⟩ v3) ∧ ChgS (TG gt gd) w ((((W.setCell ⟨w.heap.size, 0, none⟩ v0).setCell ⟨w.heap.size, 1, none⟩ v1).setCell ⟨w.heap.size, 2, none⟩ v2).setCell ⟨w.heap.size, 3, none⟩ v3) := by
  have n : w.heap.size ≠ g ∧ w.heap.size ≠ gt ∧ w.heap.size ≠ gd := ⟨by omega, by omega, by omega⟩
  have q : w.heap.size ≤ w.heap.size := Nat.le_refl _
  exact ⟨(((h.setOther 0 _ n).setOther 1 _ n).setOther 2 _ n).setOther 3 _ n, (((c.set (.inr q) _).set (.inr q) _).set (.inr q) _).set (.inr q) _⟩
theorem blk_two1 (w : World) (o o' : Obj) : ((w.alloc o).alloc o').heap[w.heap.size]? = some o := old_blkP (heap_alloc_new w o)
theorem blk_two2 (w : World) (o o' : Obj) : ((w.alloc o).alloc o').heap[w.heap.size + 1]? = some o' := by
  have h := heap_alloc_new (w.alloc o) o'
  rwa [show (w.alloc o).heap.size = w.heap.size + 1 by simp] at h
end Go.Proofs.Ytciamgnfbhijlaa
