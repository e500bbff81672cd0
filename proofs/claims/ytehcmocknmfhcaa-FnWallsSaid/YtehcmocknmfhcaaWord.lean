/- Contracts of the reference's reading of a word of a bond, where the word is a good one. -/
import Derived.Test.YtehcmocknmfhcaaSplit
import Derived.Test.YtehcmocknmfhcaaSrc1
namespace Go.Proofs.Ytehcmocknmfhcaa
open Go.RowKit
set_option linter.unusedSimpArgs false
set_option linter.unusedVariables false
set_option linter.unnecessarySimpa false

theorem toList_pos {s : ByteArray} (h : 1 ≤ s.size) : (s.toList == []) = false := by
  cases h2 : s.toList with
  | nil => rw [ByteArray.toList_eq] at h2; have := bts_length s; unfold bts at this; rw [h2] at this; simp at this; omega
  | cons a r => rfl
theorem res_two {w1 : World} {b : Nat} {x y : Value} (u v : Value) (O : Obj) (r0 : w1.cell? ⟨b, 0, none⟩ = some x) (r1 : w1.cell? ⟨b, 1, none⟩ = some y) :
    (((w1.setCell ⟨b, 0, none⟩ u).setCell ⟨b, 1, none⟩ v).alloc O).cell? ⟨b, 0, none⟩ = some u ∧ (((w1.setCell ⟨b, 0, none⟩ u).setCell ⟨b, 1, none⟩ v).alloc O).cell? ⟨b, 1, none⟩ = some v := by
  refine ⟨((Ext.refl _).alloc O).cell ?_, ((Ext.refl _).alloc O).cell ?_⟩
  · rw [World.cell?_setCell_other _ _ _ _ (ne_off (by decide))]
    exact World.cell?_setCell_same _ _ _ r0
  · exact World.cell?_setCell_same _ _ _ ((World.cell?_setCell_other _ _ _ _ (ne_off (by decide))).trans r1)
/-- the word is one without a problem, and its course is x -/
def WordOk (s : ByteArray) (x : Crs) : Prop := s.size ≤ 1000 ∧ 1 ≤ x.cyc.size ∧ x.cyc.size ≤ 8 ∧ (bts x.cyc).all isWh = true ∧
  ((splS 43 s = [x.cyc] ∧ x.lead = ⟨#[]⟩) ∨ (splS 43 s = [x.lead, x.cyc] ∧ 1 ≤ x.lead.size ∧ x.lead.size ≤ 6 ∧ (bts x.lead).all isPc = true))
theorem WordOk.ok {s : ByteArray} {x : Crs} (h : WordOk s x) : crsOk x = true := by
  obtain ⟨h0, h1, h2, h3, h4⟩ := h
  show crsB (bts x.lead) (bts x.cyc) = true
  rw [crsB, h3, bts_length, bts_length]
  rcases h4 with ⟨_, h5⟩ | ⟨_, h5, h6, h7⟩
  · rw [h5]; simp [bts, inB]; exact ⟨by decide, by omega, by omega⟩
  · rw [h7]; simp [inB]; omega
set_option maxHeartbeats 1600000 in
theorem s_l04Word (s : ByteArray) (x : Crs) (h : WordOk s x) (w : World) : Calls Try.prog 120 #[.string s] w (RetE (.tuple #[.agg #[.string x.lead, .string x.cyc], .int .i64 0]) w) := by
  obtain ⟨l, c⟩ := x
  obtain ⟨h0, h1, h2, h3, h4⟩ := h
  dsimp only at h1 h2 h3 h4 ⊢
  have HP := Lib.hid (fun W => s_l04Plain c (by omega) W)
  rw [h3] at HP
  have n4 := toList_pos h1
  clear h3
  rcases h4 with ⟨h4, rfl⟩ | ⟨h4, h5, h6, h7⟩
  · have HS := Lib.hid (fun W => s_l01Split s 43 43 (by decide) h0 W)
    rw [h4] at HS
    have HQ : Hid (∀ W, Calls Try.prog 98 #[.string ⟨#[]⟩] W (RetV (.bool true) W)) := Lib.hid (fun W => s_l04Pieces ⟨#[]⟩ (by decide) W)
    clear h4 h0
    have B0 := Lib.hid (blk_at w (.cells #[.string ByteArray.empty, .string ByteArray.empty] 80) w.heap.size rfl)
    go_enter Try.func120, Try.ntmps120
    go_wp2_with (first
      | (go_at_call 119; refine (HS.out _).mono ?_; rintro e w1 ⟨ao, cap, rfl, o1, e1⟩; have E1 := Lib.hid (((Ext.refl w).alloc _).trans e1); obtain ⟨r0, r1, r2, r3, r4⟩ := two_cells (e1.block B0.out); obtain ⟨b, off, rfl, c0⟩ := o1.strs.2.2.1 0 (by simp); have d0 : w1.cell? ⟨b, off, none⟩ = some (.string c) := c0; clear o1 c0 e1)
      | (go_at_call 98; refine (HQ.out _).mono ?_; rintro e w' ⟨rfl, rfl⟩)
      | (go_at_call 116; refine (HP.out _).mono ?_; rintro e w' ⟨rfl, rfl⟩))
    obtain ⟨u0, u1⟩ := res_two (.string ⟨#[]⟩) (.string c) (.cells #[.string ⟨#[]⟩, .string c] 80) r0 r1
    refine bodyPost_ret (v := .tuple #[.agg #[.string ⟨#[]⟩, .string c], .int .i64 0]) (by simp [results, Try.results120, go_sem, u0, u1]) rfl (RetE.mk rfl ?_)
    repeat' (first | exact E1.out | (dsimp only; omega) | refine Ext.setCell ?_ ?_ _ | refine Ext.alloc ?_ _)
  · have HS := Lib.hid (fun W => s_l01Split s 43 43 (by decide) h0 W)
    rw [h4] at HS
    have HQ := Lib.hid (fun W => s_l04Pieces l (by omega) W)
    rw [h7] at HQ
    have n5 := toList_pos h5
    clear h4 h0 h7
    have B0 := Lib.hid (blk_at w (.cells #[.string ByteArray.empty, .string ByteArray.empty] 80) w.heap.size rfl)
    go_enter Try.func120, Try.ntmps120
    go_wp2_with (first
      | (go_at_call 119; refine (HS.out _).mono ?_; rintro e w1 ⟨ao, cap, rfl, o1, e1⟩; have E1 := Lib.hid (((Ext.refl w).alloc _).trans e1); obtain ⟨r0, r1, r2, r3, r4⟩ := two_cells (e1.block B0.out); obtain ⟨b, off, rfl, c0⟩ := o1.strs.2.2.1 0 (by simp); obtain ⟨b', off', he, c1⟩ := o1.strs.2.2.1 1 (by simp); simp only [Option.some.injEq, Addr.mk.injEq, and_true] at he; obtain ⟨rfl, rfl⟩ := he; have d0 : w1.cell? ⟨b, off, none⟩ = some (.string l) := c0; have d1 : w1.cell? ⟨b, off + 1, none⟩ = some (.string c) := c1; have hbz : b < w1.heap.size := cell_lt d0; have hbw := (o1.blk b rfl).1; clear o1 c0 c1 e1)
      | (go_at_call 98; refine (HQ.out _).mono ?_; rintro e w' ⟨rfl, rfl⟩)
      | (go_at_call 116; refine (HP.out _).mono ?_; rintro e w' ⟨rfl, rfl⟩))
    obtain ⟨u0, u1⟩ := res_two (.string l) (.string c) (.cells #[.string l, .string c] 80) r0 r1
    refine bodyPost_ret (v := .tuple #[.agg #[.string l, .string c], .int .i64 0]) (by simp [results, Try.results120, go_sem, u0, u1]) rfl (RetE.mk rfl ?_)
    repeat' (first | exact E1.out | (dsimp only; omega) | refine Ext.setCell ?_ ?_ _ | refine Ext.alloc ?_ _)
end Go.Proofs.Ytehcmocknmfhcaa
