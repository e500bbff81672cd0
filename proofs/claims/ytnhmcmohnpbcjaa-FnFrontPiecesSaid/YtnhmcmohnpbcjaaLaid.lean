/- Contracts: the perpends of a course of a bond (the reference's), a bond drawn off some bytes; two rows of numbers are alike. -/
import Derived.Test.YtnhmcmohnpbcjaaGaDb
import Derived.Test.YtnhmcmohnpbcjaaGaA
namespace Go.Proofs.Ytnhmcmohnpbcjaa
open Go.RowKit
set_option linter.unusedSimpArgs false
set_option linter.unusedVariables false
set_option linter.unnecessarySimpa false

/-- the perpends behind the first i letters but the last of these -/
def pfL (f : Nat → UInt8) (i : Nat) : List Int := (List.range (i - 1)).map fun j => preQ f (j + 1)
theorem pfL_len (f : Nat → UInt8) (i : Nat) : (pfL f i).length = i - 1 := by simp [pfL]
theorem pfL_succ (f : Nat → UInt8) (i : Nat) (h : 1 ≤ i) : pfL f (i + 1) = pfL f i ++ [preQ f i] := by
  unfold pfL
  rw [show i + 1 - 1 = (i - 1) + 1 by omega, List.range_succ, List.map_append, List.map_singleton, show i - 1 + 1 = i by omega]
theorem perpTo_eq (l : List UInt8) (f : Nat → UInt8) (i : Nat) (h : ∀ j, j ≤ i → qSum (l.take j) = preQ f j) : perpTo l i = (List.range i).map fun j => preQ f (j + 1) := by
  induction i with
  | zero => rfl
  | succ i ih =>
    rw [perpTo, ih (fun j hj => h j (by omega)), List.range_succ, List.map_append, List.map_singleton, h (i + 1) (Nat.le_refl _)]
theorem layT_take (f : Nat → UInt8) (n : Int) (j : Nat) (h : j ≤ layK f n) : qSum ((layT f n).take j) = preQ f j := by
  unfold layT
  rw [List.take_append_of_le_length (by simp; exact h), ← List.map_take, List.take_range, Nat.min_eq_left h, qSum_range]
theorem pfL_end {f : Nat → UInt8} {n : Int} {i : Nat} (hq : ∀ i, 1 ≤ qB (f i)) (hi : 1 ≤ i) (h1 : preQ f (i - 1) < n) (h2 : n ≤ preQ f i) : pfL f i = perps (layT f n) := by
  have hl : (layT f n).length = i := by
    by_cases he : n = preQ f i
    · have hk : layK f n = i := layK_eq hq (by omega) (by have := hq i; show n < preQ f i + qB (f i); omega)
      unfold layT
      rw [hk, he, Int.sub_self, List.length_append, List.length_map, List.length_range]
      rfl
    · have hk : layK f n = i - 1 := layK_eq hq (by omega) (by rw [show i - 1 + 1 = i by omega]; omega)
      have h3 : preQ f i = preQ f (i - 1) + qB (f (i - 1)) := by conv => lhs; rw [show i = i - 1 + 1 by omega]; unfold preQ
      have h4 := qB_bd (f (i - 1))
      unfold layT
      rw [hk, List.length_append, List.length_map, List.length_range]
      have : n - preQ f (i - 1) = 1 ∨ n - preQ f (i - 1) = 2 ∨ n - preQ f (i - 1) = 3 := by omega
      rcases this with h | h | h <;> rw [h] <;> simp [tailB] <;> omega
  have hk : i - 1 ≤ layK f n := by
    have := tailB_len (n - preQ f (layK f n))
    have h3 : (layT f n).length = layK f n + (tailB (n - preQ f (layK f n))).length := by unfold layT; simp
    omega
  unfold perps
  rw [hl, perpTo_eq _ f _ (fun j hj => layT_take f n j (by omega))]
  rfl
/-- a valid bond is handed back -/
def RetA2B (w : World) (e : Ending) (w' : World) : Prop := ∃ nm cs a cap, e = .returned (.agg #[.string nm, .slice a cs.length cap]) ∧ bondB (bts nm) cs = true ∧ nm.size ≤ 12 ∧ Crss w' a cs.length cs ∧ Ext w w'
set_option maxRecDepth 100000 in
set_option maxHeartbeats 1600000 in
theorem s_A2Bond (ao : Option Addr) (n c : Nat) (bs : List UInt8) (w : World) (hb : U8s w ao n bs) : Calls Try.prog 39 #[.slice ao n c] w (RetA2B w) := by
  have H1 := Lib.hid (fun W (h : SrcAt W (w.heap.size + 1) ao n c ⟨0, 0⟩) (e : Ext w W) => s_l04Draw (w.heap.size + 1) ao n c bs ⟨0, 0⟩ W h w e hb (Nat.le_succ _) 0 (by decide) ⟨by decide, by decide⟩)
  have B0 := Lib.hid (blk_at w (.cells #[.string ByteArray.empty, .slice none 0 0] 66) w.heap.size rfl)
  clear hb
  go_enter Try.func39, Try.ntmps39
  go_wp2_with fail
  refine (s_l00From ao n c _).mono ?_
  rintro e w1 ⟨rfl, s1, e1, z1⟩
  rw [show (w.alloc (.cells #[.string ⟨#[]⟩, .slice none 0 0] 66)).heap.size = w.heap.size + 1 by simp] at s1 ⊢
  have HS1 := Lib.hid s1
  have HE1 := Lib.hid (((Ext.refl w).alloc _).trans e1)
  have HR1 := Lib.hid (e1.block B0.out)
  clear s1 e1 z1
  go_wp2_with fail
  refine (H1.out _ HS1.out HE1.out).mono ?_
  rintro e w2 ⟨nm, cs, st', a, cap, rfl, hbd, hns, o2, _, s2, g2⟩
  have HR2 := Lib.hid (blk_grownS HR1.out g2 (fun e => by have h := Option.some.inj e; omega))
  obtain ⟨r0, r1, r2, r3, r4⟩ := two_cells HR2.out
  have HE2 := Lib.hid (ext_of_src g2 HE1.out (Nat.le_succ _))
  have HO2 := Lib.hid (o2.mono (show w.heap.size + 1 ≤ w1.heap.size from Nat.succ_le_of_lt (lt_of_block HR1.out)))
  have HBD := Lib.hid hbd
  have HNS := Lib.hid hns
  obtain ⟨n4, hn4⟩ : ∃ n, cs.length = n := ⟨_, rfl⟩
  rw [hn4] at HO2 ⊢
  have HN4 := Lib.hid hn4
  clear s2 g2 o2 hbd hns hn4
  go_wp2
  have c0 : ((w2.setCell ⟨w.heap.size, 0, none⟩ (.string nm)).setCell ⟨w.heap.size, 1, none⟩ (.slice a n4 cap)).cell? ⟨w.heap.size, 0, none⟩ = some (.string nm) := by
    rw [World.cell?_setCell_other _ _ _ _ (ne_off (by decide))]; exact World.cell?_setCell_same _ _ _ r0
  have c1 : ((w2.setCell ⟨w.heap.size, 0, none⟩ (.string nm)).setCell ⟨w.heap.size, 1, none⟩ (.slice a n4 cap)).cell? ⟨w.heap.size, 1, none⟩ = some (.slice a n4 cap) :=
    World.cell?_setCell_same _ _ _ ((World.cell?_setCell_other _ _ _ _ (ne_off (by decide))).trans r1)
  refine bodyPost_ret (v := .agg #[.string nm, .slice a n4 cap]) (by simp [results, Try.results39, go_sem, c0, c1]) rfl ?_
  refine ⟨nm, cs, a, cap, by rw [HN4.out], HBD.out, HNS.out, ?_, ?_⟩
  · rw [HN4.out]
    exact ((HO2.out.setBelow (Nat.lt_succ_self _) _).setBelow (Nat.lt_succ_self _) _).crss
  · exact (HE2.out.setCell (Nat.le_refl _) _).setCell (Nat.le_refl _) _
end Go.Proofs.Ytnhmcmohnpbcjaa
