/- Contracts: the sizes of a mould after firing, on both sides. -/
import Derived.Test.YtdedamamjkpcpaaGreatDoorMould0
import Derived.RegionTactic
import Derived.BigRegion
namespace Go.Proofs.YtdedamamjkpcpaaGreatDoor
open Go.RowKit
set_option linter.unusedSimpArgs false
set_option linter.unusedVariables false
set_option linter.unnecessarySimpa false

def fires (a b c s : Int) : List Int := [fireI a s, fireI b s, fireI c s]
def fsX (a b c d s : Int) : List Int := if mouldB a b c d = true ∧ inB s 0 200 = true then fires a b c s else []
def fsC (a b c d s : Int) : Int := sel (mouldB a b c d) (sel (inB s 0 200) 0 2) 1
/-- three numbers in a new block -/
def RetRow3 (x y z : Int) (w : World) (e : Ending) (w' : World) : Prop := ∃ g, e = .returned (.slice (some ⟨g, 0, none⟩) 3 3) ∧ w'.heap[g]? = some (.cells #[.int .i64 x, .int .i64 y, .int .i64 z] 2 (0, 0)) ∧ w.heap.size ≤ g ∧ Ext w w'
theorem own_row3 {w : World} {base g : Nat} {x y z : Int} (h : w.heap[g]? = some (.cells #[.int .i64 x, .int .i64 y, .int .i64 z] 2 (0, 0))) (hb : base ≤ g) (h1 : IsI64 x) (h2 : IsI64 y) (h3 : IsI64 z) : OwnInts 2 w base (.slice (some ⟨g, 0, none⟩) 3 3) [x, y, z] := by
  refine ⟨⟨rfl, .inr ⟨g, 3, _, rfl, hb, h, Nat.le_refl _, by unfold maxLen; omega, by simp, by simp⟩⟩, fun u hu => ?_⟩
  simp only [List.mem_cons, List.not_mem_nil, or_false] at hu
  rcases hu with rfl | rfl | rfl <;> assumption
theorem three_cellsM {w : World} {b : Nat} {x y z : Value} {T : TypeId} (hb : w.heap[b]? = some (.cells #[x, y, z] T (0, 0))) :
    w.cell? ⟨b, 0, none⟩ = some x ∧ w.cell? ⟨b, 1, none⟩ = some y ∧ w.cell? ⟨b, 2, none⟩ = some z ∧ w.frozen? ⟨b, 0, none⟩ = false ∧ w.frozen? ⟨b, 1, none⟩ = false ∧ w.frozen? ⟨b, 2, none⟩ = false ∧ b < w.heap.size :=
  ⟨by simp [World.cell?, hb], by simp [World.cell?, hb], by simp [World.cell?, hb], by simp [World.frozen?, hb], by simp [World.frozen?, hb], by simp [World.frozen?, hb], lt_of_block hb⟩
theorem heapM_set (W : World) (b i : Nat) (x : Value) {cs : Array Value} {T : TypeId} {m : Nat × Nat} (h : W.heap[b]? = some (.cells cs T m)) : (W.setCell ⟨b, i, none⟩ x).heap[b]? = some (.cells (cs.setIfInBounds i x) T m) := by
  show (W.heap.modify b _)[b]? = _
  rw [Array.getElem?_modify, if_pos rfl, h]
  rfl
theorem i_Msizes (a b c d : Int) (w : World) : Calls Tryz.prog 48 #[.agg #[.int .i64 a, .int .i64 b, .int .i64 c, .int .i64 d]] w (RetRow3 a b c w) := by
  go_enter Tryz.func48, Tryz.ntmps48
  go_wp2
  go_ret
  exact ⟨w.heap.size + 1, rfl, by simpa using heap_alloc_new (w.alloc (.cells #[.int .i64 a, .int .i64 b, .int .i64 c, .int .i64 d] 29)) (.cells #[.int .i64 a, .int .i64 b, .int .i64 c] 2), by omega, ((Ext.refl w).alloc _).alloc _⟩
theorem i_Fsizes (a b c d : Int) (w : World) : Calls Tryz.prog 43 #[.agg #[.int .i64 a, .int .i64 b, .int .i64 c, .int .i64 d]] w (RetRow3 a b c w) := by
  go_enter Tryz.func43, Tryz.ntmps43
  go_wp2
  go_ret
  exact ⟨w.heap.size + 1, rfl, by simpa using heap_alloc_new (w.alloc (.cells #[.int .i64 a, .int .i64 b, .int .i64 c, .int .i64 d] 25)) (.cells #[.int .i64 a, .int .i64 b, .int .i64 c] 2), by omega, ((Ext.refl w).alloc _).alloc _⟩
def mixM (a b c s : Int) (j : Nat) : Array Value := #[.int .i64 (if 0 < j then fireI a s else a), .int .i64 (if 1 < j then fireI b s else b), .int .i64 (if 2 < j then fireI c s else c)]
set_option maxHeartbeats 1600000 in
theorem i_firedSizes (a b c d s : Int) (h : mouldB a b c d = true) (s0 : 0 ≤ s) (s1 : s ≤ 200) (w : World) : Calls Tryz.prog 36 #[.agg #[.int .i64 a, .int .i64 b, .int .i64 c, .int .i64 d], .int .i64 s] w (RetRow3 (fireI a s) (fireI b s) (fireI c s) w) := by
  obtain ⟨⟨a0, a1⟩, ⟨b0, b1⟩, ⟨c0, c1⟩, _⟩ := mouldB_bd h
  have e0 : Ext w (w.alloc (.cells #[.int .i64 a, .int .i64 b, .int .i64 c, .int .i64 d] 29)) := (Ext.refl w).alloc _
  have HS := Lib.hid (i_Msizes a b c d (w.alloc (.cells #[.int .i64 a, .int .i64 b, .int .i64 c, .int .i64 d] 29)))
  have HF := Lib.hid (fun n (h0 : 0 ≤ n) (h1 : n ≤ 2000) W => i_fired n s h0 h1 s0 (by omega) W)
  have HE0 := Lib.hid e0
  have HZ0 : Hid ((w.alloc (.cells #[.int .i64 a, .int .i64 b, .int .i64 c, .int .i64 d] 29)).heap.size = w.heap.size + 1) := Lib.hid (by simp)
  clear h e0
  go_enter Tryz.func36, Tryz.ntmps36
  go_wp2_with fail
  refine HS.out.mono ?_
  rintro e w1 ⟨g, rfl, hg, hgs, e1⟩
  have HE1 := Lib.hid (HE0.out.trans e1)
  have HG1 := Lib.hid hg
  have HGS : Hid (w.heap.size ≤ g) := Lib.hid (by have := HZ0.out; omega)
  clear hg hgs e1 HS HE0 HZ0
  go_wp2
  go_loopw [12] (fun i wr => ∃ j : Nat, j ≤ 3 ∧ i = .int .i64 j ∧ Hid (wr.heap[g]? = some (.cells (mixM a b c s j) 2 (0, 0))) ∧ Hid (Ext w wr)) (fun i _ => 3 - (intOf i).toNat)
  case atStart => exact ⟨0, by omega, rfl, Lib.hid (by rw [HG1.out]; rfl), HE1⟩
  case round =>
    obtain ⟨j, hj, rfl, HB, HE⟩ := hrel
    have h3 : j = 0 ∨ j = 1 ∨ j = 2 ∨ j = 3 := by omega
    rcases h3 with rfl | rfl | rfl | rfl
    · obtain ⟨q0, q1, q2, f0, f1, f2, hl⟩ := three_cellsM (show wr.heap[g]? = some (.cells #[.int .i64 a, .int .i64 b, .int .i64 c] 2 (0, 0)) from HB.out)
      go_wp2_with fail
      refine (HF.out a (by omega) (by omega) _).mono ?_
      rintro e w' ⟨rfl, rfl⟩
      go_wp2
      go_roundw
      case rel => exact ⟨1, by omega, rfl, Lib.hid (heapM_set _ g 0 _ HB.out), Lib.hid (HE.out.setCell HGS.out _)⟩
      case measure => simp [intOf]
    · obtain ⟨q0, q1, q2, f0, f1, f2, hl⟩ := three_cellsM (show wr.heap[g]? = some (.cells #[.int .i64 (fireI a s), .int .i64 b, .int .i64 c] 2 (0, 0)) from HB.out)
      go_wp2_with fail
      refine (HF.out b (by omega) (by omega) _).mono ?_
      rintro e w' ⟨rfl, rfl⟩
      go_wp2
      go_roundw
      case rel => exact ⟨2, by omega, rfl, Lib.hid (heapM_set _ g 1 _ HB.out), Lib.hid (HE.out.setCell HGS.out _)⟩
      case measure => simp [intOf]
    · obtain ⟨q0, q1, q2, f0, f1, f2, hl⟩ := three_cellsM (show wr.heap[g]? = some (.cells #[.int .i64 (fireI a s), .int .i64 (fireI b s), .int .i64 c] 2 (0, 0)) from HB.out)
      go_wp2_with fail
      refine (HF.out c (by omega) (by omega) _).mono ?_
      rintro e w' ⟨rfl, rfl⟩
      go_wp2
      go_roundw
      case rel => exact ⟨3, by omega, rfl, Lib.hid (heapM_set _ g 2 _ HB.out), Lib.hid (HE.out.setCell HGS.out _)⟩
      case measure => simp [intOf]
    · go_wp2
      go_ret
      exact ⟨g, rfl, HB.out, HGS.out, HE.out⟩
theorem fire_i64 {n s : Int} (h0 : 0 ≤ n) (h1 : n ≤ 2000) (s0 : 0 ≤ s) (s1 : s ≤ 1000) : IsI64 (fireI n s) := by
  have := fire_bd h0 s0 s1
  unfold IsI64; omega
set_option maxHeartbeats 1600000 in
theorem i_FiredSize (a b c d s : Int) (w : World) : Calls Tryz.prog 9 #[.agg #[.int .i64 a, .int .i64 b, .int .i64 c, .int .i64 d], .int .i64 s] w (RetIntsC (fsX a b c d s) (fsC a b c d s) w) := by
  have e0 : Ext w (w.alloc (.cells #[.int .i64 a, .int .i64 b, .int .i64 c, .int .i64 d] 29)) := (Ext.refl w).alloc _
  have HB0 := Lib.hid (heap_alloc_new w (.cells #[.int .i64 a, .int .i64 b, .int .i64 c, .int .i64 d] 29))
  have HV := Lib.hid (i_validMould a b c d (w.alloc (.cells #[.int .i64 a, .int .i64 b, .int .i64 c, .int .i64 d] 29)))
  have HI := Lib.hid (fun W => i_isShrink s W)
  have HE0 := Lib.hid e0
  have HZ0 : Hid ((w.alloc (.cells #[.int .i64 a, .int .i64 b, .int .i64 c, .int .i64 d] 29)).heap.size = w.heap.size + 1) := Lib.hid (by simp)
  clear e0
  cases hv : mouldB a b c d with
  | false =>
    have hc : fsC a b c d s = 1 := by unfold fsC; rw [hv]; rfl
    have hx : fsX a b c d s = [] := by unfold fsX; rw [hv]; simp
    rw [hc, hx]
    rw [hv] at HV
    clear hv hc hx
    go_enter Tryz.func9, Tryz.ntmps9
    go_wp2_with fail
    refine HV.out.mono ?_
    rintro e w1 ⟨rfl, e1⟩
    go_wp2
    go_ret2
    exact RetIntsC.of_own (OwnInts.nilv _ _ _) (HE0.out.trans e1) rfl
  | true =>
    cases hs : inB s 0 200 with
    | false =>
      have hc : fsC a b c d s = 2 := by unfold fsC; rw [hv, hs]; rfl
      have hx : fsX a b c d s = [] := by unfold fsX; rw [hs]; simp
      rw [hc, hx]
      rw [hv] at HV
      rw [hs] at HI
      clear hv hc hx hs
      go_enter Tryz.func9, Tryz.ntmps9
      go_wp2_with fail
      refine HV.out.mono ?_
      rintro e w1 ⟨rfl, e1⟩
      go_wp2_with fail
      refine (HI.out _).mono ?_
      rintro e w' ⟨rfl, rfl⟩
      go_wp2
      go_ret2
      exact RetIntsC.of_own (OwnInts.nilv _ _ _) (HE0.out.trans e1) rfl
    | true =>
      have hsb := inB_iff.1 hs
      obtain ⟨⟨a0, a1⟩, ⟨b0, b1⟩, ⟨c0, c1⟩, _⟩ := mouldB_bd hv
      have HF := Lib.hid (fun W => i_firedSizes a b c d s hv hsb.1 hsb.2 W)
      have hc : fsC a b c d s = 0 := by unfold fsC; rw [hv, hs]; rfl
      have hx : fsX a b c d s = fires a b c s := by unfold fsX; rw [hv, hs]; simp
      have H1 := Lib.hid (fire_i64 (n := a) (s := s) (by omega) (by omega) hsb.1 (by omega))
      have H2 := Lib.hid (fire_i64 (n := b) (s := s) (by omega) (by omega) hsb.1 (by omega))
      have H3 := Lib.hid (fire_i64 (n := c) (s := s) (by omega) (by omega) hsb.1 (by omega))
      rw [hc, hx]
      rw [hv] at HV
      rw [hs] at HI
      clear hv hc hx hs
      go_enter Tryz.func9, Tryz.ntmps9
      go_wp2_with fail
      refine HV.out.mono ?_
      rintro e w1 ⟨rfl, e1⟩
      obtain ⟨p0, p1, p2, p3, p4⟩ := four_cells (e1.block HB0.out)
      go_wp2_with fail
      refine (HI.out _).mono ?_
      rintro e w' ⟨rfl, rfl⟩
      go_wp2_with fail
      refine (HF.out _).mono ?_
      rintro e w2 ⟨g, rfl, hg, hgs, e2⟩
      have HG := Lib.hid hg
      have HE := Lib.hid ((HE0.out.trans e1).trans e2)
      have HGS : Hid (w.heap.size ≤ g) := Lib.hid (by have := HE0.out.size; have := e1.size; omega)
      clear hg hgs e2 e1 p0 p1 p2 p3 p4
      go_wp2
      go_ret2
      exact RetIntsC.of_own (own_row3 HG.out HGS.out H1.out H2.out H3.out) HE.out rfl
end Go.Proofs.YtdedamamjkpcpaaGreatDoor
