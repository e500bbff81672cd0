/- Contracts: the sizes of a mould after firing, the reference's side. -/
import Derived.Test.YtdedamamjkpcpaaGreatDoorMould1
import Derived.RegionTactic
import Derived.BigRegion
namespace Go.Proofs.YtdedamamjkpcpaaGreatDoor
open Go.RowKit
set_option linter.unusedSimpArgs false
set_option linter.unusedVariables false
set_option linter.unnecessarySimpa false

/-- a mould lies in a block -/
abbrev MBox (w : World) (pb : Nat) (a b c d : Int) : Prop := w.heap[pb]? = some (.cells #[.int .i64 a, .int .i64 b, .int .i64 c, .int .i64 d] 29 (0, 0))
set_option maxHeartbeats 1600000 in
theorem s_l05Sizes (pb : Nat) (a b c d : Int) (w : World) (hB : MBox w pb a b c d) : Calls Tryz.prog 62 #[.pointer (some ⟨pb, 0, none⟩)] w (RetRow3 a b c w) := by
  obtain ⟨p0, p1, p2, p3, p4⟩ := four_cells hB
  go_enter Tryz.func62, Tryz.ntmps62
  go_wp2
  go_region
  all_goals
    go_wp2
    go_ret
    exact ⟨w.heap.size, rfl, heap_alloc_new w (.cells #[.int .i64 a, .int .i64 b, .int .i64 c] 2), Nat.le_refl _, by first | exact ((Ext.refl w).alloc _).drew | exact (Ext.refl w).drew.alloc _⟩
/-- the first integer of an empty row: it goes into a new block -/
theorem wpList_append_first {W w0 w : World} {ops : Array Oper} {rest : List Oper} {o : Oper} {a : Act} {Q : Exit → Act → World → Prop} (hgd : o.guard = none) (s x : Operand)
    (ho : o.op = .call { callee := .builtin .append, args := #[s, x], argTypes := #[33, 33] })
    (b : Nat) (y : Int) (hs : a.eval s = .slice (some ⟨b, 0, none⟩) 0 0) (hw : w = w0.alloc (.cells #[.int .i64 y] 2)) (hx : a.eval x = .slice (some ⟨w0.heap.size, 0, none⟩) 1 1)
    (e : Ext W w0) (hy : IsI64 y)
    (h : ∀ v' w', OwnInts 2 w' W.heap.size v' [y] → Ext W w' → wpList Tryz.prog ops Q rest (a.put o.dst v') w') : wpList Tryz.prog ops Q (o :: rest) a w := by
  obtain ⟨i0, hi, hz0, hz1, hz2⟩ := info_parts info_i64
  have hfit : Builtin.nextslicecap (0 + 1) 0 * i0.bytes ≤ 281474976710656 := growslice_fits (by omega) (by rw [hz2]; decide)
  have hr := run_append_grow (P := Tryz.prog) (w := w) 33 o.type 2 i0 (.int .i64 0) Tryz.underlying33 hi hz0 ⟨b, 0, none⟩ 0 0 [] (by simp) (by simp) ⟨w0.heap.size, 0, none⟩ 1 1 [.int .i64 y] (by simp [hz1]) (by subst hw; exact cell_one_new _ _ _) (by omega) (by decide) hfit
  have hge := grownCap_ge w (0 + 1) 0 2
  have hcm := grownCap_le_maxLen w (0 + 1) 0 2 (by unfold maxLen; omega)
  have hsz : W.heap.size ≤ w.heap.size := by subst hw; have := e.size; simp; omega
  obtain ⟨cp, hcp⟩ : ∃ c, grownCap w (0 + 1) 0 2 = c := ⟨_, rfl⟩
  rw [hcp] at hr hge hcm
  clear hcp
  refine wpList_plain hgd fun _ hK => ?_
  unfold Oper.wp execOp
  simp only [ho, resolve, invoke, builtin, Sem.run_bind, Sem.run_pure, Result.andThen_ok, List.map_toArray, List.map_cons, List.map_nil, hs, hx, hr]
  refine hK _ _ (h _ _ ⟨⟨rfl, .inr ⟨w.heap.size, _, _, rfl, hsz, heap_alloc_new w.drew _, hge, hcm, ?_, ?_⟩⟩, fun z hz => ?_⟩ ?_)
  · simp [Builtin.zeroCells, Value.cells]
    omega
  · simp
  · simp at hz; subst hz; exact hy
  · subst hw; exact (e.alloc _).drew.alloc _
def mixA (a b c s : Int) (j : Nat) : List Int := (fires a b c s).take j
set_option maxHeartbeats 1600000 in
theorem s_l05All (pb : Nat) (a b c d s : Int) (h : mouldB a b c d = true) (s0 : 0 ≤ s) (s1 : s ≤ 200) (w : World) (hB : MBox w pb a b c d) : Calls Tryz.prog 38 #[.pointer (some ⟨pb, 0, none⟩), .int .i64 s] w (RetInts (fires a b c s) w) := by
  obtain ⟨⟨a0, a1⟩, ⟨b0, b1⟩, ⟨c0, c1⟩, _⟩ := mouldB_bd h
  have e0 : Ext w (w.alloc (.cells #[] 2)) := (Ext.refl w).alloc _
  have HS := Lib.hid (s_l05Sizes pb a b c d (w.alloc (.cells #[] 2)) (e0.block hB))
  have HF := Lib.hid (fun n (h0 : 0 ≤ n) (h1 : n ≤ 2000) W => s_l05Fired n s h0 h1 s0 (by omega) W)
  have HI := Lib.hid (fun n (h0 : 0 ≤ n) (h1 : n ≤ 2000) => fire_i64 (n := n) (s := s) h0 h1 s0 (by omega))
  have HE0 := Lib.hid e0
  have HO0 := Lib.hid (OwnInts.empty (E := 2) (Ext.refl w))
  clear h e0 hB
  go_enter Tryz.func38, Tryz.ntmps38
  go_wp2_with fail
  refine HS.out.mono ?_
  rintro e w1 ⟨g, rfl, hg, hgs, e1⟩
  have HE1 := Lib.hid (HE0.out.trans e1)
  have HO1 := Lib.hid (HO0.out.ext e1)
  have HG1 := Lib.hid hg
  clear hg hgs e1 HS HE0 HO0
  go_wp2
  go_loopw [5, 7] (fun v i wr => ∃ j : Nat, j ≤ 3 ∧ i = .int .i64 j ∧ (j = 0 → v = .slice (some ⟨w.heap.size, 0, none⟩) 0 0) ∧ Hid (1 ≤ j → OwnInts 2 wr w1.heap.size v (mixA a b c s j)) ∧ Hid (Ext w1 wr)) (fun _ i _ => 3 - (intOf i).toNat)
  case atStart => exact ⟨0, by omega, rfl, fun _ => rfl, Lib.hid (fun h => absurd h (by decide)), Lib.hid (Ext.refl _)⟩
  case round =>
    obtain ⟨j, hj, rfl, hv0, HO, HE⟩ := hrel
    obtain ⟨q0, q1, q2, f0, f1, f2, hl⟩ := three_cellsM (HE.out.block HG1.out)
    have h3 : j = 0 ∨ j = 1 ∨ j = 2 ∨ j = 3 := by omega
    rcases h3 with rfl | rfl | rfl | rfl
    · obtain rfl := hv0 rfl
      have HY := Lib.hid (HI.out a (by omega) (by omega))
      go_wp2_with fail
      refine (HF.out a (by omega) (by omega) _).mono ?_
      rintro e w' ⟨rfl, rfl⟩
      go_wp2_with (at_builtin; refine wpList_append_first (W := w1) rfl _ _ rfl w.heap.size (fireI a s) rfl rfl rfl HE.out HY.out ?_; intro v' w4 ho4 e4; have HO4 := Lib.hid ho4; have HE4 := Lib.hid e4; clear ho4 e4)
      go_roundw
      case rel => exact ⟨1, by omega, rfl, fun h => absurd h (by decide), Lib.hid (fun _ => HO4.out), HE4⟩
      case measure => simp [intOf]
    · have HO1 := Lib.hid (HO.out (by decide))
      have HY := Lib.hid (HI.out b (by omega) (by omega))
      clear hv0 HO
      go_wp2_with fail
      refine (HF.out b (by omega) (by omega) _).mono ?_
      rintro e w' ⟨rfl, rfl⟩
      go_wp2_with (at_builtin; refine wpList_append_int (W := w1) rfl _ _ rfl _ [fireI a s] (fireI b s) rfl rfl rfl HO1.out HE.out HY.out (by simp) ?_; intro v' w4 ho4 e4; have HO4 := Lib.hid ho4; have HE4 := Lib.hid e4; clear ho4 e4)
      go_roundw
      case rel => exact ⟨2, by omega, rfl, fun h => absurd h (by decide), Lib.hid (fun _ => HO4.out), HE4⟩
      case measure => simp [intOf]
    · have HO1 := Lib.hid (HO.out (by decide))
      have HY := Lib.hid (HI.out c (by omega) (by omega))
      clear hv0 HO
      go_wp2_with fail
      refine (HF.out c (by omega) (by omega) _).mono ?_
      rintro e w' ⟨rfl, rfl⟩
      go_wp2_with (at_builtin; refine wpList_append_int (W := w1) rfl _ _ rfl _ [fireI a s, fireI b s] (fireI c s) rfl rfl rfl HO1.out HE.out HY.out (by simp) ?_; intro v' w4 ho4 e4; have HO4 := Lib.hid ho4; have HE4 := Lib.hid e4; clear ho4 e4)
      go_roundw
      case rel => exact ⟨3, by omega, rfl, fun h => absurd h (by decide), Lib.hid (fun _ => HO4.out), HE4⟩
      case measure => simp [intOf]
    · have HO1 := Lib.hid (HO.out (by decide))
      clear hv0 HO
      go_wp2
      go_ret
      exact RetInts.of_own (HO1.out.mono HE1.out.size) (HE1.out.trans HE.out)
set_option maxHeartbeats 1600000 in
theorem s_FiredSize (a b c d s : Int) (w : World) : Calls Tryz.prog 10 #[.agg #[.int .i64 a, .int .i64 b, .int .i64 c, .int .i64 d], .int .i64 s] w (RetIntsC (fsX a b c d s) (fsC a b c d s) w) := by
  have e0 : Ext w (w.alloc (.cells #[.int .i64 a, .int .i64 b, .int .i64 c, .int .i64 d] 29)) := (Ext.refl w).alloc _
  have hb0 := heap_alloc_new w (.cells #[.int .i64 a, .int .i64 b, .int .i64 c, .int .i64 d] 29)
  have HV := Lib.hid (s_l05One w.heap.size a b c d _ hb0)
  have HI := Lib.hid (fun W => s_l00In s 0 200 W)
  have HE0 := Lib.hid e0
  cases hv : mouldB a b c d with
  | false =>
    have hc : fsC a b c d s = 1 := by unfold fsC; rw [hv]; rfl
    have hx : fsX a b c d s = [] := by unfold fsX; rw [hv]; simp
    rw [hc, hx]
    rw [hv] at HV
    clear hv hc hx hb0 e0
    go_enter Tryz.func10, Tryz.ntmps10
    go_wp2_with fail
    refine HV.out.mono ?_
    rintro e w' ⟨rfl, rfl⟩
    go_wp2
    go_ret2
    exact RetIntsC.of_own (OwnInts.nilv _ _ _) HE0.out rfl
  | true =>
    cases hs : inB s 0 200 with
    | false =>
      have hc : fsC a b c d s = 2 := by unfold fsC; rw [hv, hs]; rfl
      have hx : fsX a b c d s = [] := by unfold fsX; rw [hs]; simp
      rw [hc, hx]
      rw [hv] at HV
      rw [hs] at HI
      clear hv hc hx hs hb0 e0
      go_enter Tryz.func10, Tryz.ntmps10
      go_wp2_with fail
      refine HV.out.mono ?_
      rintro e w' ⟨rfl, rfl⟩
      go_wp2_with fail
      refine (HI.out _).mono ?_
      rintro e w' ⟨rfl, rfl⟩
      go_wp2
      go_ret2
      exact RetIntsC.of_own (OwnInts.nilv _ _ _) HE0.out rfl
    | true =>
      have hsb := inB_iff.1 hs
      have HA := Lib.hid (s_l05All w.heap.size a b c d s hv hsb.1 hsb.2 _ hb0)
      have hc : fsC a b c d s = 0 := by unfold fsC; rw [hv, hs]; rfl
      have hx : fsX a b c d s = fires a b c s := by unfold fsX; rw [hv, hs]; simp
      rw [hc, hx]
      rw [hv] at HV
      rw [hs] at HI
      clear hv hc hx hs hb0 e0
      go_enter Tryz.func10, Tryz.ntmps10
      go_wp2_with fail
      refine HV.out.mono ?_
      rintro e w' ⟨rfl, rfl⟩
      go_wp2_with fail
      refine (HI.out _).mono ?_
      rintro e w' ⟨rfl, rfl⟩
      go_wp2_with fail
      refine HA.out.mono ?_
      rintro e w2 ⟨a2, c2, rfl, o2, e2⟩
      have HO := Lib.hid (o2.mono HE0.out.size)
      have HE := Lib.hid (HE0.out.trans e2)
      clear o2 e2
      go_wp2
      go_ret2
      exact RetIntsC.of_own HO.out HE.out rfl
end Go.Proofs.YtdedamamjkpcpaaGreatDoor
