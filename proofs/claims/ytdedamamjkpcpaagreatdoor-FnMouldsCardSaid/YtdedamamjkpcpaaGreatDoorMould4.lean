/- Contract: the least mould for a format, the program's. -/
import Derived.Test.YtdedamamjkpcpaaGreatDoorMould3
namespace Go.Proofs.YtdedamamjkpcpaaGreatDoor
open Go.RowKit
set_option linter.unusedSimpArgs false
set_option linter.unusedVariables false
set_option linter.unnecessarySimpa false

set_option maxRecDepth 100000 in
set_option maxHeartbeats 4000000 in
theorem i_MouldFor (a b c d s : Int) (w : World) : Calls Tryz.prog 6 #[.agg #[.int .i64 a, .int .i64 b, .int .i64 c, .int .i64 d], .int .i64 s] w (RetMFor a b c d s w) := by
  have HE0 : Hid (Ext w (((w.alloc (.cells #[.int .i64 a, .int .i64 b, .int .i64 c, .int .i64 d] 25)).alloc (.cells #[.int .i64 s] 2)).alloc (.cells #[.int .i64 0, .int .i64 0, .int .i64 0, .int .i64 0] 29))) := Lib.hid ((((Ext.refl w).alloc _).alloc _).alloc _)
  have HB0 : Hid ((((w.alloc (.cells #[.int .i64 a, .int .i64 b, .int .i64 c, .int .i64 d] 25)).alloc (.cells #[.int .i64 s] 2)).alloc (.cells #[.int .i64 0, .int .i64 0, .int .i64 0, .int .i64 0] 29)).heap[w.heap.size]? = some (.cells #[.int .i64 a, .int .i64 b, .int .i64 c, .int .i64 d] 25)) := Lib.hid ((((Ext.refl _).alloc _).alloc _).block (heap_alloc_new w (.cells #[.int .i64 a, .int .i64 b, .int .i64 c, .int .i64 d] 25)))
  have HC0 : Hid ((((w.alloc (.cells #[.int .i64 a, .int .i64 b, .int .i64 c, .int .i64 d] 25)).alloc (.cells #[.int .i64 s] 2)).alloc (.cells #[.int .i64 0, .int .i64 0, .int .i64 0, .int .i64 0] 29)).heap[w.heap.size + 1]? = some (.cells #[.int .i64 s] 2)) := Lib.hid (((Ext.refl _).alloc _).block (by have h := heap_alloc_new (w.alloc (.cells #[.int .i64 a, .int .i64 b, .int .i64 c, .int .i64 d] 25)) (.cells #[.int .i64 s] 2); rwa [show (w.alloc (.cells #[.int .i64 a, .int .i64 b, .int .i64 c, .int .i64 d] 25)).heap.size = w.heap.size + 1 by simp] at h))
  have HR0 : Hid ((((w.alloc (.cells #[.int .i64 a, .int .i64 b, .int .i64 c, .int .i64 d] 25)).alloc (.cells #[.int .i64 s] 2)).alloc (.cells #[.int .i64 0, .int .i64 0, .int .i64 0, .int .i64 0] 29)).heap[w.heap.size + 1 + 1]? = some (.cells #[.int .i64 0, .int .i64 0, .int .i64 0, .int .i64 0] 29)) := Lib.hid (by have h := heap_alloc_new ((w.alloc (.cells #[.int .i64 a, .int .i64 b, .int .i64 c, .int .i64 d] 25)).alloc (.cells #[.int .i64 s] 2)) (.cells #[.int .i64 0, .int .i64 0, .int .i64 0, .int .i64 0] 29); rwa [show ((w.alloc (.cells #[.int .i64 a, .int .i64 b, .int .i64 c, .int .i64 d] 25)).alloc (.cells #[.int .i64 s] 2)).heap.size = w.heap.size + 1 + 1 by simp] at h)
  have HV := Lib.hid (fun W => i_ValidFormat a b c d W)
  have HI := Lib.hid (fun W => i_isShrink s W)
  unfold RetMFor
  cases hv : fmtB a b c d with
  | false =>
    have hc : mforC a b c d s = 1 := by unfold mforC; rw [hv]; rfl
    rw [hc]
    rw [hv] at HV
    clear hv hc
    go_enter Tryz.func6, Tryz.ntmps6
    go_wp2_with fail
    refine (HV.out _).mono ?_
    rintro e w1 ⟨rfl, e1⟩
    obtain ⟨r0, r1, r2, r3, r4, r5, r6, r7, r8⟩ := four_mould (e1.block HR0.out)
    have HE := Lib.hid (HE0.out.trans e1)
    obtain ⟨k0, k1⟩ := one_cell (e1.block HC0.out)
    clear e1
    go_wp2
    refine bodyPost_ret (v := .tuple #[.agg #[.int .i64 0, .int .i64 0, .int .i64 0, .int .i64 0], .int .i64 1]) (by simp [results, Tryz.results6, go_sem, r0, r1, r2, r3]) rfl ?_
    refine ⟨0, 0, 0, rfl, fun h => absurd h (by decide), fun _ => ⟨rfl, rfl, rfl⟩, ?_⟩
    repeat' (first | exact HE.out | (dsimp only; omega) | refine Ext.setCell ?_ ?_ _ | refine Ext.drew ?_)
  | true =>
    cases hs : inB s 0 200 with
    | false =>
      have hc : mforC a b c d s = 2 := by unfold mforC; rw [hv, hs]; rfl
      rw [hc]
      rw [hv] at HV
      rw [hs] at HI
      clear hv hc hs
      go_enter Tryz.func6, Tryz.ntmps6
      go_wp2_with fail
      refine (HV.out _).mono ?_
      rintro e w1 ⟨rfl, e1⟩
      obtain ⟨r0, r1, r2, r3, r4, r5, r6, r7, r8⟩ := four_mould (e1.block HR0.out)
      have HE := Lib.hid (HE0.out.trans e1)
      obtain ⟨k0, k1⟩ := one_cell (e1.block HC0.out)
      clear e1
      go_wp2_with fail
      refine (HI.out _).mono ?_
      rintro e w' ⟨rfl, rfl⟩
      go_wp2
      refine bodyPost_ret (v := .tuple #[.agg #[.int .i64 0, .int .i64 0, .int .i64 0, .int .i64 0], .int .i64 2]) (by simp [results, Tryz.results6, go_sem, r0, r1, r2, r3]) rfl ?_
      refine ⟨0, 0, 0, rfl, fun h => absurd h (by decide), fun _ => ⟨rfl, rfl, rfl⟩, ?_⟩
      repeat' (first | exact HE.out | (dsimp only; omega) | refine Ext.setCell ?_ ?_ _ | refine Ext.drew ?_)
    | true =>
      have hsb := inB_iff.1 hs
      obtain ⟨⟨a0, a1⟩, ⟨b0, b1⟩, ⟨c0, c1⟩, _⟩ := fmtB_bd hv
      have hc : mforC a b c d s = 0 := by unfold mforC; rw [hv, hs]; rfl
      have HL := Lib.hid (fun n (h0 : 30 ≤ n) (h1 : n ≤ 500) W (h : W.cell? ⟨w.heap.size + 1, 0, none⟩ = some (.int .i64 s)) => i_MouldFor_1 (w.heap.size + 1) n s h0 h1 hsb.1 hsb.2 W h)
      rw [hc]
      rw [hv] at HV
      rw [hs] at HI
      clear hv hc hs
      go_enter Tryz.func6, Tryz.ntmps6
      go_wp2_with fail
      refine (HV.out _).mono ?_
      rintro e w1 ⟨rfl, e1⟩
      obtain ⟨r0, r1, r2, r3, r4, r5, r6, r7, r8⟩ := four_mould (e1.block HR0.out)
      obtain ⟨p0, p1, p2, p3, p4⟩ := four_cells (e1.block HB0.out)
      have HE := Lib.hid (HE0.out.trans e1)
      obtain ⟨k0, k1⟩ := one_cell (e1.block HC0.out)
      have HK := Lib.hid (e1.block HC0.out)
      clear e1
      go_wp2_with fail
      refine (HI.out _).mono ?_
      rintro e w' ⟨rfl, rfl⟩
      go_wp2
      go_region_with ((go_at_call 29; refine (HL.out _ ?_ ?_ _ ?_).mono ?_; omega; omega; exact k0; rintro e w' ⟨L, rfl, hL, rfl⟩))
      all_goals
        go_wp2
        refine bodyPost_ret (v := .tuple #[.agg #[.int .i64 _, .int .i64 _, .int .i64 _, .int .i64 0], .int .i64 0]) (by simp [results, Tryz.results6, go_sem, r0, r1, r2, r3]; first | rfl | exact ⟨rfl, rfl, rfl⟩) rfl ?_
        refine ⟨_, _, _, rfl, fun _ => ⟨by assumption, by assumption, by assumption⟩, fun h => absurd rfl h, ?_⟩
        repeat' (first | exact HE.out | (dsimp only; omega) | refine Ext.setCell ?_ ?_ _ | refine Ext.drew ?_)
end Go.Proofs.YtdedamamjkpcpaaGreatDoor
