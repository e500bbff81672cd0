/- Contracts: the least mould for a format, on both sides. -/
import Derived.Test.YtdedamamjkpcpaaGreatDoorMould2
import Derived.Deep.RegionHeld3
import Derived.Deep.DeepCutAuto
namespace Go.Proofs.YtdedamamjkpcpaaGreatDoor
open Go.RowKit
set_option linter.unusedSimpArgs false
set_option linter.unusedVariables false
set_option linter.unnecessarySimpa false

/-- the least size for a size is handed back -/
def RetLst (n s : Int) (w : World) (e : Ending) (w' : World) : Prop := ∃ L, e = .returned (.int .i64 L) ∧ Lst n s L ∧ w = w'
theorem s_l00MaxM (a b : Int) (w : World) : Calls Tryz.prog 60 #[.int .i64 a, .int .i64 b] w (RetV (.int .i64 (if a ≤ b then b else a)) w) := by
  by_cases h : b < a
  · have HV : Hid ((if a ≤ b then b else a) = a) := Lib.hid (if_neg (by omega))
    go_enter Tryz.func60, Tryz.ntmps60
    go_wp2
    go_ret
    exact RetV.mk rfl
  · have HV : Hid ((if a ≤ b then b else a) = b) := Lib.hid (if_pos (by omega))
    go_enter Tryz.func60, Tryz.ntmps60
    go_wp2
    go_ret
    exact RetV.mk rfl
set_option maxHeartbeats 800000 in
theorem s_l05Least (n s : Int) (n0 : 30 ≤ n) (n1 : n ≤ 500) (s0 : 0 ≤ s) (s1 : s ≤ 200) (w : World) : Calls Tryz.prog 33 #[.int .i64 n, .int .i64 s] w (RetLst n s w) := by
  have HF := Lib.hid (fun x (h0 : 0 ≤ x) (h1 : x ≤ 2000) W => s_l05Fired x s h0 h1 s0 (by omega) W)
  have HM := Lib.hid (fun L => s_l00MaxM 30 L w)
  have HT := Lib.hid (fire_top n1 s0 s1)
  have HB := Lib.hid (fun x (h0 : 0 ≤ x) (h : x < n) => fire_low h0 h s0 (by omega))
  go_enter Tryz.func33, Tryz.ntmps33
  go_wp2
  go_loop [5] (fun i => ∃ j : Nat, i = .int .i64 (n + j) ∧ n + j ≤ 800 ∧ Hid (∀ x, 0 ≤ x → x < n + j → fireI x s < n)) (fun i => 800 - (intOf i).toNat)
  case atStart => exact ⟨0, by simp, by omega, Lib.hid (fun x h0 h => HB.out x h0 (by omega))⟩
  case round =>
    obtain ⟨j, rfl, hj, HL⟩ := hrel
    by_cases hf : fireI (n + j) s < n
    · have hlt : n + j < 800 := by
        rcases Int.lt_or_le (n + j) 800 with h | h
        · exact h
        · exfalso
          have e : n + (j : Int) = 800 := by omega
          rw [e] at hf
          have := HT.out
          omega
      have HN : Hid (∀ x, 0 ≤ x → x < n + ((j + 1 : Nat) : Int) → fireI x s < n) := Lib.hid (fun x h0 h => by
        rcases Int.lt_or_le x (n + j) with h1 | h1
        · exact HL.out x h0 h1
        · have e : x = n + j := by omega
          rw [e]; exact hf)
      obtain ⟨fv, hfv⟩ : ∃ v, fireI (n + j) s = v := ⟨_, rfl⟩
      have HF2 := Lib.hid (HF.out (n + j) (by omega) (by omega) w)
      rw [hfv] at HF2 hf
      clear hfv
      go_wp2_with fail
      refine HF2.out.mono ?_
      rintro e w' ⟨rfl, rfl⟩
      go_wp2
      go_round
      case rel => exact ⟨j + 1, by go_num, by omega, HN⟩
      case measure => simp [intOf]; omega
    · have HR : Hid (Lst n s (n + j)) := Lib.hid ⟨by omega, hj, by omega, HL.out⟩
      obtain ⟨fv, hfv⟩ : ∃ v, fireI (n + j) s = v := ⟨_, rfl⟩
      have HF2 := Lib.hid (HF.out (n + j) (by omega) (by omega) w)
      rw [hfv] at HF2 hf
      clear hfv
      go_wp2_with fail
      refine HF2.out.mono ?_
      rintro e w' ⟨rfl, rfl⟩
      go_wp2_with fail
      refine (HM.out (n + j)).mono ?_
      rintro e w' ⟨rfl, rfl⟩
      go_wp2
      go_ret
      exact ⟨n + j, rfl, HR.out, rfl⟩
set_option maxHeartbeats 800000 in
theorem i_MouldFor_1 (cb : Nat) (n s : Int) (n0 : 30 ≤ n) (n1 : n ≤ 500) (s0 : 0 ≤ s) (s1 : s ≤ 200) (w : World) (hc : w.cell? ⟨cb, 0, none⟩ = some (.int .i64 s)) : Calls Tryz.prog 29 #[.int .i64 n, .pointer (some ⟨cb, 0, none⟩)] w (RetLst n s w) := by
  have HF := Lib.hid (fun x (h0 : 0 ≤ x) (h1 : x ≤ 2000) W => i_fired x s h0 h1 s0 (by omega) W)
  have HT := Lib.hid (fire_top n1 s0 s1)
  have HB := Lib.hid (fun x (h0 : 0 ≤ x) (h : x < n) => fire_low h0 h s0 (by omega))
  go_enter Tryz.func29, Tryz.ntmps29
  go_wp2
  go_loop [4] (fun i => ∃ j : Nat, i = .int .i64 (30 + j) ∧ 30 + (j : Int) ≤ 800 ∧ Hid (∀ x, 0 ≤ x → x < 30 + (j : Int) → fireI x s < n)) (fun i => 800 - (intOf i).toNat)
  case atStart => exact ⟨0, by simp, by omega, Lib.hid (fun x h0 h => HB.out x h0 (by omega))⟩
  case round =>
    obtain ⟨j, rfl, hj, HL⟩ := hrel
    by_cases hf : fireI (30 + j) s < n
    · have hlt : 30 + (j : Int) < 800 := by
        rcases Int.lt_or_le (30 + (j : Int)) 800 with h | h
        · exact h
        · exfalso
          have e : 30 + (j : Int) = 800 := by omega
          rw [e] at hf
          have := HT.out
          omega
      have HN : Hid (∀ x, 0 ≤ x → x < 30 + ((j + 1 : Nat) : Int) → fireI x s < n) := Lib.hid (fun x h0 h => by
        rcases Int.lt_or_le x (30 + j) with h1 | h1
        · exact HL.out x h0 h1
        · have e : x = 30 + j := by omega
          rw [e]; exact hf)
      obtain ⟨fv, hfv⟩ : ∃ v, fireI (30 + j) s = v := ⟨_, rfl⟩
      have HF2 := Lib.hid (HF.out (30 + j) (by omega) (by omega) w)
      rw [hfv] at HF2 hf
      clear hfv
      go_wp2_with fail
      refine HF2.out.mono ?_
      rintro e w' ⟨rfl, rfl⟩
      go_wp2
      go_round
      case rel => exact ⟨j + 1, by go_num, by omega, HN⟩
      case measure => simp [intOf]; omega
    · have HR : Hid (Lst n s (30 + j)) := Lib.hid (Lst.of (by omega) s0 (by omega) (by omega) (by omega) hj HL.out)
      obtain ⟨fv, hfv⟩ : ∃ v, fireI (30 + j) s = v := ⟨_, rfl⟩
      have HF2 := Lib.hid (HF.out (30 + j) (by omega) (by omega) w)
      rw [hfv] at HF2 hf
      clear hfv
      go_wp2_with fail
      refine HF2.out.mono ?_
      rintro e w' ⟨rfl, rfl⟩
      go_wp2
      go_ret
      exact ⟨30 + j, rfl, HR.out, rfl⟩
/-- the code of the least mould -/
def mforC (a b c d s : Int) : Int := sel (fmtB a b c d) (sel (inB s 0 200) 0 2) 1
/-- the least mould and a code are handed back -/
def RetMFor (a b c d s : Int) (w : World) (e : Ending) (w' : World) : Prop := ∃ x y z, e = .returned (.tuple #[.agg #[.int .i64 x, .int .i64 y, .int .i64 z, .int .i64 0], .int .i64 (mforC a b c d s)]) ∧ (mforC a b c d s = 0 → Lst a s x ∧ Lst b s y ∧ Lst c s z) ∧ (mforC a b c d s ≠ 0 → x = 0 ∧ y = 0 ∧ z = 0) ∧ Ext w w'
theorem four_mould {w : World} {b : Nat} {x y z u : Value} {T : TypeId} (hb : w.heap[b]? = some (.cells #[x, y, z, u] T (0, 0))) :
    w.cell? ⟨b, 0, none⟩ = some x ∧ w.cell? ⟨b, 1, none⟩ = some y ∧ w.cell? ⟨b, 2, none⟩ = some z ∧ w.cell? ⟨b, 3, none⟩ = some u ∧ w.frozen? ⟨b, 0, none⟩ = false ∧ w.frozen? ⟨b, 1, none⟩ = false ∧ w.frozen? ⟨b, 2, none⟩ = false ∧ w.frozen? ⟨b, 3, none⟩ = false ∧ b < w.heap.size :=
  ⟨by simp [World.cell?, hb], by simp [World.cell?, hb], by simp [World.cell?, hb], by simp [World.cell?, hb], by simp [World.frozen?, hb], by simp [World.frozen?, hb], by simp [World.frozen?, hb], by simp [World.frozen?, hb], lt_of_block hb⟩
theorem one_cell {w : World} {b : Nat} {x : Value} {T : TypeId} (hb : w.heap[b]? = some (.cells #[x] T (0, 0))) : w.cell? ⟨b, 0, none⟩ = some x ∧ b < w.heap.size := ⟨by simp [World.cell?, hb], lt_of_block hb⟩
set_option maxRecDepth 100000 in
set_option maxHeartbeats 4000000 in
theorem s_MouldFor (a b c d s : Int) (w : World) : Calls Tryz.prog 7 #[.agg #[.int .i64 a, .int .i64 b, .int .i64 c, .int .i64 d], .int .i64 s] w (RetMFor a b c d s w) := by
  have HE0 : Hid (Ext w ((w.alloc (.cells #[.int .i64 a, .int .i64 b, .int .i64 c, .int .i64 d] 25)).alloc (.cells #[.int .i64 0, .int .i64 0, .int .i64 0, .int .i64 0] 29))) := Lib.hid (((Ext.refl w).alloc _).alloc _)
  have HB0 : Hid (((w.alloc (.cells #[.int .i64 a, .int .i64 b, .int .i64 c, .int .i64 d] 25)).alloc (.cells #[.int .i64 0, .int .i64 0, .int .i64 0, .int .i64 0] 29)).heap[w.heap.size]? = some (.cells #[.int .i64 a, .int .i64 b, .int .i64 c, .int .i64 d] 25)) := Lib.hid (((Ext.refl _).alloc _).block (heap_alloc_new w (.cells #[.int .i64 a, .int .i64 b, .int .i64 c, .int .i64 d] 25)))
  have HR0 : Hid (((w.alloc (.cells #[.int .i64 a, .int .i64 b, .int .i64 c, .int .i64 d] 25)).alloc (.cells #[.int .i64 0, .int .i64 0, .int .i64 0, .int .i64 0] 29)).heap[w.heap.size + 1]? = some (.cells #[.int .i64 0, .int .i64 0, .int .i64 0, .int .i64 0] 29)) := Lib.hid (by have h := heap_alloc_new (w.alloc (.cells #[.int .i64 a, .int .i64 b, .int .i64 c, .int .i64 d] 25)) (.cells #[.int .i64 0, .int .i64 0, .int .i64 0, .int .i64 0] 29); rwa [show (w.alloc (.cells #[.int .i64 a, .int .i64 b, .int .i64 c, .int .i64 d] 25)).heap.size = w.heap.size + 1 by simp] at h)
  have HV := Lib.hid (fun W => s_l02Ok a b c d W)
  have HI := Lib.hid (fun W => s_l00In s 0 200 W)
  unfold RetMFor
  cases hv : fmtB a b c d with
  | false =>
    have hc : mforC a b c d s = 1 := by unfold mforC; rw [hv]; rfl
    rw [hc]
    rw [hv] at HV
    clear hv hc
    go_enter Tryz.func7, Tryz.ntmps7
    go_wp2_with fail
    refine (HV.out _).mono ?_
    rintro e w1 ⟨rfl, e1⟩
    obtain ⟨r0, r1, r2, r3, r4, r5, r6, r7, r8⟩ := four_mould (e1.block HR0.out)
    have HE := Lib.hid (HE0.out.trans e1)
    clear e1
    go_wp2
    refine bodyPost_ret (v := .tuple #[.agg #[.int .i64 0, .int .i64 0, .int .i64 0, .int .i64 0], .int .i64 1]) (by simp [results, Tryz.results7, go_sem, r0, r1, r2, r3]) rfl ?_
    refine ⟨0, 0, 0, rfl, fun h => absurd h (by decide), fun _ => ⟨rfl, rfl, rfl⟩, ?_⟩
    repeat' (first | exact HE.out | (dsimp only; omega) | refine Ext.setCell ?_ ?_ _ | refine Ext.drew ?_)
  | true =>
    cases hs : inB s 0 200 with
    | false =>
      have hc : mforC a b c d s = 2 := by unfold mforC; rw [hv, hs]; rfl
      rw [hc]
      rw [hv] at HV
      rw [hs] at HI
      clear hv hc hs
      go_enter Tryz.func7, Tryz.ntmps7
      go_wp2_with fail
      refine (HV.out _).mono ?_
      rintro e w1 ⟨rfl, e1⟩
      obtain ⟨r0, r1, r2, r3, r4, r5, r6, r7, r8⟩ := four_mould (e1.block HR0.out)
      have HE := Lib.hid (HE0.out.trans e1)
      clear e1
      go_wp2_with fail
      refine (HI.out _).mono ?_
      rintro e w' ⟨rfl, rfl⟩
      go_wp2
      refine bodyPost_ret (v := .tuple #[.agg #[.int .i64 0, .int .i64 0, .int .i64 0, .int .i64 0], .int .i64 2]) (by simp [results, Tryz.results7, go_sem, r0, r1, r2, r3]) rfl ?_
      refine ⟨0, 0, 0, rfl, fun h => absurd h (by decide), fun _ => ⟨rfl, rfl, rfl⟩, ?_⟩
      repeat' (first | exact HE.out | (dsimp only; omega) | refine Ext.setCell ?_ ?_ _ | refine Ext.drew ?_)
    | true =>
      have hsb := inB_iff.1 hs
      obtain ⟨⟨a0, a1⟩, ⟨b0, b1⟩, ⟨c0, c1⟩, _⟩ := fmtB_bd hv
      have hc : mforC a b c d s = 0 := by unfold mforC; rw [hv, hs]; rfl
      have HL := Lib.hid (fun n (h0 : 30 ≤ n) (h1 : n ≤ 500) W => s_l05Least n s h0 h1 hsb.1 hsb.2 W)
      rw [hc]
      rw [hv] at HV
      rw [hs] at HI
      clear hv hc hs
      go_enter Tryz.func7, Tryz.ntmps7
      go_wp2_with fail
      refine (HV.out _).mono ?_
      rintro e w1 ⟨rfl, e1⟩
      obtain ⟨r0, r1, r2, r3, r4, r5, r6, r7, r8⟩ := four_mould (e1.block HR0.out)
      obtain ⟨p0, p1, p2, p3, p4⟩ := four_cells (e1.block HB0.out)
      have HE := Lib.hid (HE0.out.trans e1)
      clear e1
      go_wp2_with fail
      refine (HI.out _).mono ?_
      rintro e w' ⟨rfl, rfl⟩
      go_wp2
      go_region_with ((go_at_call 33; refine (HL.out _ ?_ ?_ _).mono ?_; omega; omega; rintro e w' ⟨L, rfl, hL, rfl⟩))
      all_goals
        go_wp2
        refine bodyPost_ret (v := .tuple #[.agg #[.int .i64 _, .int .i64 _, .int .i64 _, .int .i64 0], .int .i64 0]) (by simp [results, Tryz.results7, go_sem, r0, r1, r2, r3]; first | rfl | exact ⟨rfl, rfl, rfl⟩) rfl ?_
        refine ⟨_, _, _, rfl, fun _ => ⟨by assumption, by assumption, by assumption⟩, fun h => absurd rfl h, ?_⟩
        repeat' (first | exact HE.out | (dsimp only; omega) | refine Ext.setCell ?_ ?_ _ | refine Ext.drew ?_)
end Go.Proofs.YtdedamamjkpcpaaGreatDoor
