/- Contracts: a wall that is laid by a bond: the reference's. -/
import Derived.Test.YtehcmocknmfhcaaBond7
namespace Go.Proofs.Ytehcmocknmfhcaa
open Go.RowKit
set_option linter.unusedSimpArgs false
set_option linter.unusedVariables false
set_option linter.unnecessarySimpa false

theorem codeB_z (nm : List UInt8) (cs : List Crs) (u : Int) : codeB nm cs 0 u = if bondB nm cs = true then (if inB u 1 200 = true then 0 else 2) else 1 := by
  unfold codeB
  rw [show inB 0 0 1000 = true from rfl]
  simp
set_option maxHeartbeats 3000000 in
theorem s_LayWall (nm : ByteArray) (ao : Option Addr) (n c : Nat) (cs : List Crs) (u m : Int) (w : World) (hn : nm.size ≤ 9223372036854775807) (hx : Crss w ao n cs) :
    Calls Try.prog 14 #[.agg #[.string nm, .slice ao n c], .int .i64 u, .int .i64 m] w (RetStrsC (lwL (bts nm) cs u m) (lwC (bts nm) cs u m) w) := by
  have e0 : Ext w (w.alloc (.cells #[.string nm, .slice ao n c] 30)) := (Ext.refl w).alloc _
  have B0 := Two.new w (.string nm) (.slice ao n c) 30
  have HO := Lib.hid (s_l04Code w.heap.size nm ao n c cs 0 u _ B0 hn (hx.ext e0))
  have H2 := Lib.hid (fun W => s_l00In m 1 40 W)
  have hz := codeB_z (bts nm) cs u
  have HL : Hid (bondB (bts nm) cs = true → inB u 1 200 = true → ∀ k : Nat, k ≤ 40 → ∀ W, Ext (w.alloc (.cells #[.string nm, .slice ao n c] 30)) W → Calls Try.prog 43 #[.pointer (some ⟨w.heap.size, 0, none⟩), .int .i64 k, .int .i64 u] W (RetE (.string (mkS (layT (wallF cs k) u))) W)) := Lib.hid (fun b1 b2 k hk W e => by
    obtain ⟨c1, c2, c3⟩ := bondB_bd b1
    obtain ⟨c4, c5⟩ := inB_iff.1 b2
    have hl := hx.1
    exact s_l06Lay w.heap.size nm ao n c cs k u W (B0.ext e) ((hx.ext e0).ext e) (by omega) (by omega) c3 (by omega) (by omega) c4 c5)
  have HLEN : Hid (bondB (bts nm) cs = true → inB u 1 200 = true → ∀ k : Nat, (layT (wallF cs k) u).length ≤ 1000) := Lib.hid (fun b1 b2 k => by
    obtain ⟨c1, c2, c3⟩ := bondB_bd b1
    obtain ⟨c4, c5⟩ := inB_iff.1 b2
    have := layT_len (f := wallF cs k) (n := u) (ltrAt_q c1 c3 k) (by omega)
    omega)
  have HLL : Hid (lwL (bts nm) cs u m = if lwC (bts nm) cs u m = 0 then layAll (wallF cs) u m.toNat else []) := Lib.hid rfl
  have hC : lwC (bts nm) cs u m = if bondB (bts nm) cs = true then (if inB u 1 200 = true ∧ inB m 1 40 = true then (if layFit (wallF cs) u m.toNat = true then 0 else 5) else 2) else 1 := rfl
  obtain ⟨F, hf⟩ : ∃ F, wallF cs = F := ⟨_, rfl⟩
  rw [hf] at HL HLL HLEN hC
  obtain ⟨cd, hcd⟩ : ∃ cd, lwC (bts nm) cs u m = cd := ⟨_, rfl⟩
  obtain ⟨zs, hzs⟩ : ∃ zs, lwL (bts nm) cs u m = zs := ⟨_, rfl⟩
  rw [hcd] at HLL hC ⊢
  rw [hzs] at HLL ⊢
  clear hx hf hcd hzs B0
  cases g0 : bondB (bts nm) cs with
  | false =>
    rw [g0] at hz hC
    have hz1 : codeB (bts nm) cs 0 u = 1 := hz
    rw [hz1] at HO
    have HC : Hid (cd = 1) := Lib.hid hC
    clear g0 hC hz hz1
    go_enter Try.func14, Try.ntmps14
    go_wp2_with (go_at_call 42; refine HO.out.mono ?_; rintro e w1 ⟨rfl, e1⟩)
    go_ret2
    exact RetStrsC.of_own (by rw [HLL.out, HC.out]; exact OwnStrs.nilv _ _) (e0.trans e1) HC.out.symm
  | true =>
    have HL2 := Lib.hid (HL.out g0)
    have HLE2 := Lib.hid (HLEN.out g0)
    clear HL HLEN
    rw [g0] at hz hC
    cases g1 : inB u 1 200 with
    | false =>
      rw [g1] at hz hC
      have hz1 : codeB (bts nm) cs 0 u = 2 := by rw [hz]; simp
      rw [hz1] at HO
      have HC : Hid (cd = 2) := Lib.hid (by rw [hC]; simp)
      clear g0 g1 hC HL2 HLE2 hz hz1
      go_enter Try.func14, Try.ntmps14
      go_wp2_with (first | (go_at_call 42; refine HO.out.mono ?_; rintro e w1 ⟨rfl, e1⟩))
      go_ret2
      exact RetStrsC.of_own (by rw [HLL.out, HC.out]; exact OwnStrs.nilv _ _) (e0.trans e1) HC.out.symm
    | true =>
      have HL3 := Lib.hid (HL2.out g1)
      have HLE3 := Lib.hid (HLE2.out g1)
      clear HL2 HLE2
      rw [g1] at hz hC
      have hz1 : codeB (bts nm) cs 0 u = 0 := by rw [hz]; simp
      rw [hz1] at HO
      clear hz hz1
      cases g2 : inB m 1 40 with
      | false =>
        rw [g2] at H2 hC
        have HC : Hid (cd = 2) := Lib.hid (by rw [hC]; simp)
        clear g0 g1 g2 hC
        go_enter Try.func14, Try.ntmps14
        go_wp2_with (first | (go_at_call 42; refine HO.out.mono ?_; rintro e w1 ⟨rfl, e1⟩) | (go_at_call 49; refine (H2.out _).mono ?_; rintro e w' ⟨rfl, rfl⟩))
        go_ret2
        exact RetStrsC.of_own (by rw [HLL.out, HC.out]; exact OwnStrs.nilv _ _) (e0.trans e1) HC.out.symm
      | true =>
        obtain ⟨m1, m2⟩ := inB_iff.1 g2
        obtain ⟨N, rfl⟩ := Int.eq_ofNat_of_zero_le (show 0 ≤ m by omega)
        rw [g2] at H2 hC
        have HC : Hid (cd = if layFit F u N = true then 0 else 5) := Lib.hid (by rw [hC, Int.toNat_natCast]; simp)
        rw [Int.toNat_natCast] at HLL
        clear g0 g1 g2 hC
        go_enter Try.func14, Try.ntmps14
        go_wp2_with (first | (go_at_call 42; refine HO.out.mono ?_; rintro e w1 ⟨rfl, e1⟩; have E0 := Lib.hid e0; have E1 := Lib.hid e1; clear e0 e1) | (go_at_call 49; refine (H2.out _).mono ?_; rintro e w' ⟨rfl, rfl⟩))
        go_loopw [9, 10] (fun v i wr => ∃ j : Nat, j ≤ N ∧ i = .int .i64 j ∧ Hid (OwnStrs wr w1.heap.size v (layAll F u j)) ∧ Hid (layFit F u j = true) ∧ Hid (Ext w1 wr)) (fun _ i _ => N - (intOf i).toNat)
        case atStart => exact ⟨0, Nat.zero_le _, rfl, Lib.hid (OwnStrs.empty (Ext.refl w1)), Lib.hid rfl, Lib.hid ((Ext.refl w1).alloc _)⟩
        case round =>
          obtain ⟨j, hj, rfl, HOW, HF, HE⟩ := hrel
          by_cases hlt : j < N
          · have HLJ := Lib.hid (HL3.out j (by omega))
            have hlen := HLE3.out j
            have HAS := Lib.hid (layAll_succ F u j)
            have HFS := Lib.hid (@layFit_succ F u j HF.out)
            have HFN := Lib.hid (@layFit_no F u N j hlt)
            have HAL := Lib.hid (layAll_len F u j)
            have hms := mkS_size (layT (F j) u)
            obtain ⟨z, hz⟩ : ∃ z, mkS (layT (F j) u) = z := ⟨_, rfl⟩
            obtain ⟨zn, hzn⟩ : ∃ zn, (layT (F j) u).length = zn := ⟨_, rfl⟩
            rw [hz] at HAS hms HLJ
            rw [hzn] at hms hlen HFS HFN
            have hzs : z.size ≤ 9223372036854775807 := by omega
            by_cases hbig : 60 < zn
            · have HC5 : Hid (cd = 5) := Lib.hid (by rw [HC.out, HFN.out hbig]; rfl)
              have hb : (60 : Int) < (z.size : Int) := by omega
              clear hms hz hzn hlen
              go_wp2_with (go_at_call 43; refine (HLJ.out _ (E1.out.trans HE.out)).mono ?_; rintro e w2 ⟨rfl, e2⟩)
              go_ret2
              exact RetStrsC.of_own (by rw [HLL.out, HC5.out]; exact OwnStrs.nilv _ _) (E0.out.trans (E1.out.trans (HE.out.trans e2))) HC5.out.symm
            · have HFS2 := Lib.hid (HFS.out hbig)
              have hb : ¬ (60 : Int) < (z.size : Int) := by omega
              clear hms hz hzn hlen
              go_wp2_with (first
                | (go_at_call 43; refine (HLJ.out _ (E1.out.trans HE.out)).mono ?_; rintro e w2 ⟨rfl, e2⟩; have E2 := Lib.hid e2; clear e2)
                | (at_builtin; refine wpList_append_str (W := w1) rfl _ _ rfl _ (layAll F u j) z rfl rfl rfl (HOW.out.ext E2.out) (HE.out.trans E2.out) hzs (by rw [HAL.out]; omega) ?_; intro v' w3 ho3 e3; have HO3 := Lib.hid ho3; have HE3 := Lib.hid e3; clear ho3 e3))
              go_roundw
              case rel => exact ⟨j + 1, by omega, by go_num, Lib.hid (by rw [HAS.out]; exact HO3.out), HFS2, HE3⟩
              case measure => (simp [intOf] <;> omega)
          · obtain rfl : j = N := by omega
            have HC0 : Hid (cd = 0) := Lib.hid (by rw [HC.out, HF.out]; rfl)
            go_wp2
            go_ret2
            exact RetStrsC.of_own (by rw [HLL.out, HC0.out, if_pos rfl]; exact HOW.out.mono (E0.out.trans E1.out).size) (E0.out.trans (E1.out.trans HE.out)) HC0.out.symm
end Go.Proofs.Ytehcmocknmfhcaa
