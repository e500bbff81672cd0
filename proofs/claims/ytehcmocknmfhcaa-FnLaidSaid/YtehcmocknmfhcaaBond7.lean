/- Contracts: a wall that is laid by a bond: both sides; marks in a bond. -/
import Derived.Test.YtehcmocknmfhcaaBond6
namespace Go.Proofs.Ytehcmocknmfhcaa
open Go.RowKit
set_option linter.unusedSimpArgs false
set_option linter.unusedVariables false
set_option linter.unnecessarySimpa false

/-- the row has been written, and nothing else that was there -/
def RetMarked (v : Value) (r : Int) (w : World) (e : Ending) (w' : World) : Prop := e = .returned (.int .i64 r) ∧ w.grownBy w' v.ownBlock
theorem two_of_len {l : List Value} (h : l.length = 2) : ∃ a b, l = [a, b] := by
  match l, h with
  | [x, y], _ => exact ⟨x, y, rfl⟩
set_option maxHeartbeats 800000 in
theorem l_markCourseS (base : Nat) (ao : Option Addr) (n c : Nat) (k : Int) (cs : List Crs) (w : World) (hx : OwnCrss w base (.slice ao n c) cs) (hn : n ≤ 100000000) (k1 : 0 ≤ k) (k2 : k ≤ 100000000) :
    Calls Try.prog 50 #[.slice ao n c, .int .i64 k] w (RetMarked (.slice ao n c) (k + 2 * n) w) := by
  have HX := Lib.hid hx.1
  clear hx
  go_enter Try.func50, Try.ntmps50
  go_wp2
  go_loopw [1, 5] (fun q i wr => ∃ (j : Nat) (rs : List (List Value)), j ≤ n ∧ i = .int .i64 j ∧ q = .int .i64 (k + 2 * j) ∧ Hid (OwnRecs 80 2 wr base (.slice ao n c) rs) ∧ Hid (w.grownBy wr (Value.slice ao n c).ownBlock)) (fun _ i _ => n - (intOf i).toNat)
  case atStart => exact ⟨0, _, Nat.zero_le _, rfl, by simp, HX, Lib.hid (World.grownBy.refl _ _)⟩
  case round =>
    obtain ⟨j, rs, hj, rfl, rfl, HO, HG⟩ := hrel
    by_cases hlt : j < n
    · obtain ⟨g, rfl⟩ : ∃ g, ao = some ⟨g, 0, none⟩ := by
        rcases HO.out.1.2 with ⟨h, _⟩ | ⟨g, cap, cur, h, _⟩
        · simp at h; omega
        · simp at h; exact ⟨g, h.1⟩
      go_wp2_with fail
      refine (l_markText _ (by omega) (by omega) _).mono ?_
      rintro e w1 ⟨rfl, e1⟩
      have HO1 := Lib.hid (HO.out.ext e1)
      have HG1 : Hid (w.grownBy w1 (some g)) := Lib.hid (grown_ext_by HG.out e1)
      clear e1
      obtain ⟨a, b, hab⟩ := two_of_len (flat_split rs HO1.out.2 j (by rw [HO1.out.len]; exact hlt)).2.2
      obtain ⟨d0, d1, f0, f1⟩ := HO1.out.reads2 j hlt hab
      have HP1 := Lib.hid (HO1.out.put j 0 hlt (by omega) (.string (mtx (k + 2 * j))))
      have HG2 : Hid (w.grownBy (w1.setCell ⟨g, j * 2, none⟩ (.string (mtx (k + 2 * j)))) (some g)) := Lib.hid (grown_set_by HG1.out _)
      rw [Nat.add_zero] at HP1
      clear hab
      go_wp2_with fail
      refine (l_markText _ (by omega) (by omega) _).mono ?_
      rintro e w2 ⟨rfl, e2⟩
      have HO2 := Lib.hid (HP1.out.ext e2)
      have HG3 : Hid (w.grownBy w2 (some g)) := Lib.hid (grown_ext_by HG2.out e2)
      clear e2 d0 d1 f0 f1
      obtain ⟨a2, b2, hab2⟩ := two_of_len (flat_split _ HO2.out.2 j (by rw [HO2.out.len]; exact hlt)).2.2
      obtain ⟨d0, d1, f0, f1⟩ := HO2.out.reads2 j hlt hab2
      clear hab2
      go_wp2
      go_roundw
      case rel => exact ⟨j + 1, _, by omega, by go_num, by go_num, Lib.hid (HO2.out.put j 1 hlt (by omega) _), Lib.hid (grown_set_by HG3.out _)⟩
      case measure => simp [intOf]; omega
    · obtain rfl : j = n := by omega
      go_wp2
      go_ret
      exact ⟨rfl, HG.out⟩
theorem grown_alloc_by {w w' : World} {o : Obj} {row : Option Nat} (h : (w.alloc o).grownBy w' row) : w.grownBy w' row :=
  (World.grownBy_alloc w o row).trans h
set_option maxHeartbeats 800000 in
theorem l_markBond (base : Nat) (nm : ByteArray) (ao : Option Addr) (n c : Nat) (k : Int) (cs : List Crs) (w : World) (hx : OwnCrss w base (.slice ao n c) cs) (hn : n ≤ 100000000) (k1 : 0 ≤ k) (k2 : k ≤ 100000000) :
    Calls Try.prog 17 #[.agg #[.string nm, .slice ao n c], .int .i64 k] w (RetMarked (.slice ao n c) (k + 2 * n) w) := by
  have HX := Lib.hid (hx.ext ((Ext.refl w).alloc (.cells #[.string nm, .slice ao n c] 30)))
  clear hx
  go_enter Try.func17, Try.ntmps17
  go_wp2_with (go_at_call 50; refine (l_markCourseS base _ _ _ _ cs _ HX.out hn k1 k2).mono ?_; rintro e w1 ⟨rfl, g1⟩; have HG := Lib.hid (grown_alloc_by g1); clear g1)
  go_ret
  exact ⟨rfl, HG.out⟩
/-- the letters of all courses of a wall -/
def wallF (cs : List Crs) : Nat → Nat → UInt8 := fun k => ltrAt cs (k : Int)
def layAll (F : Nat → Nat → UInt8) (u : Int) (m : Nat) : List ByteArray := (List.range m).map fun k => mkS (layT (F k) u)
def layFit (F : Nat → Nat → UInt8) (u : Int) (m : Nat) : Bool := (List.range m).all fun k => decide ((layT (F k) u).length ≤ 60)
theorem layAll_succ (F : Nat → Nat → UInt8) (u : Int) (m : Nat) : layAll F u (m + 1) = layAll F u m ++ [mkS (layT (F m) u)] := by unfold layAll; rw [List.range_succ, List.map_append]; rfl
theorem layAll_len (F : Nat → Nat → UInt8) (u : Int) (m : Nat) : (layAll F u m).length = m := by simp [layAll]
theorem layFit_succ {F : Nat → Nat → UInt8} {u : Int} {m : Nat} (h : layFit F u m = true) (h2 : ¬ 60 < (layT (F m) u).length) : layFit F u (m + 1) = true := by
  unfold layFit at *; rw [List.range_succ, List.all_append, h]; simp; omega
theorem layFit_no {F : Nat → Nat → UInt8} {u : Int} {m k : Nat} (hk : k < m) (h2 : 60 < (layT (F k) u).length) : layFit F u m = false := by
  unfold layFit; rw [List.all_eq_false]; exact ⟨k, List.mem_range.2 hk, by simp; omega⟩
def lwC (nm : List UInt8) (cs : List Crs) (u m : Int) : Int := if bondB nm cs = true then (if inB u 1 200 = true ∧ inB m 1 40 = true then (if layFit (wallF cs) u m.toNat = true then 0 else 5) else 2) else 1
def lwL (nm : List UInt8) (cs : List Crs) (u m : Int) : List ByteArray := if lwC nm cs u m = 0 then layAll (wallF cs) u m.toNat else []
theorem lwL_len (nm : List UInt8) (cs : List Crs) (u m : Int) : (lwL nm cs u m).length ≤ 40 := by
  unfold lwL
  split
  · rename_i h
    unfold lwC at h
    split at h
    · split at h
      · rename_i h2
        have := inB_iff.1 h2.2
        rw [layAll_len]; omega
      · omega
    · omega
  · simp
set_option maxHeartbeats 3000000 in
theorem i_LayWall (nm : ByteArray) (ao : Option Addr) (n c : Nat) (cs : List Crs) (u m : Int) (w : World) (hn : nm.size ≤ 9223372036854775807) (hx : Crss w ao n cs) :
    Calls Try.prog 15 #[.agg #[.string nm, .slice ao n c], .int .i64 u, .int .i64 m] w (RetStrsC (lwL (bts nm) cs u m) (lwC (bts nm) cs u m) w) := by
  have e0 : Ext w (w.alloc (.cells #[.string nm, .slice ao n c] 30)) := (Ext.refl w).alloc _
  have HO := Lib.hid (fun W (e : Ext w W) => i_ValidBond nm ao n c cs W hn (hx.ext e))
  have H1 := Lib.hid (fun W => i_within u 1 200 W)
  have H2 := Lib.hid (fun W => i_within m 1 40 W)
  have HL : Hid (bondB (bts nm) cs = true → inB u 1 200 = true → ∀ k : Nat, k ≤ 40 → ∀ W, Ext w W → Calls Try.prog 47 #[.agg #[.string nm, .slice ao n c], .int .i64 k, .int .i64 u] W (RetSC (layL (wallF cs k) u) (layCd (wallF cs k) u) W)) := Lib.hid (fun b1 b2 k hk W e => by
    obtain ⟨c1, c2, c3⟩ := bondB_bd b1
    obtain ⟨c4, c5⟩ := inB_iff.1 b2
    have hl := hx.1
    exact i_layCourse nm ao n c cs k u W (hx.ext e) (by omega) (by omega) c3 (by omega) (by omega) c4 c5)
  have HLEN : Hid (bondB (bts nm) cs = true → inB u 1 200 = true → ∀ k : Nat, (layT (wallF cs k) u).length ≤ 1000) := Lib.hid (fun b1 b2 k => by
    obtain ⟨c1, c2, c3⟩ := bondB_bd b1
    obtain ⟨c4, c5⟩ := inB_iff.1 b2
    have := layT_len (f := wallF cs k) (n := u) (ltrAt_q c1 c3 k) (by omega)
    omega)
  have HLL : Hid (lwL (bts nm) cs u m = if lwC (bts nm) cs u m = 0 then layAll (wallF cs) u m.toNat else []) := Lib.hid rfl
  have hC : lwC (bts nm) cs u m = if bondB (bts nm) cs = true then (if inB u 1 200 = true ∧ inB m 1 40 = true then (if layFit (wallF cs) u m.toNat = true then 0 else 5) else 2) else 1 := rfl
  obtain ⟨F, hf⟩ : ∃ F, wallF cs = F := ⟨_, rfl⟩
  rw [hf] at HL HLL HLEN hC
  obtain ⟨cd, hcd⟩ : ∃ cd, lwC (bts nm) cs u m = cd := ⟨_, rfl⟩
  obtain ⟨zs, hzs⟩ : ∃ zs, lwL (bts nm) cs u m = zs := ⟨_, rfl⟩
  rw [hcd] at HLL hC ⊢
  rw [hzs] at HLL ⊢
  clear hx hf hcd hzs
  cases g0 : bondB (bts nm) cs with
  | false =>
    rw [g0] at HO hC
    have HC : Hid (cd = 1) := Lib.hid hC
    clear g0 hC
    go_enter Try.func15, Try.ntmps15
    go_wp2_with (go_at_call 45; refine (HO.out _ e0).mono ?_; rintro e w1 ⟨rfl, e1⟩)
    go_ret2
    exact RetStrsC.of_own (by rw [HLL.out, HC.out]; exact OwnStrs.nilv _ _) (e0.trans e1) HC.out.symm
  | true =>
    have HL2 := Lib.hid (HL.out g0)
    have HLE2 := Lib.hid (HLEN.out g0)
    clear HL HLEN
    rw [g0] at HO hC
    cases g1 : inB u 1 200 with
    | false =>
      rw [g1] at H1 hC
      have HC : Hid (cd = 2) := Lib.hid (by rw [hC]; simp)
      clear g0 g1 hC HL2 HLE2
      go_enter Try.func15, Try.ntmps15
      go_wp2_with (first | (go_at_call 45; refine (HO.out _ e0).mono ?_; rintro e w1 ⟨rfl, e1⟩) | (go_at_call_of 46 (Value.int .i64 200); refine (H1.out _).mono ?_; rintro e w' ⟨rfl, rfl⟩))
      go_ret2
      exact RetStrsC.of_own (by rw [HLL.out, HC.out]; exact OwnStrs.nilv _ _) (e0.trans e1) HC.out.symm
    | true =>
      have HL3 := Lib.hid (HL2.out g1)
      have HLE3 := Lib.hid (HLE2.out g1)
      clear HL2 HLE2
      rw [g1] at H1 hC
      cases g2 : inB m 1 40 with
      | false =>
        rw [g2] at H2 hC
        have HC : Hid (cd = 2) := Lib.hid (by rw [hC]; simp)
        clear g0 g1 g2 hC
        go_enter Try.func15, Try.ntmps15
        go_wp2_with (first | (go_at_call 45; refine (HO.out _ e0).mono ?_; rintro e w1 ⟨rfl, e1⟩) | (go_at_call_of 46 (Value.int .i64 200); refine (H1.out _).mono ?_; rintro e w' ⟨rfl, rfl⟩) | (go_at_call_of 46 (Value.int .i64 40); refine (H2.out _).mono ?_; rintro e w' ⟨rfl, rfl⟩))
        go_ret2
        exact RetStrsC.of_own (by rw [HLL.out, HC.out]; exact OwnStrs.nilv _ _) (e0.trans e1) HC.out.symm
      | true =>
        obtain ⟨m1, m2⟩ := inB_iff.1 g2
        obtain ⟨N, rfl⟩ := Int.eq_ofNat_of_zero_le (show 0 ≤ m by omega)
        rw [g2] at H2 hC
        have HC : Hid (cd = if layFit F u N = true then 0 else 5) := Lib.hid (by rw [hC, Int.toNat_natCast]; simp)
        rw [Int.toNat_natCast] at HLL
        clear g0 g1 g2 hC
        go_enter Try.func15, Try.ntmps15
        go_wp2_with (first | (go_at_call 45; refine (HO.out _ e0).mono ?_; rintro e w1 ⟨rfl, e1⟩; have E1 := Lib.hid (e0.trans e1); have HB1 := Lib.hid (e1.block (heap_alloc_new w (.cells #[.string nm, .slice ao n c] 30))); clear e0 e1) | (go_at_call_of 46 (Value.int .i64 200); refine (H1.out _).mono ?_; rintro e w' ⟨rfl, rfl⟩) | (go_at_call_of 46 (Value.int .i64 40); refine (H2.out _).mono ?_; rintro e w' ⟨rfl, rfl⟩))
        go_loopw [8, 27] (fun v i wr => ∃ j : Nat, j ≤ N ∧ i = .int .i64 j ∧ Hid (OwnStrs wr w1.heap.size v (layAll F u j)) ∧ Hid (layFit F u j = true) ∧ Hid (Ext w1 wr)) (fun _ i _ => N - (intOf i).toNat)
        case atStart => exact ⟨0, Nat.zero_le _, rfl, Lib.hid (OwnStrs.empty (Ext.refl w1)), Lib.hid rfl, Lib.hid ((Ext.refl w1).alloc _)⟩
        case round =>
          obtain ⟨j, hj, rfl, HOW, HF, HE⟩ := hrel
          obtain ⟨q0, q1, _, _, _⟩ := two_cells (HE.out.block HB1.out)
          by_cases hlt : j < N
          · have HLJ := Lib.hid (HL3.out j (by omega))
            have hlen := HLE3.out j
            have HLL1 : Hid (layL (F j) u = if 60 < (layT (F j) u).length then [] else layT (F j) u) := Lib.hid rfl
            have hcc : layCd (F j) u = if 60 < (layT (F j) u).length then 5 else 0 := rfl
            have HAS := Lib.hid (layAll_succ F u j)
            have HFS := Lib.hid (@layFit_succ F u j HF.out)
            have HFN := Lib.hid (@layFit_no F u N j hlt)
            have HAL := Lib.hid (layAll_len F u j)
            have hms := mkS_size (layT (F j) u)
            by_cases hbig : 60 < (layT (F j) u).length
            · have HC5 : Hid (cd = 5) := Lib.hid (by rw [HC.out, HFN.out hbig]; rfl)
              rw [if_pos hbig] at hcc
              rw [hcc] at HLJ
              clear hcc hms
              go_wp2_with (go_at_call 47; refine (HLJ.out _ (E1.out.trans HE.out)).mono ?_; rintro e w2 ⟨rfl, e2⟩)
              go_ret2
              exact RetStrsC.of_own (by rw [HLL.out, HC5.out]; exact OwnStrs.nilv _ _) (E1.out.trans (HE.out.trans e2)) HC5.out.symm
            · rw [if_neg hbig] at hcc
              rw [hcc] at HLJ
              have HTT : Hid (layL (F j) u = layT (F j) u) := Lib.hid (by rw [HLL1.out, if_neg hbig])
              have HFS2 := Lib.hid (HFS.out hbig)
              rw [HTT.out] at HLJ
              obtain ⟨z, hz⟩ : ∃ z, mkS (layT (F j) u) = z := ⟨_, rfl⟩
              rw [hz] at HAS hms
              have HLJ2 : Hid (∀ W, Ext w W → Calls Try.prog 47 #[.agg #[.string nm, .slice ao n c], .int .i64 j, .int .i64 u] W (fun e w' => e = .returned (.tuple #[.string z, .int .i64 0]) ∧ Ext W w')) := Lib.hid (by rw [← hz]; exact HLJ.out)
              have hzs : z.size ≤ 9223372036854775807 := by omega
              clear hcc hms hz HLJ
              go_wp2_with (first
                | (go_at_call 47; refine (HLJ2.out _ (E1.out.trans HE.out)).mono ?_; rintro e w2 ⟨rfl, e2⟩; have E2 := Lib.hid e2; clear e2)
                | (at_builtin; refine wpList_append_str (W := w1) rfl _ _ rfl _ (layAll F u j) z rfl rfl rfl (HOW.out.ext E2.out) (HE.out.trans E2.out) hzs (by rw [HAL.out]; omega) ?_; intro v' w3 ho3 e3; have HO3 := Lib.hid ho3; have HE3 := Lib.hid e3; clear ho3 e3))
              go_roundw
              case rel => exact ⟨j + 1, by omega, by go_num, Lib.hid (by rw [HAS.out]; exact HO3.out), HFS2, HE3⟩
              case measure => (simp [intOf] <;> omega)
          · obtain rfl : j = N := by omega
            have HC0 : Hid (cd = 0) := Lib.hid (by rw [HC.out, HF.out]; rfl)
            go_wp2
            go_ret2
            exact RetStrsC.of_own (by rw [HLL.out, HC0.out, if_pos rfl]; exact HOW.out.mono E1.out.size) (E1.out.trans HE.out) HC0.out.symm
end Go.Proofs.Ytehcmocknmfhcaa
