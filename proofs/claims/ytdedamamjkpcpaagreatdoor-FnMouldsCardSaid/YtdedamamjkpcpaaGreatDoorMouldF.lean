/- Contracts: a format is drawn, and bent seldom. -/
import Derived.Test.YtdedamamjkpcpaaGreatDoorMouldD
namespace Go.Proofs.YtdedamamjkpcpaaGreatDoor
open Go.RowKit
set_option linter.unusedSimpArgs false
set_option linter.unusedVariables false
set_option linter.unnecessarySimpa false

set_option maxRecDepth 100000 in
set_option maxHeartbeats 4000000 in
theorem s_l02Draw {g : Nat} {ao : Option Addr} {n c : Nat} {bs : List UInt8} {W0 : World} {B : Nat} (hB : B ≤ 2800000000000000000) (w : World) (h : DS g ao n c bs W0 B w) :
    Calls Tryz.prog 58 #[.pointer (some ⟨g, 0, none⟩)] w (RetD4 (fun x y z u => IsI64 y) g ao n c bs W0 (B + 10) w) := by
  have HP := Lib.hid (fun (N : Int) (h1 : 1 ≤ N) (h2 : N ≤ 1000000) (B : Nat) (hB : B ≤ 2900000000000000000) (W : World) (h : DS g ao n c bs W0 B W) => pickD N h1 h2 hB h)
  have HO := Lib.hid (fun (N : Int) (h1 : 1 ≤ N) (h2 : N ≤ 1000000) (B : Nat) (hB : B ≤ 2900000000000000000) (W : World) (h : DS g ao n c bs W0 B W) => oneD N h1 h2 hB h)
  have HG := Lib.hid h.low.2
  have HD := Lib.hid (h.ext ((Ext.refl w).alloc (.cells #[.int .i64 0, .int .i64 0, .int .i64 0, .int .i64 0] 25)))
  clear h
  go_enter Tryz.func58, Tryz.ntmps58
  go_wp2_with fail
  refine (HP.out 30 (by decide) (by decide) _ (by omega) _ HD.out).mono ?_
  rintro e w1 ⟨q1, rfl, a1, a2, d1, g1⟩
  have L1 := LB.first rfl HG.out d1 g1 0 (90 + q1) 0 0
  have HL1 := Lib.hid L1
  obtain ⟨⟨p0, p1, p2, p3⟩, ⟨f0, f1, f2, f3⟩, pl⟩ := L1.cells
  clear L1 HD d1 g1
  go_wp2_with fail
  refine (HP.out 13 (by decide) (by decide) _ (by omega) _ HL1.out.ds).mono ?_
  rintro e w2 ⟨q2, rfl, b1, b2, d2, g2⟩
  have L2 := HL1.out.go d2 g2
  have HL2 := Lib.hid (L2.set 3 (.int .i64 q2) (x' := 0) (y' := 90 + q1) (z' := 0) (u' := q2) rfl)
  clear p0 p1 p2 p3 f0 f1 f2 f3 pl
  obtain ⟨⟨p0, p1, p2, p3⟩, ⟨f0, f1, f2, f3⟩, pl⟩ := L2.cells
  clear L2 HL1 d2 g2
  go_wp2_with fail
  refine (HP.out 40 (by decide) (by decide) _ (by omega) _ HL2.out.ds).mono ?_
  rintro e w3 ⟨q3, rfl, c1, c2, d3, g3⟩
  have L3 := HL2.out.go d3 g3
  have HL3 := Lib.hid ((L3.set 2 (.int .i64 (50 + q3)) (x' := 0) (y' := 90 + q1) (z' := 50 + q3) (u' := q2) rfl).set 0 (.int .i64 (2 * (90 + q1) + q2)) (x' := 2 * (90 + q1) + q2) (y' := 90 + q1) (z' := 50 + q3) (u' := q2) rfl)
  clear p0 p1 p2 p3 f0 f1 f2 f3 pl
  obtain ⟨⟨p0, p1, p2, p3⟩, ⟨f0, f1, f2, f3⟩, pl⟩ := L3.cells
  clear L3 HL2 d3 g3
  go_wp2_with fail
  refine (HO.out 3 (by decide) (by decide) _ (by omega) _ HL3.out.ds).mono ?_
  rintro e w4 ⟨b, rfl, d4, g4⟩
  have L4 := HL3.out.go d4 g4
  have HL4 := Lib.hid L4
  have HY : Hid (IsI64 (90 + q1)) := Lib.hid (by unfold IsI64; omega)
  clear p0 p1 p2 p3 f0 f1 f2 f3 pl
  obtain ⟨⟨p0, p1, p2, p3⟩, ⟨f0, f1, f2, f3⟩, pl⟩ := L4.cells
  obtain ⟨⟨r0, r1, r2, r3⟩, ⟨s0, s1, s2, s3⟩, rl⟩ := L4.resc
  have hne : w1.heap.size ≠ w.heap.size := fun e => L4.low.2.2.2.2.1 e.symm
  clear L4 HL3 d4 g4
  cases b with
  | false =>
    go_wp2
    refine bodyPost_ret (v := .agg #[.int .i64 (2 * (90 + q1) + q2), .int .i64 (90 + q1), .int .i64 (50 + q3), .int .i64 q2]) (by simp [results, Tryz.results58, go_sem, r0, r1, r2, r3]) rfl ?_
    exact HL4.out.fin HY.out (by omega) _ _ _ _
  | true =>
    have HD4 := Lib.hid (HP.out 30 (by decide) (by decide) _ (by omega) _ (HL4.out.ext (Ext.refl w4).drew).ds)
    clear r0 r1 r2 r3 s0 s1 s2 s3 rl
    go_wp2
    go_region_with (first
      | (go_at_call 40; refine HD4.out.mono ?_; rintro e w5 ⟨q5, rfl, k1, k2, d5, g5⟩; have L5 := (HL4.out.ext (Ext.refl w4).drew).go d5 g5; have HL5 := Lib.hid (L5.set 0 (.int .i64 (2 * (90 + q1) + q2 + q5)) (x' := 2 * (90 + q1) + q2 + q5) (y' := 90 + q1) (z' := 50 + q3) (u' := q2) rfl); obtain ⟨⟨m0, m1, m2, m3⟩, ⟨n0, n1, n2, n3⟩, nl⟩ := L5.cells; obtain ⟨⟨r0, r1, r2, r3⟩, ⟨s0, s1, s2, s3⟩, rl⟩ := L5.resc; clear L5 d5 g5))
    all_goals
      go_wp2
      refine bodyPost_ret (v := .agg #[.int .i64 (2 * (90 + q1) + q2 + q5), .int .i64 (90 + q1), .int .i64 (50 + q3), .int .i64 q2]) (by simp [results, Tryz.results58, go_sem, r0, r1, r2, r3, hne]) rfl ?_
      exact HL5.out.fin HY.out (by omega) _ _ _ _
def l_w6 : List Int := [49, 50, 250, 251]
theorem l_w6_ok : ∀ x ∈ l_w6, IsI64 x := fun x hx => by
  simp [l_w6] at hx
  unfold IsI64
  omega
def l_h6 : List Int := [29, 30, 150, 151]
theorem l_h6_ok : ∀ x ∈ l_h6, IsI64 x := fun x hx => by
  simp [l_h6] at hx
  unfold IsI64
  omega
def l_j6 : List Int := [-1, 0, 20, 21, 9223372036854775807]
theorem l_j6_ok : ∀ x ∈ l_j6, IsI64 x := fun x hx => by
  simp [l_j6] at hx
  unfold IsI64
  omega
def l_l6 (y : Int) : List Int := [99, 100, 500, 501, y, -9223372036854775808]
theorem l_l6_ok {y : Int} (h : IsI64 y) : ∀ x ∈ l_l6 y, IsI64 x := fun x hx => by
  simp [l_l6] at hx
  unfold IsI64 at *
  omega
set_option maxRecDepth 100000 in
set_option maxHeartbeats 4000000 in
theorem s_l02Bent {g : Nat} {ao : Option Addr} {n c : Nat} {bs : List UInt8} {W0 : World} {B : Nat} (hB : B ≤ 2700000000000000000) (w : World) (h : DS g ao n c bs W0 B w) :
    Calls Tryz.prog 25 #[.pointer (some ⟨g, 0, none⟩)] w (RetD4 (fun _ _ _ _ => True) g ao n c bs W0 (B + 14) w) := by
  have HG := Lib.hid h.low.2
  have HN := Lib.hid (s_l02Draw (by omega) _ (h.ext ((Ext.refl w).alloc (.cells #[.int .i64 0, .int .i64 0, .int .i64 0, .int .i64 0] 25))))
  clear h
  go_enter Tryz.func25, Tryz.ntmps25
  go_wp2_with fail
  refine HN.out.mono ?_
  rintro e w1 ⟨x, y, z, u, rfl, hy, d1, g1⟩
  have L1 := LB.first rfl HG.out d1 g1 x y z u
  have HL1 := Lib.hid L1
  have HP := Lib.hid (pickD (g := g) (ao := ao) (n := n) (c := c) (bs := bs) (W0 := W0) 20 (by decide) (by decide) (by omega) L1.ds)
  have HY := Lib.hid hy
  clear L1 d1 g1 HN hy
  go_wp2_with fail
  refine HP.out.mono ?_
  rintro e w2 ⟨q, rfl, a1, a2, d2, g2⟩
  have L2 := HL1.out.go d2 g2
  have HL2 := Lib.hid L2
  obtain ⟨⟨p0, p1, p2, p3⟩, ⟨f0, f1, f2, f3⟩, pl⟩ := L2.cells
  have HA := Lib.hid (fun (ys : List Int) (hi : ∀ x ∈ ys, IsI64 x) (cs : Array Value) (hcs : cs = (ys.map (Value.int .i64)).toArray) (m : Nat) (hm : ys.length = m) (hm1 : 1 ≤ m) (hm2 : m ≤ 200) => L_among ys hi cs hcs m hm hm1 hm2 (by omega) d2)
  have hq : q = 0 ∨ q = 1 ∨ q = 2 ∨ q = 3 ∨ 4 ≤ q := by omega
  rcases hq with rfl | rfl | rfl | rfl | hq
  · clear L2 d2 g2 HL1 HP
    go_wp2_with fail
    refine (HA.out (l_l6 y) (l_l6_ok HY.out) _ (by rfl) 6 rfl (by decide) (by decide)).mono ?_
    rintro e w3 ⟨v, rfl, hv, d3, g3⟩
    have L3 := (HL2.out.ext ((Ext.refl _).alloc _)).go d3 g3
    have HL3 := Lib.hid (L3.set 0 (.int .i64 v) (x' := v) (y' := y) (z' := z) (u' := u) rfl)
    clear p0 p1 p2 p3 f0 f1 f2 f3 pl
    obtain ⟨⟨p0, p1, p2, p3⟩, ⟨f0, f1, f2, f3⟩, pl⟩ := L3.cells
    obtain ⟨⟨r0, r1, r2, r3⟩, ⟨s0, s1, s2, s3⟩, rl⟩ := L3.resc
    have hne : w1.heap.size ≠ w.heap.size := fun e => L3.low.2.2.2.2.1 e.symm
    clear L3 d3 g3 hv HA HL2
    go_wp2
    refine bodyPost_ret (v := .agg #[.int .i64 v, .int .i64 y, .int .i64 z, .int .i64 u]) (by simp [results, Tryz.results25, go_sem, r0, r1, r2, r3, hne]) rfl ?_
    exact HL3.out.fin trivial (by omega) _ _ _ _
  · clear L2 d2 g2 HL1 HP
    go_wp2_with fail
    refine (HA.out l_w6 l_w6_ok _ (by rfl) 4 rfl (by decide) (by decide)).mono ?_
    rintro e w3 ⟨v, rfl, hv, d3, g3⟩
    have L3 := (HL2.out.ext ((Ext.refl _).alloc _)).go d3 g3
    have HL3 := Lib.hid (L3.set 1 (.int .i64 v) (x' := x) (y' := v) (z' := z) (u' := u) rfl)
    clear p0 p1 p2 p3 f0 f1 f2 f3 pl
    obtain ⟨⟨p0, p1, p2, p3⟩, ⟨f0, f1, f2, f3⟩, pl⟩ := L3.cells
    obtain ⟨⟨r0, r1, r2, r3⟩, ⟨s0, s1, s2, s3⟩, rl⟩ := L3.resc
    have hne : w1.heap.size ≠ w.heap.size := fun e => L3.low.2.2.2.2.1 e.symm
    clear L3 d3 g3 hv HA HL2
    go_wp2
    refine bodyPost_ret (v := .agg #[.int .i64 x, .int .i64 v, .int .i64 z, .int .i64 u]) (by simp [results, Tryz.results25, go_sem, r0, r1, r2, r3, hne]) rfl ?_
    exact HL3.out.fin trivial (by omega) _ _ _ _
  · clear L2 d2 g2 HL1 HP
    go_wp2_with fail
    refine (HA.out l_h6 l_h6_ok _ (by rfl) 4 rfl (by decide) (by decide)).mono ?_
    rintro e w3 ⟨v, rfl, hv, d3, g3⟩
    have L3 := (HL2.out.ext ((Ext.refl _).alloc _)).go d3 g3
    have HL3 := Lib.hid (L3.set 2 (.int .i64 v) (x' := x) (y' := y) (z' := v) (u' := u) rfl)
    clear p0 p1 p2 p3 f0 f1 f2 f3 pl
    obtain ⟨⟨p0, p1, p2, p3⟩, ⟨f0, f1, f2, f3⟩, pl⟩ := L3.cells
    obtain ⟨⟨r0, r1, r2, r3⟩, ⟨s0, s1, s2, s3⟩, rl⟩ := L3.resc
    have hne : w1.heap.size ≠ w.heap.size := fun e => L3.low.2.2.2.2.1 e.symm
    clear L3 d3 g3 hv HA HL2
    go_wp2
    refine bodyPost_ret (v := .agg #[.int .i64 x, .int .i64 y, .int .i64 v, .int .i64 u]) (by simp [results, Tryz.results25, go_sem, r0, r1, r2, r3, hne]) rfl ?_
    exact HL3.out.fin trivial (by omega) _ _ _ _
  · clear L2 d2 g2 HL1 HP
    go_wp2_with fail
    refine (HA.out l_j6 l_j6_ok _ (by rfl) 5 rfl (by decide) (by decide)).mono ?_
    rintro e w3 ⟨v, rfl, hv, d3, g3⟩
    have L3 := (HL2.out.ext ((Ext.refl _).alloc _)).go d3 g3
    have HL3 := Lib.hid (L3.set 3 (.int .i64 v) (x' := x) (y' := y) (z' := z) (u' := v) rfl)
    clear p0 p1 p2 p3 f0 f1 f2 f3 pl
    obtain ⟨⟨p0, p1, p2, p3⟩, ⟨f0, f1, f2, f3⟩, pl⟩ := L3.cells
    obtain ⟨⟨r0, r1, r2, r3⟩, ⟨s0, s1, s2, s3⟩, rl⟩ := L3.resc
    have hne : w1.heap.size ≠ w.heap.size := fun e => L3.low.2.2.2.2.1 e.symm
    clear L3 d3 g3 hv HA HL2
    go_wp2
    refine bodyPost_ret (v := .agg #[.int .i64 x, .int .i64 y, .int .i64 z, .int .i64 v]) (by simp [results, Tryz.results25, go_sem, r0, r1, r2, r3, hne]) rfl ?_
    exact HL3.out.fin trivial (by omega) _ _ _ _
  · have k0 : (q == 0) = false := by simp; omega
    have k1 : (q == 1) = false := by simp; omega
    have k2 : (q == 2) = false := by simp; omega
    have k3 : (q == 3) = false := by simp; omega
    obtain ⟨⟨r0, r1, r2, r3⟩, ⟨s0, s1, s2, s3⟩, rl⟩ := L2.resc
    clear L2 d2 g2 HL1 HP HA
    go_wp2
    refine bodyPost_ret (v := .agg #[.int .i64 x, .int .i64 y, .int .i64 z, .int .i64 u]) (by simp [results, Tryz.results25, go_sem, r0, r1, r2, r3]) rfl ?_
    exact HL2.out.fin trivial (by omega) _ _ _ _
end Go.Proofs.YtdedamamjkpcpaaGreatDoor
