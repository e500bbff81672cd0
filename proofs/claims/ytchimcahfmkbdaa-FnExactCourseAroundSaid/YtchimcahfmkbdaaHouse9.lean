/- Two stretches between places of a plan meet: both sides. -/
import Derived.Test.YtchimcahfmkbdaaHouse8
import Derived.Lib.MinMax
namespace Go.Proofs.Ytchimcahfmkbdaa
open Go.RowKit
set_option linter.unusedSimpArgs false
set_option linter.unusedVariables false
set_option linter.unnecessarySimpa false

def PtC (w : World) (g : Nat) (p : Int × Int) : Prop := w.cell? ⟨g, 0, none⟩ = some (.int .i64 p.1) ∧ w.cell? ⟨g, 1, none⟩ = some (.int .i64 p.2)
theorem PtC.ext {w w' : World} {g : Nat} {p : Int × Int} (h : PtC w g p) (e : Ext w w') : PtC w' g p := ⟨e.cell h.1, e.cell h.2⟩
/-- apart along one coordinate -/
def apB (a b c d : Int) : Bool := decide (max a b < min c d) || decide (max c d < min a b)
def meetB (a b c d : Int × Int) : Bool := !apB a.1 b.1 c.1 d.1 && !apB a.2 b.2 c.2 d.2
set_option maxRecDepth 100000 in
set_option maxHeartbeats 2000000 in
theorem i_meet (g0 g1 g2 g3 : Nat) (a b c d : Int × Int) (w : World) (ha : PtC w g0 a) (hb : PtC w g1 b) (hc : PtC w g2 c) (hd : PtC w g3 d) :
    Calls Try.prog 69 #[.slice (some ⟨g0, 0, none⟩) 2 2, .slice (some ⟨g1, 0, none⟩) 2 2, .slice (some ⟨g2, 0, none⟩) 2 2, .slice (some ⟨g3, 0, none⟩) 2 2] w (fun e w' => e = .returned (.bool (meetB a b c d)) ∧ ∃ m, w' = w.drewN m) := by
  obtain ⟨ax, ay⟩ := a
  obtain ⟨bx, by'⟩ := b
  obtain ⟨cx, cy⟩ := c
  obtain ⟨dx, dy⟩ := d
  have HA := Lib.hid ha
  have HB := Lib.hid hb
  have HC := Lib.hid hc
  have HD := Lib.hid hd
  obtain ⟨vx, hvx⟩ : ∃ v, apB ax bx cx dx = v := ⟨_, rfl⟩
  obtain ⟨vy, hvy⟩ : ∃ v, apB ay by' cy dy = v := ⟨_, rfl⟩
  have hm : meetB (ax, ay) (bx, by') (cx, cy) (dx, dy) = (!vx && !vy) := by unfold meetB; rw [hvx, hvy]
  rw [hm]
  have HVX := Lib.hid hvx
  have HVY := Lib.hid hvy
  clear ha hb hc hd hm hvx hvy
  go_enter Try.func69, Try.ntmps69
  go_wp2
  go_loopw [10] (fun i wr => ∃ (k m : Nat), k ≤ 2 ∧ i = .int .i64 k ∧ wr = w.drewN m ∧ Hid ((1 ≤ k → vx = false) ∧ (2 ≤ k → vy = false))) (fun i _ => 2 - (intOf i).toNat)
  case atStart => exact ⟨0, 0, Nat.zero_le _, rfl, rfl, Lib.hid ⟨fun h => absurd h (by decide), fun h => absurd h (by decide)⟩⟩
  case round =>
    obtain ⟨k, m, hk, rfl, rfl, HV⟩ := hrel
    obtain ⟨a1, a2⟩ := HA.out
    obtain ⟨b1, b2⟩ := HB.out
    obtain ⟨c1, c2⟩ := HC.out
    obtain ⟨d1, d2⟩ := HD.out
    have h3 : k = 0 ∨ k = 1 ∨ k = 2 := by omega
    rcases h3 with rfl | rfl | rfl
    · obtain ⟨m1, hm1⟩ : ∃ m, max ax bx = m := ⟨_, rfl⟩
      obtain ⟨m2, hm2⟩ : ∃ m, min cx dx = m := ⟨_, rfl⟩
      obtain ⟨m3, hm3⟩ : ∃ m, max cx dx = m := ⟨_, rfl⟩
      obtain ⟨m4, hm4⟩ : ∃ m, min ax bx = m := ⟨_, rfl⟩
      have F1 : ∀ (W : World) (ts : Array TypeId) (t : TypeId), (Builtin.max_ ts t #[.int .i64 ax, .int .i64 bx]).run Try.prog W = .ok (.int .i64 m1) W := fun W ts t => by rw [Lib.run_max_ints, hm1]
      have F2 : ∀ (W : World) (ts : Array TypeId) (t : TypeId), (Builtin.min_ ts t #[.int .i64 cx, .int .i64 dx]).run Try.prog W = .ok (.int .i64 m2) W := fun W ts t => by rw [Lib.run_min_ints, hm2]
      have F3 : ∀ (W : World) (ts : Array TypeId) (t : TypeId), (Builtin.max_ ts t #[.int .i64 cx, .int .i64 dx]).run Try.prog W = .ok (.int .i64 m3) W := fun W ts t => by rw [Lib.run_max_ints, hm3]
      have F4 : ∀ (W : World) (ts : Array TypeId) (t : TypeId), (Builtin.min_ ts t #[.int .i64 ax, .int .i64 bx]).run Try.prog W = .ok (.int .i64 m4) W := fun W ts t => by rw [Lib.run_min_ints, hm4]
      have HQ : Hid (apB ax bx cx dx = (decide (m1 < m2) || decide (m3 < m4))) := Lib.hid (by unfold apB; rw [hm1, hm2, hm3, hm4])
      clear hm1 hm2 hm3 hm4
      cases h1 : decide (m1 < m2)
      · cases h2 : decide (m3 < m4)
        · have HN : Hid (vx = false) := Lib.hid (by rw [← HVX.out, HQ.out]; rw [h1, h2]; rfl)
          go_upto_region 4 with fail
          go_quiet (fail)
          go_wp2
          go_roundw
          case rel => first | exact ⟨1, _, by omega, by go_num, rfl, Lib.hid ⟨fun _ => HN.out, fun h => absurd h (by decide)⟩⟩ | ((repeat apply Exists.intro); exact ⟨⟨1, _, by omega, by go_num, rfl, Lib.hid ⟨fun _ => HN.out, fun h => absurd h (by decide)⟩⟩, rfl⟩)
          case measure => (simp [intOf] <;> omega)
        · have HN : Hid (vx = true) := Lib.hid (by rw [← HVX.out, HQ.out]; rw [h1, h2]; rfl)
          go_upto_region 4 with fail
          go_quiet (fail)
          go_wp2
          go_ret
          exact ⟨by rw [HN.out]; rfl, _, rfl⟩
      · have HN : Hid (vx = true) := Lib.hid (by rw [← HVX.out, HQ.out]; rw [h1]; rfl)
        go_upto_region 4 with fail
        go_quiet (fail)
        go_wp2
        go_ret
        exact ⟨by rw [HN.out]; rfl, _, rfl⟩
    · obtain ⟨m1, hm1⟩ : ∃ m, max ay by' = m := ⟨_, rfl⟩
      obtain ⟨m2, hm2⟩ : ∃ m, min cy dy = m := ⟨_, rfl⟩
      obtain ⟨m3, hm3⟩ : ∃ m, max cy dy = m := ⟨_, rfl⟩
      obtain ⟨m4, hm4⟩ : ∃ m, min ay by' = m := ⟨_, rfl⟩
      have F1 : ∀ (W : World) (ts : Array TypeId) (t : TypeId), (Builtin.max_ ts t #[.int .i64 ay, .int .i64 by']).run Try.prog W = .ok (.int .i64 m1) W := fun W ts t => by rw [Lib.run_max_ints, hm1]
      have F2 : ∀ (W : World) (ts : Array TypeId) (t : TypeId), (Builtin.min_ ts t #[.int .i64 cy, .int .i64 dy]).run Try.prog W = .ok (.int .i64 m2) W := fun W ts t => by rw [Lib.run_min_ints, hm2]
      have F3 : ∀ (W : World) (ts : Array TypeId) (t : TypeId), (Builtin.max_ ts t #[.int .i64 cy, .int .i64 dy]).run Try.prog W = .ok (.int .i64 m3) W := fun W ts t => by rw [Lib.run_max_ints, hm3]
      have F4 : ∀ (W : World) (ts : Array TypeId) (t : TypeId), (Builtin.min_ ts t #[.int .i64 ay, .int .i64 by']).run Try.prog W = .ok (.int .i64 m4) W := fun W ts t => by rw [Lib.run_min_ints, hm4]
      have HQ : Hid (apB ay by' cy dy = (decide (m1 < m2) || decide (m3 < m4))) := Lib.hid (by unfold apB; rw [hm1, hm2, hm3, hm4])
      clear hm1 hm2 hm3 hm4
      cases h1 : decide (m1 < m2)
      · cases h2 : decide (m3 < m4)
        · have HN : Hid (vy = false) := Lib.hid (by rw [← HVY.out, HQ.out]; rw [h1, h2]; rfl)
          go_upto_region 4 with fail
          go_quiet (fail)
          go_wp2
          go_roundw
          case rel => first | exact ⟨2, _, by omega, by go_num, rfl, Lib.hid ⟨fun _ => HV.out.1 (by omega), fun _ => HN.out⟩⟩ | ((repeat apply Exists.intro); exact ⟨⟨2, _, by omega, by go_num, rfl, Lib.hid ⟨fun _ => HV.out.1 (by omega), fun _ => HN.out⟩⟩, rfl⟩)
          case measure => (simp [intOf] <;> omega)
        · have HN : Hid (vy = true) := Lib.hid (by rw [← HVY.out, HQ.out]; rw [h1, h2]; rfl)
          go_upto_region 4 with fail
          go_quiet (fail)
          go_wp2
          go_ret
          exact ⟨by rw [HN.out]; simp, _, rfl⟩
      · have HN : Hid (vy = true) := Lib.hid (by rw [← HVY.out, HQ.out]; rw [h1]; rfl)
        go_upto_region 4 with fail
        go_quiet (fail)
        go_wp2
        go_ret
        exact ⟨by rw [HN.out]; simp, _, rfl⟩
    · go_wp2
      go_ret
      exact ⟨by rw [HV.out.1 (by omega), HV.out.2 (by omega)]; rfl, _, rfl⟩
end Go.Proofs.Ytchimcahfmkbdaa
