/- A group of texts, one behind the other: House9, House10, House11. -/
import Derived.Test.YtaokeaiehjgbnaaGreatDoorGaHb
import Derived.Lib.MinMax
import Derived.Deep.RegionHeld3
/- Two stretches between places of a plan meet: both sides. -/
namespace Go.Proofs.YtaokeaiehjgbnaaGreatDoor
open Go.RowKit
set_option linter.unusedSimpArgs false
set_option linter.unusedVariables false
set_option linter.unnecessarySimpa false

def PtC (w : World) (g : Nat) (p : Int × Int) : Prop := w.cell? ⟨g, 0, none⟩ = some (.int .i64 p.1) ∧ w.cell? ⟨g, 1, none⟩ = some (.int .i64 p.2)
theorem PtC.ext {w w' : World} {g : Nat} {p : Int × Int} (h : PtC w g p) (e : Ext w w') : PtC w' g p := ⟨e.cell h.1, e.cell h.2⟩
/-- apart along one coordinate -/
def apB (a b c d : Int) : Bool := decide (max a b < min c d) || decide (max c d < min a b)
def meetB (a b c d : Int × Int) : Bool := !apB a.1 b.1 c.1 d.1 && !apB a.2 b.2 c.2 d.2
set_option maxRecDepth 100000 in
set_option maxHeartbeats 2000000 in
theorem i_meet (g0 g1 g2 g3 : Nat) (a b c d : Int × Int) (w : World) (ha : PtC w g0 a) (hb : PtC w g1 b) (hc : PtC w g2 c) (hd : PtC w g3 d) :
    Calls Tryz.prog 35 #[.slice (some ⟨g0, 0, none⟩) 2 2, .slice (some ⟨g1, 0, none⟩) 2 2, .slice (some ⟨g2, 0, none⟩) 2 2, .slice (some ⟨g3, 0, none⟩) 2 2] w (fun e w' => e = .returned (.bool (meetB a b c d)) ∧ ∃ m, w' = w.drewN m) := by
  obtain ⟨ax, ay⟩ := a
  obtain ⟨bx, by'⟩ := b
  obtain ⟨cx, cy⟩ := c
  obtain ⟨dx, dy⟩ := d
  have HA := Lib.hid ha
  have HB := Lib.hid hb
  have HC := Lib.hid hc
  have HD := Lib.hid hd
  obtain ⟨vx, hvx⟩ : ∃ v, apB ax bx cx dx = v := ⟨_, rfl⟩
  obtain ⟨vy, hvy⟩ : ∃ v, apB ay by' cy dy = v := ⟨_, rfl⟩
  have hm : meetB (ax, ay) (bx, by') (cx, cy) (dx, dy) = (!vx && !vy) := by unfold meetB; rw [hvx, hvy]
  rw [hm]
  have HVX := Lib.hid hvx
  have HVY := Lib.hid hvy
  clear ha hb hc hd hm hvx hvy
  go_enter Tryz.func35, Tryz.ntmps35
  go_wp2
  go_loopw [10] (fun i wr => ∃ (k m : Nat), k ≤ 2 ∧ i = .int .i64 k ∧ wr = w.drewN m ∧ Hid ((1 ≤ k → vx = false) ∧ (2 ≤ k → vy = false))) (fun i _ => 2 - (intOf i).toNat)
  case atStart => exact ⟨0, 0, Nat.zero_le _, rfl, rfl, Lib.hid ⟨fun h => absurd h (by decide), fun h => absurd h (by decide)⟩⟩
  case round =>
    obtain ⟨k, m, hk, rfl, rfl, HV⟩ := hrel
    obtain ⟨a1, a2⟩ := HA.out
    obtain ⟨b1, b2⟩ := HB.out
    obtain ⟨c1, c2⟩ := HC.out
    obtain ⟨d1, d2⟩ := HD.out
    have h3 : k = 0 ∨ k = 1 ∨ k = 2 := by omega
    rcases h3 with rfl | rfl | rfl
    · obtain ⟨m1, hm1⟩ : ∃ m, max ax bx = m := ⟨_, rfl⟩
      obtain ⟨m2, hm2⟩ : ∃ m, min cx dx = m := ⟨_, rfl⟩
      obtain ⟨m3, hm3⟩ : ∃ m, max cx dx = m := ⟨_, rfl⟩
      obtain ⟨m4, hm4⟩ : ∃ m, min ax bx = m := ⟨_, rfl⟩
      have F1 : ∀ (W : World) (ts : Array TypeId) (t : TypeId), (Builtin.max_ ts t #[.int .i64 ax, .int .i64 bx]).run Tryz.prog W = .ok (.int .i64 m1) W := fun W ts t => by rw [Lib.run_max_ints, hm1]
      have F2 : ∀ (W : World) (ts : Array TypeId) (t : TypeId), (Builtin.min_ ts t #[.int .i64 cx, .int .i64 dx]).run Tryz.prog W = .ok (.int .i64 m2) W := fun W ts t => by rw [Lib.run_min_ints, hm2]
      have F3 : ∀ (W : World) (ts : Array TypeId) (t : TypeId), (Builtin.max_ ts t #[.int .i64 cx, .int .i64 dx]).run Tryz.prog W = .ok (.int .i64 m3) W := fun W ts t => by rw [Lib.run_max_ints, hm3]
      have F4 : ∀ (W : World) (ts : Array TypeId) (t : TypeId), (Builtin.min_ ts t #[.int .i64 ax, .int .i64 bx]).run Tryz.prog W = .ok (.int .i64 m4) W := fun W ts t => by rw [Lib.run_min_ints, hm4]
      have HQ : Hid (apB ax bx cx dx = (decide (m1 < m2) || decide (m3 < m4))) := Lib.hid (by unfold apB; rw [hm1, hm2, hm3, hm4])
      clear hm1 hm2 hm3 hm4
      cases h1 : decide (m1 < m2)
      · cases h2 : decide (m3 < m4)
        · have HN : Hid (vx = false) := Lib.hid (by rw [← HVX.out, HQ.out]; rw [h1, h2]; rfl)
          go_upto_region 4 with fail
          go_quiet (fail)
          go_wp2
          go_roundw
          case rel => first | exact ⟨1, _, by omega, by go_num, rfl, Lib.hid ⟨fun _ => HN.out, fun h => absurd h (by decide)⟩⟩ | ((repeat apply Exists.intro); exact ⟨⟨1, _, by omega, by go_num, rfl, Lib.hid ⟨fun _ => HN.out, fun h => absurd h (by decide)⟩⟩, rfl⟩)
          case measure => (simp [intOf] <;> omega)
        · have HN : Hid (vx = true) := Lib.hid (by rw [← HVX.out, HQ.out]; rw [h1, h2]; rfl)
          go_upto_region 4 with fail
          go_quiet (fail)
          go_wp2
          go_ret
          exact ⟨by rw [HN.out]; rfl, _, rfl⟩
      · have HN : Hid (vx = true) := Lib.hid (by rw [← HVX.out, HQ.out]; rw [h1]; rfl)
        go_upto_region 4 with fail
        go_quiet (fail)
        go_wp2
        go_ret
        exact ⟨by rw [HN.out]; rfl, _, rfl⟩
    · obtain ⟨m1, hm1⟩ : ∃ m, max ay by' = m := ⟨_, rfl⟩
      obtain ⟨m2, hm2⟩ : ∃ m, min cy dy = m := ⟨_, rfl⟩
      obtain ⟨m3, hm3⟩ : ∃ m, max cy dy = m := ⟨_, rfl⟩
      obtain ⟨m4, hm4⟩ : ∃ m, min ay by' = m := ⟨_, rfl⟩
      have F1 : ∀ (W : World) (ts : Array TypeId) (t : TypeId), (Builtin.max_ ts t #[.int .i64 ay, .int .i64 by']).run Tryz.prog W = .ok (.int .i64 m1) W := fun W ts t => by rw [Lib.run_max_ints, hm1]
      have F2 : ∀ (W : World) (ts : Array TypeId) (t : TypeId), (Builtin.min_ ts t #[.int .i64 cy, .int .i64 dy]).run Tryz.prog W = .ok (.int .i64 m2) W := fun W ts t => by rw [Lib.run_min_ints, hm2]
      have F3 : ∀ (W : World) (ts : Array TypeId) (t : TypeId), (Builtin.max_ ts t #[.int .i64 cy, .int .i64 dy]).run Tryz.prog W = .ok (.int .i64 m3) W := fun W ts t => by rw [Lib.run_max_ints, hm3]
      have F4 : ∀ (W : World) (ts : Array TypeId) (t : TypeId), (Builtin.min_ ts t #[.int .i64 ay, .int .i64 by']).run Tryz.prog W = .ok (.int .i64 m4) W := fun W ts t => by rw [Lib.run_min_ints, hm4]
      have HQ : Hid (apB ay by' cy dy = (decide (m1 < m2) || decide (m3 < m4))) := Lib.hid (by unfold apB; rw [hm1, hm2, hm3, hm4])
      clear hm1 hm2 hm3 hm4
      cases h1 : decide (m1 < m2)
      · cases h2 : decide (m3 < m4)
        · have HN : Hid (vy = false) := Lib.hid (by rw [← HVY.out, HQ.out]; rw [h1, h2]; rfl)
          go_upto_region 4 with fail
          go_quiet (fail)
          go_wp2
          go_roundw
          case rel => first | exact ⟨2, _, by omega, by go_num, rfl, Lib.hid ⟨fun _ => HV.out.1 (by omega), fun _ => HN.out⟩⟩ | ((repeat apply Exists.intro); exact ⟨⟨2, _, by omega, by go_num, rfl, Lib.hid ⟨fun _ => HV.out.1 (by omega), fun _ => HN.out⟩⟩, rfl⟩)
          case measure => (simp [intOf] <;> omega)
        · have HN : Hid (vy = true) := Lib.hid (by rw [← HVY.out, HQ.out]; rw [h1, h2]; rfl)
          go_upto_region 4 with fail
          go_quiet (fail)
          go_wp2
          go_ret
          exact ⟨by rw [HN.out]; simp, _, rfl⟩
      · have HN : Hid (vy = true) := Lib.hid (by rw [← HVY.out, HQ.out]; rw [h1]; rfl)
        go_upto_region 4 with fail
        go_quiet (fail)
        go_wp2
        go_ret
        exact ⟨by rw [HN.out]; simp, _, rfl⟩
    · go_wp2
      go_ret
      exact ⟨by rw [HV.out.1 (by omega), HV.out.2 (by omega)]; rfl, _, rfl⟩
end Go.Proofs.YtaokeaiehjgbnaaGreatDoor

/- Plans whose sides do not meet: both sides. -/
namespace Go.Proofs.YtaokeaiehjgbnaaGreatDoor
open Go.RowKit
set_option linter.unusedSimpArgs false
set_option linter.unusedVariables false
set_option linter.unnecessarySimpa false

def mnI (a b : Int) : Int := if a < b then a else b
def mxI (a b : Int) : Int := if a > b then a else b
theorem apB_eq (a b c d : Int) : apB a b c d = !(decide (mnI a b ≤ mxI c d) && decide (mnI c d ≤ mxI a b)) := by
  unfold apB mnI mxI
  have h1 : max a b = if a > b then a else b := by split <;> omega
  have h2 : min c d = if c < d then c else d := by split <;> omega
  have h3 : max c d = if c > d then c else d := by split <;> omega
  have h4 : min a b = if a < b then a else b := by split <;> omega
  rw [h1, h2, h3, h4, Bool.eq_iff_iff]
  simp only [Bool.or_eq_true, decide_eq_true_eq, Bool.not_eq_true', Bool.and_eq_false_iff, decide_eq_false_iff_not]
  omega
/-- the sides i and k of n meet, and do not follow one another -/
def hitP (p : Nat → Int × Int) (n i k : Nat) : Bool := decide (i + 2 ≤ k) && (decide (¬ (i = 0 ∧ k + 1 = n)) && meetB (p i) (p (i + 1)) (p k) (p (k + 1)))
def simpleP (p : Nat → Int × Int) (n : Nat) : Bool := !((List.range n).any fun i => (List.range n).any fun k => hitP p n i k)
theorem simple_hit {p : Nat → Int × Int} {n i k : Nat} (hi : i < n) (hk : k < n) (h : hitP p n i k = true) : simpleP p n = false := by
  unfold simpleP
  rw [Bool.not_eq_false', List.any_eq_true]
  exact ⟨i, List.mem_range.2 hi, List.any_eq_true.2 ⟨k, List.mem_range.2 hk, h⟩⟩
theorem simple_none {p : Nat → Int × Int} {n : Nat} (h : ∀ i, i < n → ∀ k, k < n → hitP p n i k = false) : simpleP p n = true := by
  unfold simpleP
  rw [Bool.not_eq_true', List.any_eq_false]
  intro i hi
  rw [Bool.not_eq_true, List.any_eq_false]
  intro k hk
  rw [h i (List.mem_range.1 hi) k (List.mem_range.1 hk)]
  decide
theorem hit_low {p : Nat → Int × Int} {n i k : Nat} (h : ¬ i + 2 ≤ k) : hitP p n i k = false := by unfold hitP; rw [decide_eq_false h]; rfl
theorem hit_last {p : Nat → Int × Int} {n i k : Nat} (h : i = 0 ∧ k + 1 = n) : hitP p n i k = false := by
  unfold hitP
  rw [decide_eq_false (p := ¬ (i = 0 ∧ k + 1 = n)) (fun h2 => h2 h)]; simp
theorem hit_meet {p : Nat → Int × Int} {n i k : Nat} (h1 : i + 2 ≤ k) (h : ¬ (i = 0 ∧ k + 1 = n)) : hitP p n i k = meetB (p i) (p (i + 1)) (p k) (p (k + 1)) := by
  unfold hitP
  rw [decide_eq_true h1, decide_eq_true h]; rfl
def simpH (xs : List Int) (t : List UInt8) (n : Nat) : Bool := validH xs t && simpleP (ptH xs t) n
theorem PtC.drewN {w : World} {g : Nat} {p : Int × Int} (h : PtC w g p) (m : Nat) : PtC (w.drewN m) g p := h
theorem s_l00Min (a b : Int) (w : World) : Calls Tryz.prog 61 #[.int .i64 a, .int .i64 b] w (RetV (.int .i64 (mnI a b)) w) := by
  by_cases h : a < b
  all_goals
    go_enter Tryz.func61, Tryz.ntmps61
    go_wp2
    go_ret
    exact RetV.mk (int_eq (by unfold mnI; split <;> omega))
theorem s_l00Max (a b : Int) (w : World) : Calls Tryz.prog 62 #[.int .i64 a, .int .i64 b] w (RetV (.int .i64 (mxI a b)) w) := by
  by_cases h : b < a
  all_goals
    go_enter Tryz.func62, Tryz.ntmps62
    go_wp2
    go_ret
    exact RetV.mk (int_eq (by unfold mxI; split <;> omega))
set_option maxRecDepth 100000 in
set_option maxHeartbeats 2000000 in
theorem s_l07Meet (g0 g1 g2 g3 : Nat) (a b c d : Int × Int) (w : World) (ha : PtC w g0 a) (hb : PtC w g1 b) (hc : PtC w g2 c) (hd : PtC w g3 d) :
    Calls Tryz.prog 36 #[.slice (some ⟨g0, 0, none⟩) 2 2, .slice (some ⟨g1, 0, none⟩) 2 2, .slice (some ⟨g2, 0, none⟩) 2 2, .slice (some ⟨g3, 0, none⟩) 2 2] w (fun e w' => e = .returned (.bool (meetB a b c d)) ∧ ∃ m, w' = w.drewN m) := by
  obtain ⟨ax, ay⟩ := a
  obtain ⟨bx, by'⟩ := b
  obtain ⟨cx, cy⟩ := c
  obtain ⟨dx, dy⟩ := d
  have hm : meetB (ax, ay) (bx, by') (cx, cy) (dx, dy) = (decide (mnI ax bx ≤ mxI cx dx) && decide (mnI cx dx ≤ mxI ax bx) && (decide (mnI ay by' ≤ mxI cy dy) && decide (mnI cy dy ≤ mxI ay by'))) := by
    unfold meetB; rw [apB_eq, apB_eq, Bool.not_not, Bool.not_not]
  rw [hm]
  clear hm
  obtain ⟨a1, a2⟩ := ha
  obtain ⟨b1, b2⟩ := hb
  obtain ⟨c1, c2⟩ := hc
  obtain ⟨d1, d2⟩ := hd
  obtain ⟨t1, h1⟩ : ∃ t, decide (mnI ax bx ≤ mxI cx dx) = t := ⟨_, rfl⟩
  obtain ⟨t2, h2⟩ : ∃ t, decide (mnI cx dx ≤ mxI ax bx) = t := ⟨_, rfl⟩
  obtain ⟨t3, h3⟩ : ∃ t, decide (mnI ay by' ≤ mxI cy dy) = t := ⟨_, rfl⟩
  obtain ⟨t4, h4⟩ : ∃ t, decide (mnI cy dy ≤ mxI ay by') = t := ⟨_, rfl⟩
  rw [h1, h2, h3, h4]
  cases t1
  · go_enter Tryz.func36, Tryz.ntmps36
    go_wp2
    go_quiet (first | (go_at_call 61; exact quiet_retv (s_l00Min _ _ _)) | (go_at_call 62; exact quiet_retv (s_l00Max _ _ _)))
    go_wp2
    go_ret
    exact ⟨rfl, _, rfl⟩
  · cases t2
    · go_enter Tryz.func36, Tryz.ntmps36
      go_wp2
      go_quiet (first | (go_at_call 61; exact quiet_retv (s_l00Min _ _ _)) | (go_at_call 62; exact quiet_retv (s_l00Max _ _ _)))
      go_wp2
      go_ret
      exact ⟨rfl, _, rfl⟩
    · cases t3
      · go_enter Tryz.func36, Tryz.ntmps36
        go_wp2
        go_quiet (first | (go_at_call 61; exact quiet_retv (s_l00Min _ _ _)) | (go_at_call 62; exact quiet_retv (s_l00Max _ _ _)))
        go_wp2
        go_ret
        exact ⟨rfl, _, rfl⟩
      · cases t4
        all_goals
          go_enter Tryz.func36, Tryz.ntmps36
          go_wp2
          go_quiet (first | (go_at_call 61; exact quiet_retv (s_l00Min _ _ _)) | (go_at_call 62; exact quiet_retv (s_l00Max _ _ _)))
          go_wp2
          go_ret
          exact ⟨rfl, _, rfl⟩
theorem keepT1 {w2 W W' : World} {b1 : Nat} {x1 y1 : Value} (h : Two W b1 x1 y1 ∧ Ext w2 W) (e : Ext W W') : Two W' b1 x1 y1 ∧ Ext w2 W' := ⟨h.1.ext e, h.2.trans e⟩
theorem heldT1 {w2 W : World} {b1 : Nat} {x1 y1 : Value} (h : Two W b1 x1 y1 ∧ Ext w2 W) : Ext w2 W := h.2
end Go.Proofs.YtaokeaiehjgbnaaGreatDoor

/- Plans whose sides do not meet: the program's and the reference's answer. -/
namespace Go.Proofs.YtaokeaiehjgbnaaGreatDoor
open Go.RowKit
set_option linter.unusedSimpArgs false
set_option linter.unusedVariables false
set_option linter.unnecessarySimpa false

set_option maxRecDepth 100000 in
set_option maxHeartbeats 4000000 in
theorem i_IsSimple (ao : Option Addr) (n c : Nat) (xs : List Int) (s : ByteArray) (w : World) (hx : Ints w ao n xs) (hs : s.size ≤ 9223372036854775807) :
    Calls Tryz.prog 10 #[.agg #[.slice ao n c, .string s]] w (RetE (.tuple #[.bool (simpH xs (bts s) n), .int .i64 (sel (validH xs (bts s)) 0 1)]) w) := by
  have e0 : Ext w (w.alloc (.cells #[.slice ao n c, .string s] 26)) := (Ext.refl w).alloc _
  have HX := Lib.hid hx
  have HL := Lib.hid hx.1
  have hxm := hx.2.1
  clear hx
  obtain ⟨v, hv⟩ : ∃ v, validH xs (bts s) = v := ⟨_, rfl⟩
  have hA : simpH xs (bts s) n = (v && simpleP (ptH xs (bts s)) n) := by unfold simpH; rw [hv]
  rw [hv, hA]
  clear hA
  have HBX : Hid (v = true → s.size = n ∧ 4 ≤ n ∧ n ≤ 12 ∧ ∀ x ∈ xs, 8 ≤ x ∧ x ≤ 200) := Lib.hid (fun h => by have h1 := validH_bd (hv.trans h); have := HL.out; rw [bts_length] at h1; exact ⟨by omega, by omega, by omega, h1.2.2.1⟩)
  cases v
  · go_enter Tryz.func10, Tryz.ntmps10
    go_wp2_with (go_at_call 25; refine (i_ValidHouse _ _ _ _ _ _ (HX.out.ext e0) hs).mono ?_; rw [hv]; rintro e w1 ⟨rfl, e1⟩; obtain ⟨p0, p1, p2, p3, p4⟩ := two_cells (e1.block (heap_alloc_new w _)); have E1 := Lib.hid (e0.trans e1))
    go_ret2
    exact RetE.mk rfl E1.out
  · obtain ⟨g3, n4, n12, hb⟩ := HBX.out rfl
    have HB8 := Lib.hid hb
    obtain ⟨R, hR⟩ : ∃ R, simpleP (ptH xs (bts s)) n = R := ⟨_, rfl⟩
    have HHit : Hid (∀ i k, i < n → k < n → hitP (ptH xs (bts s)) n i k = true → R = false) := Lib.hid (fun i k hi hk h => hR.symm.trans (simple_hit hi hk h))
    have HNone : Hid ((∀ i, i < n → ∀ k, k < n → hitP (ptH xs (bts s)) n i k = false) → R = true) := Lib.hid (fun h => hR.symm.trans (simple_none h))
    have HLow : Hid (∀ i k, ¬ i + 2 ≤ k → hitP (ptH xs (bts s)) n i k = false) := Lib.hid (fun i k h => hit_low h)
    have HLast : Hid (∀ k, k + 1 = n → hitP (ptH xs (bts s)) n 0 k = false) := Lib.hid (fun k h => hit_last ⟨rfl, h⟩)
    have HMeet : Hid (∀ i k, i + 2 ≤ k → ¬ (i = 0 ∧ k + 1 = n) → hitP (ptH xs (bts s)) n i k = meetB (ptH xs (bts s) i) (ptH xs (bts s) (i + 1)) (ptH xs (bts s) k) (ptH xs (bts s) (k + 1))) := Lib.hid (fun i k h1 h2 => hit_meet h1 h2)
    rw [hR]
    clear hb hR
    go_enter Tryz.func10, Tryz.ntmps10
    go_wp2_with (go_at_call 25; refine (i_ValidHouse _ _ _ _ _ _ (HX.out.ext e0) hs).mono ?_; rw [hv]; rintro e w1 ⟨rfl, e1⟩; have A := (Two.new w (.slice ao n c) (.string s) 26).ext e1; have E1 := Lib.hid (e0.trans e1))
    go_region_held3 (fun W => Two W w.heap.size (.slice ao n c) (.string s) ∧ Ext w1 W) (first | exact ⟨A.ext (Ext.refl _).drew, (Ext.refl _).drew⟩ | exact keepT1 (by assumption) (by assumption)) ((go_at_call 33; refine (i_corners _ _ _ _ _ _ ?_ g3 n12 HB8.out).mono ?_; exact HX.out.ext (E1.out.trans (heldT1 (by assumption))); rintro e w2 ⟨a2, c2, rfl, o2, e2⟩; rw [ptsH_len] at o2 ⊢; have HP := Lib.hid o2.pts; clear o2))
    have hS := (by assumption : Two w2 w.heap.size (.slice ao n c) (.string s) ∧ Ext w1 w2)
    have E2 := Lib.hid (E1.out.trans hS.2)
    obtain ⟨pg, rfl, hp⟩ := HP.out.uni (Nat.succ_pos n)
    have HPA := Lib.hid hp
    clear hp hS A e2 HP
    go_wp2
    go_loopw [17] (fun v wr => ∃ i : Nat, i ≤ n ∧ v = .int .i64 i ∧ Hid (∀ i', i' < i → ∀ k, k < n → hitP (ptH xs (bts s)) n i' k = false) ∧ Hid (Ext w2 wr)) (fun v _ => n - (intOf v).toNat)
    case atStart => exact ⟨0, Nat.zero_le _, rfl, Lib.hid (fun i' h => absurd h (Nat.not_lt_zero _)), Lib.hid (Ext.refl _)⟩
    case round =>
      obtain ⟨i, hi, rfl, HN, HER⟩ := hrel
      by_cases hlt : i < n
      · obtain ⟨g0, d0, d1, d2⟩ := HPA.out i (by omega)
        obtain ⟨g1, d3, d4, d5⟩ := HPA.out (i + 1) (by omega)
        rw [ptsH_at _ _ _ _ (by omega)] at d1 d2 d4 d5
        have HI0 := Lib.hid (show PtC w2 g0 (ptH xs (bts s) i) from ⟨d1, d2⟩)
        have HI1 := Lib.hid (show PtC w2 g1 (ptH xs (bts s) (i + 1)) from ⟨d4, d5⟩)
        have HD0 := Lib.hid d0
        have HD3 := Lib.hid d3
        clear d0 d1 d2 d3 d4 d5
        go_wp2
        obtain ⟨wo, rfl⟩ : ∃ wo : World, wo = wr := ⟨_, rfl⟩
        go_loopw [7] (fun v wi => ∃ k : Nat, i + 2 ≤ k ∧ k ≤ n + 1 ∧ v = .int .i64 k ∧ Hid (∀ k', k' < k → k' < n → hitP (ptH xs (bts s)) n i k' = false) ∧ Hid (Ext w2 wi)) (fun v _ => n + 1 - (intOf v).toNat)
        case atStart => exact ⟨i + 2, Nat.le_refl _, by omega, by go_num, Lib.hid (fun k' h1 h2 => HLow.out i k' (by omega)), HER⟩
        case round =>
          obtain ⟨k, hk1, hk2, rfl, HK, HEI⟩ := hrel
          by_cases hkn : k < n
          · obtain ⟨g2, d0, d1, d2⟩ := HPA.out k (by omega)
            obtain ⟨g3', d3, d4, d5⟩ := HPA.out (k + 1) (by omega)
            rw [ptsH_at _ _ _ _ (by omega)] at d1 d2 d4 d5
            have HK0 := Lib.hid (PtC.ext (show PtC w2 g2 (ptH xs (bts s) k) from ⟨d1, d2⟩) HEI.out)
            have HK1 := Lib.hid (PtC.ext (show PtC w2 g3' (ptH xs (bts s) (k + 1)) from ⟨d4, d5⟩) HEI.out)
            have HI0' := Lib.hid (HI0.out.ext HEI.out)
            have HI1' := Lib.hid (HI1.out.ext HEI.out)
            have q0 := HEI.out.cell HD0.out
            have q1 := HEI.out.cell HD3.out
            have q2 := HEI.out.cell d0
            have q3 := HEI.out.cell d3
            clear d0 d1 d2 d3 d4 d5
            by_cases hg : i = 0 ∧ k + 1 = n
            · obtain ⟨rfl, hkn1⟩ := hg
              have HN2 := Lib.hid (HLast.out k hkn1)
              have hr0 : Int.tmod ((k : Int) + 1) n = 0 := by rw [show (k : Int) + 1 = n by omega]; exact Int.tmod_self
              have hr1 : ((k : Int) + 1) % n = 0 := by rw [show (k : Int) + 1 = n by omega]; exact Int.emod_self
              go_upto_region 10 with fail
              go_quiet (fail)
              go_wp2
              go_roundw
              case rel => exact ⟨k + 1, by omega, by omega, by go_num, Lib.hid (fun k' h1 h2 => by rcases Nat.lt_or_eq_of_le (Nat.le_of_lt_succ h1) with h | rfl; exact HK.out k' h h2; exact HN2.out), Lib.hid (HEI.out.drewN _)⟩
              case measure => (simp [intOf] <;> omega)
            · have hme := HMeet.out i k hk1 hg
              obtain ⟨mb, hmb⟩ : ∃ b, meetB (ptH xs (bts s) i) (ptH xs (bts s) (i + 1)) (ptH xs (bts s) k) (ptH xs (bts s) (k + 1)) = b := ⟨_, rfl⟩
              rw [hmb] at hme
              have HM := Lib.hid hme
              have HC := Lib.hid (fun q => i_meet g0 g1 g2 g3' _ _ _ _ (wr.drewN q) (HI0'.out.drewN q) (HI1'.out.drewN q) (HK0.out.drewN q) (HK1.out.drewN q))
              rw [hmb] at HC
              clear hme hmb
              have hr0 : (Int.tmod ((k : Int) + 1) n != (i : Int)) = true := by
                rw [Int.tmod_eq_emod_of_nonneg (by omega), bne_iff_ne]
                intro h
                rcases Nat.lt_or_eq_of_le (show k + 1 ≤ n by omega) with h2 | h2
                · rw [Int.emod_eq_of_lt (by omega) (by omega)] at h; omega
                · rw [show (k : Int) + 1 = n by omega, Int.emod_self] at h; exact hg ⟨by omega, h2⟩
              have hr1 : (((k : Int) + 1) % n != (i : Int)) = true := by rw [← Int.tmod_eq_emod_of_nonneg (by omega)]; exact hr0
              clear hg
              cases mb
              case false =>
                go_upto_region 10 with fail
                go_quiet ((go_at_call 35; exact Calls.quiet_of (HC.out _)))
                go_wp2
                go_roundw
                case rel => exact ⟨k + 1, by omega, by omega, by go_num, Lib.hid (fun k' h1 h2 => by rcases Nat.lt_or_eq_of_le (Nat.le_of_lt_succ h1) with h | rfl; exact HK.out k' h h2; exact HM.out), Lib.hid (HEI.out.drewN _)⟩
                case measure => (simp [intOf] <;> omega)
              case true =>
                have HRF := Lib.hid (HHit.out _ k hlt hkn HM.out)
                go_upto_region 10 with fail
                go_quiet ((go_at_call 35; exact Calls.quiet_of (HC.out _)))
                go_wp2
                go_ret2
                exact RetE.mk (by rw [HRF.out]; rfl) (E2.out.trans (HEI.out.drewN _))
          · go_wp2
            go_roundw
            case rel => exact ⟨i + 1, by omega, by go_num, Lib.hid (fun i' h1 k' h2 => by rcases Nat.lt_or_eq_of_le (Nat.le_of_lt_succ h1) with h | rfl; exact HN.out i' h k' h2; exact HK.out k' (by omega) h2), HEI⟩
            case measure => (simp [intOf] <;> omega)
      · obtain rfl : i = n := by omega
        have HRT := Lib.hid (HNone.out HN.out)
        go_wp2
        go_ret2
        exact RetE.mk (by rw [HRT.out]; rfl) (E2.out.trans HER.out)
set_option maxRecDepth 100000 in
set_option maxHeartbeats 4000000 in
theorem s_IsSimple (ao : Option Addr) (n c : Nat) (xs : List Int) (s : ByteArray) (w : World) (hx : Ints w ao n xs) (hs : s.size ≤ 9223372036854775807) :
    Calls Tryz.prog 11 #[.agg #[.slice ao n c, .string s]] w (RetE (.tuple #[.bool (simpH xs (bts s) n), .int .i64 (sel (validH xs (bts s)) 0 1)]) w) := by
  have e0 : Ext w (w.alloc (.cells #[.slice ao n c, .string s] 26)) := (Ext.refl w).alloc _
  have HX := Lib.hid hx
  have HL := Lib.hid hx.1
  have hxm := hx.2.1
  clear hx
  obtain ⟨v, hv⟩ : ∃ v, validH xs (bts s) = v := ⟨_, rfl⟩
  have hA : simpH xs (bts s) n = (v && simpleP (ptH xs (bts s)) n) := by unfold simpH; rw [hv]
  rw [hv, hA]
  clear hA
  have HBX : Hid (v = true → s.size = n ∧ 4 ≤ n ∧ n ≤ 12 ∧ ∀ x ∈ xs, 8 ≤ x ∧ x ≤ 200) := Lib.hid (fun h => by have h1 := validH_bd (hv.trans h); have := HL.out; rw [bts_length] at h1; exact ⟨by omega, by omega, by omega, h1.2.2.1⟩)
  cases v
  · go_enter Tryz.func11, Tryz.ntmps11
    go_wp2_with (go_at_call 30; refine (s_l07Ok _ _ _ _ _ _ _ (Two.new w _ _ _) (HX.out.ext e0) hs).mono ?_; rw [hv]; rintro e w1 ⟨rfl, e1⟩; have E1 := Lib.hid (e0.trans e1))
    go_ret2
    exact RetE.mk rfl E1.out
  · obtain ⟨g3, n4, n12, hb⟩ := HBX.out rfl
    have HB8 := Lib.hid hb
    obtain ⟨R, hR⟩ : ∃ R, simpleP (ptH xs (bts s)) n = R := ⟨_, rfl⟩
    have HHit : Hid (∀ i k, i < n → k < n → hitP (ptH xs (bts s)) n i k = true → R = false) := Lib.hid (fun i k hi hk h => hR.symm.trans (simple_hit hi hk h))
    have HNone : Hid ((∀ i, i < n → ∀ k, k < n → hitP (ptH xs (bts s)) n i k = false) → R = true) := Lib.hid (fun h => hR.symm.trans (simple_none h))
    have HLow : Hid (∀ i k, ¬ i + 2 ≤ k → hitP (ptH xs (bts s)) n i k = false) := Lib.hid (fun i k h => hit_low h)
    have HLast : Hid (∀ k, k + 1 = n → hitP (ptH xs (bts s)) n 0 k = false) := Lib.hid (fun k h => hit_last ⟨rfl, h⟩)
    have HMeet : Hid (∀ i k, i + 2 ≤ k → ¬ (i = 0 ∧ k + 1 = n) → hitP (ptH xs (bts s)) n i k = meetB (ptH xs (bts s) i) (ptH xs (bts s) (i + 1)) (ptH xs (bts s) k) (ptH xs (bts s) (k + 1))) := Lib.hid (fun i k h1 h2 => hit_meet h1 h2)
    rw [hR]
    clear hb hR
    go_enter Tryz.func11, Tryz.ntmps11
    go_wp2_with (first | (go_at_call 30; refine (s_l07Ok _ _ _ _ _ _ _ (Two.new w _ _ _) (HX.out.ext e0) hs).mono ?_; rw [hv]; rintro e w1 ⟨rfl, e1⟩; have E1 := Lib.hid (e0.trans e1); have HT1 := Lib.hid ((Two.new w (.slice ao n c) (.string s) 26).ext e1)) | (go_at_call 34; refine (s_l07Points _ _ _ _ _ _ _ HT1.out (HX.out.ext E1.out) g3 n12 HB8.out).mono ?_; rintro e w2 ⟨a2, c2, rfl, o2, e2⟩; rw [ptsH_len] at o2 ⊢; have E2 := Lib.hid (E1.out.trans e2); have HP := Lib.hid o2.pts; have HT2 := Lib.hid (HT1.out.ext e2); obtain ⟨q0, q1, q2⟩ := HT2.out; clear o2))
    obtain ⟨pg, rfl, hp⟩ := HP.out.uni (Nat.succ_pos n)
    have HPA := Lib.hid hp
    clear hp HP q0 q1 q2
    go_loopw [6] (fun v wr => ∃ i : Nat, i ≤ n ∧ v = .int .i64 i ∧ Hid (∀ i', i' < i → ∀ k, k < n → hitP (ptH xs (bts s)) n i' k = false) ∧ Hid (Ext w2 wr)) (fun v _ => n - (intOf v).toNat)
    case atStart => exact ⟨0, Nat.zero_le _, rfl, Lib.hid (fun i' h => absurd h (Nat.not_lt_zero _)), Lib.hid (Ext.refl _)⟩
    case round =>
      obtain ⟨i, hi, rfl, HN, HER⟩ := hrel
      by_cases hlt : i < n
      · obtain ⟨g0, d0, d1, d2⟩ := HPA.out i (by omega)
        obtain ⟨g1, d3, d4, d5⟩ := HPA.out (i + 1) (by omega)
        rw [ptsH_at _ _ _ _ (by omega)] at d1 d2 d4 d5
        have HI0 := Lib.hid (show PtC w2 g0 (ptH xs (bts s) i) from ⟨d1, d2⟩)
        have HI1 := Lib.hid (show PtC w2 g1 (ptH xs (bts s) (i + 1)) from ⟨d4, d5⟩)
        have HD0 := Lib.hid d0
        have HD3 := Lib.hid d3
        clear d0 d1 d2 d3 d4 d5
        go_wp2
        obtain ⟨wo, rfl⟩ : ∃ wo : World, wo = wr := ⟨_, rfl⟩
        go_loopw [7] (fun v wi => ∃ k : Nat, i + 2 ≤ k ∧ k ≤ n + 1 ∧ v = .int .i64 k ∧ Hid (∀ k', k' < k → k' < n → hitP (ptH xs (bts s)) n i k' = false) ∧ Hid (Ext w2 wi)) (fun v _ => n + 1 - (intOf v).toNat)
        case atStart => exact ⟨i + 2, Nat.le_refl _, by omega, by go_num, Lib.hid (fun k' h1 h2 => HLow.out i k' (by omega)), HER⟩
        case round =>
          obtain ⟨k, hk1, hk2, rfl, HK, HEI⟩ := hrel
          by_cases hkn : k < n
          · obtain ⟨g2, d0, d1, d2⟩ := HPA.out k (by omega)
            obtain ⟨g3', d3, d4, d5⟩ := HPA.out (k + 1) (by omega)
            rw [ptsH_at _ _ _ _ (by omega)] at d1 d2 d4 d5
            have HK0 := Lib.hid (PtC.ext (show PtC w2 g2 (ptH xs (bts s) k) from ⟨d1, d2⟩) HEI.out)
            have HK1 := Lib.hid (PtC.ext (show PtC w2 g3' (ptH xs (bts s) (k + 1)) from ⟨d4, d5⟩) HEI.out)
            have HI0' := Lib.hid (HI0.out.ext HEI.out)
            have HI1' := Lib.hid (HI1.out.ext HEI.out)
            have q0 := HEI.out.cell HD0.out
            have q1 := HEI.out.cell HD3.out
            have q2 := HEI.out.cell d0
            have q3 := HEI.out.cell d3
            clear d0 d1 d2 d3 d4 d5
            by_cases hg : i = 0 ∧ k + 1 = n
            · obtain ⟨rfl, hkn1⟩ := hg
              have HN2 := Lib.hid (HLast.out k hkn1)
              have hr0 : ((k : Int) == (n : Int) - 1) = true := by rw [beq_iff_eq]; omega
              go_wp2
              go_roundw
              case rel => exact ⟨k + 1, by omega, by omega, by go_num, Lib.hid (fun k' h1 h2 => by rcases Nat.lt_or_eq_of_le (Nat.le_of_lt_succ h1) with h | rfl; exact HK.out k' h h2; exact HN2.out), HEI⟩
              case measure => (simp [intOf] <;> omega)
            · have hme := HMeet.out i k hk1 hg
              obtain ⟨mb, hmb⟩ : ∃ b, meetB (ptH xs (bts s) i) (ptH xs (bts s) (i + 1)) (ptH xs (bts s) k) (ptH xs (bts s) (k + 1)) = b := ⟨_, rfl⟩
              rw [hmb] at hme
              have HM := Lib.hid hme
              have HC := Lib.hid (fun q => s_l07Meet g0 g1 g2 g3' _ _ _ _ (wr.drewN q) (HI0'.out.drewN q) (HI1'.out.drewN q) (HK0.out.drewN q) (HK1.out.drewN q))
              rw [hmb] at HC
              clear hme hmb
              by_cases hi0 : i = 0
              · subst hi0
                have hr0 : ((k : Int) == (n : Int) - 1) = false := by rw [beq_eq_false_iff_ne]; omega
                clear hg
                cases mb
                case false =>
                  go_upto_region 12 with fail
                  go_quiet ((go_at_call 36; exact Calls.quiet_of (HC.out _)))
                  go_wp2
                  go_roundw
                  case rel => exact ⟨k + 1, by omega, by omega, by go_num, Lib.hid (fun k' h1 h2 => by rcases Nat.lt_or_eq_of_le (Nat.le_of_lt_succ h1) with h | rfl; exact HK.out k' h h2; exact HM.out), Lib.hid (HEI.out.drewN _)⟩
                  case measure => (simp [intOf] <;> omega)
                case true =>
                  have HRF := Lib.hid (HHit.out _ k hlt hkn HM.out)
                  go_upto_region 12 with fail
                  go_quiet ((go_at_call 36; exact Calls.quiet_of (HC.out _)))
                  go_wp2
                  go_ret2
                  exact RetE.mk (by rw [HRF.out]; rfl) (E2.out.trans (HEI.out.drewN _))
              · have hr0 : ((i : Int) == 0) = false := by rw [beq_eq_false_iff_ne]; omega
                clear hg
                cases mb
                case false =>
                  go_upto_region 12 with fail
                  go_quiet ((go_at_call 36; exact Calls.quiet_of (HC.out _)))
                  go_wp2
                  go_roundw
                  case rel => exact ⟨k + 1, by omega, by omega, by go_num, Lib.hid (fun k' h1 h2 => by rcases Nat.lt_or_eq_of_le (Nat.le_of_lt_succ h1) with h | rfl; exact HK.out k' h h2; exact HM.out), Lib.hid (HEI.out.drewN _)⟩
                  case measure => (simp [intOf] <;> omega)
                case true =>
                  have HRF := Lib.hid (HHit.out _ k hlt hkn HM.out)
                  go_upto_region 12 with fail
                  go_quiet ((go_at_call 36; exact Calls.quiet_of (HC.out _)))
                  go_wp2
                  go_ret2
                  exact RetE.mk (by rw [HRF.out]; rfl) (E2.out.trans (HEI.out.drewN _))
          · go_wp2
            go_roundw
            case rel => exact ⟨i + 1, by omega, by go_num, Lib.hid (fun i' h1 k' h2 => by rcases Nat.lt_or_eq_of_le (Nat.le_of_lt_succ h1) with h | rfl; exact HN.out i' h k' h2; exact HK.out k' (by omega) h2), HEI⟩
            case measure => (simp [intOf] <;> omega)
      · obtain rfl : i = n := by omega
        have HRT := Lib.hid (HNone.out HN.out)
        go_wp2
        go_ret2
        exact RetE.mk (by rw [HRT.out]; rfl) (E2.out.trans HER.out)
end Go.Proofs.YtaokeaiehjgbnaaGreatDoor
