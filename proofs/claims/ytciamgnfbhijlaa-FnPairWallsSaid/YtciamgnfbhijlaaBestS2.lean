/- The reference's answers about best courses. -/
import Derived.Test.YtciamgnfbhijlaaBestS
import Derived.Test.YtciamgnfbhijlaaClash
namespace Go.Proofs.Ytciamgnfbhijlaa
open Go.RowKit
set_option linter.unusedSimpArgs false
set_option linter.unusedVariables false
set_option linter.unnecessarySimpa false

theorem run_field2 (a b : Int) (s : ByteArray) (w : World) : (Instr.field 64 (.agg #[.int .i64 a, .int .i64 b, .string s]) 2).run Try.prog w = .ok (.string s) w := by
  simp [Instr.field, run_underlying Try.underlying64, asAgg, part, isAgg, run_underlying Try.underlying9]
theorem run_field0 (a b : Int) (s : ByteArray) (w : World) : (Instr.field 64 (.agg #[.int .i64 a, .int .i64 b, .string s]) 0).run Try.prog w = .ok (.int .i64 a) w := by
  simp [Instr.field, run_underlying Try.underlying64, asAgg, part, isAgg, run_underlying Try.underlying2]
/-- a text and a code are handed back -/
def RetTC (t : ByteArray) (c : Int) (w : World) (e : Ending) (w' : World) : Prop := e = .returned (.tuple #[.string t, .int .i64 c]) ∧ Ext w w'
theorem RetTC.mk {t t' : ByteArray} {c c' : Int} {w w' : World} (h : t' = t) (k : c' = c) (e : Ext w w') : RetTC t c w (.returned (.tuple #[.string t', .int .i64 c'])) w' := ⟨by rw [h, k], e⟩
def PairE (a b : Int) (w : World) (e : Ending) (w' : World) : Prop := e = .returned (.tuple #[.int .i64 a, .int .i64 b]) ∧ Ext w w'
theorem PairE.mk {a b a' b' : Int} {w w' : World} (h : a' = a) (k : b' = b) (e : Ext w w') : PairE a b w (.returned (.tuple #[.int .i64 a', .int .i64 b'])) w' := ⟨by rw [h, k], e⟩
theorem nil_ints (w : World) (g : Nat) : Ints w (some ⟨g, 0, none⟩) 0 [] := ⟨rfl, by omega, fun i hi => by omega, by simp⟩
theorem nil_near : Near [] := fun x hx => by simp at hx
/-- the best course of a length -/
def bestL (L : Int) : Option Rw := if inB L 1 80 then best (farB 1 []) L L.toNat else none
def bestT (L : Int) : ByteArray := if inB L 1 80 then tS (best (farB 1 []) L L.toNat) else ByteArray.empty
def bestC (L : Int) : Int := if inB L 1 80 then cS (best (farB 1 []) L L.toNat) else 0
set_option maxRecDepth 100000 in
set_option maxHeartbeats 800000 in
theorem s_FewestCuts (L : Int) (w : World) : Calls Try.prog 24 #[.int .i64 L] w (PairE (bestC L) (sel (inB L 1 80) 0 2) w) := by
  by_cases g : inB L 1 80 = true
  · have ⟨g1, g2⟩ := inB_iff.1 g
    obtain ⟨N, rfl⟩ : ∃ N : Nat, L = N := ⟨L.toNat, by omega⟩
    have H1 := Lib.hid (fun W => s_l08Lengths (N : Int) 1 W)
    rw [g, show inB 1 1 4 = true by decide] at H1
    have HA := Lib.hid (fun W g => s_l08Above N (some ⟨g, 0, none⟩) 0 0 [] 1 W (by omega) (by omega) (nil_ints W g) nil_near)
    have HT : Hid (bestC N = cS (best (farB 1 []) N N)) := Lib.hid (by unfold bestC; rw [if_pos g]; rfl)
    have HC : Hid (sel (inB N 1 80) 0 2 = 0) := Lib.hid (sel_t g _ _)
    obtain ⟨o, ho⟩ : ∃ o, best (farB 1 []) (N : Int) N = o := ⟨_, rfl⟩
    rw [ho] at HA HT
    clear g ho
    have hfd := fun W => run_field0 (cS o) (pS o) (tS o) W
    go_enter Try.func24, Try.ntmps24
    go_wp2_with (first | (go_at_call 29; refine (H1.out _).mono ?_; rintro e w' ⟨rfl, rfl⟩) | (go_at_call 42; refine (HA.out _ _).mono ?_; rintro e w1 ⟨rfl, e1⟩; unfold cellsS))
    go_ret2
    exact PairE.mk HT.out.symm HC.out.symm (((Ext.refl w).alloc _).trans e1)
  · rw [Bool.not_eq_true] at g
    have H1 := Lib.hid (fun W => s_l08Lengths L 1 W)
    rw [g] at H1
    have HT : Hid (bestC L = 0) := Lib.hid (by unfold bestC; rw [g]; rfl)
    have HC : Hid (sel (inB L 1 80) 0 2 = 2) := Lib.hid (by rw [g]; rfl)
    clear g
    go_enter Try.func24, Try.ntmps24
    go_wp2_with (first | (go_at_call 29; refine (H1.out _).mono ?_; rintro e w' ⟨rfl, rfl⟩))
    go_ret2
    exact PairE.mk HT.out.symm HC.out.symm (Ext.refl _)
theorem qB_pos {b : UInt8} (h : isPc b = true) : 1 ≤ qB b := by
  have := qB_bd b
  unfold isPc at h
  simp at h
  omega
theorem qSum_ge (l : List UInt8) (h : l.all isPc = true) : (l.length : Int) ≤ qSum l := by
  induction l with
  | nil => simp [qSum]
  | cons b l ih =>
    rw [List.all_cons, Bool.and_eq_true] at h
    have h1 := qB_pos h.1
    have h2 := ih h.2
    rw [qSum_cons, List.length_cons]
    omega
/-- the code of a question for the best course above another one -/
def askC (s : ByteArray) (lap : Int) : Int :=
  if validC (bts s) then (if inB lap 1 4 then (if 80 < lenS s then 5 else (if (best (farB lap (perps (bts s))) (lenS s) (lenS s).toNat).isSome then 0 else 3)) else 2) else 1
def askO (s : ByteArray) (lap : Int) : Rw := if askC s lap = 0 then (best (farB lap (perps (bts s))) (lenS s) (lenS s).toNat).getD ⟨0, 0, []⟩ else ⟨0, 0, []⟩
def askV (s : ByteArray) (lap : Int) : Value := .tuple #[.agg #[.int .i64 (askO s lap).c, .int .i64 (askO s lap).p, .string (mkS (askO s lap).t)], .int .i64 (askC s lap)]
theorem askV_bad {s : ByteArray} {lap k : Int} (h : askC s lap = k) (hk : k ≠ 0) : Value.tuple #[.agg #[.int .i64 0, .int .i64 0, .string ⟨#[]⟩], .int .i64 k] = askV s lap := by
  subst h
  unfold askV askO
  rw [if_neg hk]
  rfl
set_option maxRecDepth 100000 in
set_option maxHeartbeats 1600000 in
theorem s_l08Asked (s : ByteArray) (lap : Int) (hs : s.size ≤ 9223372036854775807) (w : World) : Calls Try.prog 37 #[.string s, .int .i64 lap] w (RetE (askV s lap) w) := by
  have eW : Ext w (w.alloc (.cells #[.int .i64 0, .int .i64 0, .string ⟨#[]⟩] 64)) := (Ext.refl w).alloc _
  have hB : Box 64 (w.alloc (.cells #[.int .i64 0, .int .i64 0, .string ⟨#[]⟩] 64)) w.heap.size w.heap.size z3 := Box.new 64 w w.heap.size z3 (Nat.le_refl _)
  have HEW := Lib.hid eW
  have HB := Lib.hid hB
  clear eW hB
  by_cases g1 : validC (bts s) = true
  · have H1 : Hid (∀ W, Calls Try.prog 38 #[.string s] W (RetV (.bool true) W)) := Lib.hid (fun W => by rw [← g1]; exact s_l06Ok s hs W)
    have ⟨u1, u2, u3, u4⟩ := validC_bd g1
    rw [bts_length] at u1 u2
    by_cases g2 : inB lap 1 4 = true
    · have H2 : Hid (∀ W, Calls Try.prog 48 #[.int .i64 lap, .int .i64 1, .int .i64 4] W (RetV (.bool true) W)) := Lib.hid (fun W => by rw [← g2]; exact s_l00In _ _ _ W)
      have hq1 := qSum_ge (bts s) u3
      rw [bts_length] at hq1
      obtain ⟨N, hN⟩ : ∃ N : Nat, qSum (bts s) = N := ⟨(qSum (bts s)).toNat, by omega⟩
      have H3 : Hid (∀ W, Calls Try.prog 56 #[.string s] W (RetV (.int .i64 N) W)) := Lib.hid (fun W => by rw [← hN]; exact s_l06Length s (by omega) W)
      have hl : lenS s = (N : Int) := hN
      by_cases g3 : (80 : Int) < N
      · have HV : Hid (askC s lap = 5) := Lib.hid (by unfold askC; rw [if_pos g1, if_pos g2, hl, if_pos g3])
        clear g1 g2 hN hl u3 u4 hq1
        go_enter Try.func37, Try.ntmps37
        go_wp2_with (first | (go_at_call 38; refine (H1.out _).mono ?_; rintro e w' ⟨rfl, rfl⟩) | (go_at_call 48; refine (H2.out _).mono ?_; rintro e w' ⟨rfl, rfl⟩) | (go_at_call 56; refine (H3.out _).mono ?_; rintro e w' ⟨rfl, rfl⟩))
        refine bodyPost_ret (v := .tuple #[.agg #[.int .i64 0, .int .i64 0, .string ⟨#[]⟩], .int .i64 5]) (by simp [results, Try.results37, go_sem]) rfl (RetE.mk (askV_bad HV.out (by decide)) ?_)
        exact HEW.out
      · have hP := fun W => s_l06Perpends s u1 (by omega) W
        have hnear : Near (perps (bts s)) := fun x hx => by have := perps_bd (bts s) x hx; rw [bts_length] at this; omega
        have hA := fun W ao n c (h : Ints W ao n (perps (bts s))) => s_l08Above N ao n c (perps (bts s)) lap W (by omega) (by omega) h hnear
        obtain ⟨xs, hxs⟩ : ∃ xs, perps (bts s) = xs := ⟨_, rfl⟩
        have hgood := best_good (farB lap xs) (N : Int) N
        have hdef : askC s lap = if (best (farB lap xs) (N : Int) N).isSome then 0 else 3 := by unfold askC; rw [if_pos g1, if_pos g2, hl, if_neg g3, hxs]; rfl
        have hdefO : askO s lap = if askC s lap = 0 then (best (farB lap xs) (N : Int) N).getD ⟨0, 0, []⟩ else ⟨0, 0, []⟩ := by unfold askO; rw [hl, hxs]; rfl
        rw [hxs] at hP hA
        obtain ⟨o, ho⟩ : ∃ o, best (farB lap xs) (N : Int) N = o := ⟨_, rfl⟩
        rw [ho] at hA hdef hgood hdefO
        have HP := Lib.hid hP
        have HA := Lib.hid hA
        have HD := Lib.hid hdef
        have HDO := Lib.hid hdefO
        clear g1 g2 hN hl u3 u4 hq1 hP hA hnear hxs ho hdef hdefO
        rcases o with _ | r
        · have HV : Hid (askC s lap = 3) := Lib.hid (by rw [HD.out]; rfl)
          have k1 : cS none = -1 := rfl
          have k2 : pS none = 0 := rfl
          have k3 : tS none = ⟨#[]⟩ := rfl
          go_enter Try.func37, Try.ntmps37
          go_wp2_with (first | (go_at_call 38; refine (H1.out _).mono ?_; rintro e w' ⟨rfl, rfl⟩) | (go_at_call 48; refine (H2.out _).mono ?_; rintro e w' ⟨rfl, rfl⟩) | (go_at_call 56; refine (H3.out _).mono ?_; rintro e w' ⟨rfl, rfl⟩) | (go_at_call 57; refine (HP.out _).mono ?_; rintro e w1 ⟨a1, c1, rfl, o1, e1⟩))
          refine (HA.out _ _ _ _ o1.ints).mono ?_
          rintro e w2 ⟨rfl, e2⟩
          have E2 := e1.trans e2
          have HB2 := HB.out.ext E2
          have HEE := Lib.hid (HEW.out.trans E2)
          have HB3 := HB2.ext ((Ext.refl w2).alloc (.cells #[.int .i64 (-1), .int .i64 0, .string ⟨#[]⟩] 64))
          obtain ⟨a0, g0⟩ := HB3.at 0 (by decide) _ rfl
          obtain ⟨a1', g1'⟩ := HB3.at 1 (by decide) _ rfl
          obtain ⟨a2, g2'⟩ := HB3.at 2 (by decide) _ rfl
          clear HB2 HB3 e1 e2 E2 o1
          unfold cellsS
          go_wp2
          refine bodyPost_ret (v := .tuple #[.agg #[.int .i64 0, .int .i64 0, .string ⟨#[]⟩], .int .i64 3]) (by simp [results, Try.results37, go_sem, a0, a1', a2]) rfl (RetE.mk (askV_bad HV.out (by decide)) ?_)
          exact (((HEE.out.alloc _).setCell (Nat.le_refl _) _).setCell (Nat.le_refl _) _).setCell (Nat.le_refl _) _
        · have HV : Hid (askC s lap = 0) := Lib.hid (by rw [HD.out]; rfl)
          have HVO : Hid (askO s lap = r) := Lib.hid (by rw [HDO.out, if_pos HV.out]; rfl)
          have hbd := (hgood r rfl).bd
          have k1 : cS (some r) = r.c := rfl
          have k2 : pS (some r) = r.p := rfl
          have k3 : tS (some r) = mkS r.t := rfl
          go_enter Try.func37, Try.ntmps37
          go_wp2_with (first | (go_at_call 38; refine (H1.out _).mono ?_; rintro e w' ⟨rfl, rfl⟩) | (go_at_call 48; refine (H2.out _).mono ?_; rintro e w' ⟨rfl, rfl⟩) | (go_at_call 56; refine (H3.out _).mono ?_; rintro e w' ⟨rfl, rfl⟩) | (go_at_call 57; refine (HP.out _).mono ?_; rintro e w1 ⟨a1, c1, rfl, o1, e1⟩))
          refine (HA.out _ _ _ _ o1.ints).mono ?_
          rintro e w2 ⟨rfl, e2⟩
          have E2 := e1.trans e2
          have HB2 := HB.out.ext E2
          have HEE := Lib.hid (HEW.out.trans E2)
          have HB3 := HB2.ext ((Ext.refl w2).alloc (.cells #[.int .i64 r.c, .int .i64 r.p, .string (mkS r.t)] 64))
          obtain ⟨a0, g0⟩ := HB3.at 0 (by decide) _ rfl
          obtain ⟨a1', g1'⟩ := HB3.at 1 (by decide) _ rfl
          obtain ⟨a2, g2'⟩ := HB3.at 2 (by decide) _ rfl
          clear HB2 HB3 e1 e2 E2 o1
          unfold cellsS
          go_wp2
          refine bodyPost_ret (v := .tuple #[.agg #[.int .i64 r.c, .int .i64 r.p, .string (mkS r.t)], .int .i64 0]) (by simp [results, Try.results37, go_sem, a0, a1', a2]) rfl (RetE.mk (by unfold askV; rw [HVO.out, HV.out]) ?_)
          exact (((HEE.out.alloc _).setCell (Nat.le_refl _) _).setCell (Nat.le_refl _) _).setCell (Nat.le_refl _) _
    · rw [Bool.not_eq_true] at g2
      have HV : Hid (askC s lap = 2) := Lib.hid (by unfold askC; rw [if_pos g1, g2]; rfl)
      have H2 : Hid (∀ W, Calls Try.prog 48 #[.int .i64 lap, .int .i64 1, .int .i64 4] W (RetV (.bool false) W)) := Lib.hid (fun W => by rw [← g2]; exact s_l00In _ _ _ W)
      clear g1 g2 u3 u4
      go_enter Try.func37, Try.ntmps37
      go_wp2_with (first | (go_at_call 38; refine (H1.out _).mono ?_; rintro e w' ⟨rfl, rfl⟩) | (go_at_call 48; refine (H2.out _).mono ?_; rintro e w' ⟨rfl, rfl⟩))
      refine bodyPost_ret (v := .tuple #[.agg #[.int .i64 0, .int .i64 0, .string ⟨#[]⟩], .int .i64 2]) (by simp [results, Try.results37, go_sem]) rfl (RetE.mk (askV_bad HV.out (by decide)) ?_)
      exact HEW.out
  · rw [Bool.not_eq_true] at g1
    have HV : Hid (askC s lap = 1) := Lib.hid (by unfold askC; rw [g1]; rfl)
    have H1 : Hid (∀ W, Calls Try.prog 38 #[.string s] W (RetV (.bool false) W)) := Lib.hid (fun W => by rw [← g1]; exact s_l06Ok s hs W)
    clear g1
    go_enter Try.func37, Try.ntmps37
    go_wp2_with (first | (go_at_call 38; refine (H1.out _).mono ?_; rintro e w' ⟨rfl, rfl⟩))
    refine bodyPost_ret (v := .tuple #[.agg #[.int .i64 0, .int .i64 0, .string ⟨#[]⟩], .int .i64 1]) (by simp [results, Try.results37, go_sem]) rfl (RetE.mk (askV_bad HV.out (by decide)) ?_)
    exact HEW.out
set_option maxRecDepth 100000 in
set_option maxHeartbeats 800000 in
theorem s_CutsAbove (s : ByteArray) (lap : Int) (hs : s.size ≤ 9223372036854775807) (w : World) : Calls Try.prog 21 #[.string s, .int .i64 lap] w (PairE (askO s lap).c (askC s lap) w) := by
  have H := Lib.hid (s_l08Asked s lap hs w)
  unfold askV at H
  obtain ⟨a, ha⟩ : ∃ a, (askO s lap).c = a := ⟨_, rfl⟩
  obtain ⟨b, hb⟩ : ∃ b, (askO s lap).p = b := ⟨_, rfl⟩
  obtain ⟨t, ht⟩ : ∃ t, mkS (askO s lap).t = t := ⟨_, rfl⟩
  obtain ⟨c, hc⟩ : ∃ c, askC s lap = c := ⟨_, rfl⟩
  rw [ha, hb, ht, hc] at H
  rw [ha, hc]
  clear ha hb ht hc
  go_enter Try.func21, Try.ntmps21
  go_wp2_with (go_at_call 37; refine (H.out).mono ?_; rintro e w1 ⟨rfl, e1⟩)
  go_ret2
  exact PairE.mk rfl rfl (e1.alloc _)
end Go.Proofs.Ytciamgnfbhijlaa
