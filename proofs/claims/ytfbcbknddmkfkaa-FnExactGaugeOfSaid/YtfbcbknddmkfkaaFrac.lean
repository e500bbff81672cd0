/- Contracts of fractions in lowest terms, and of the two functions that give the gauge of a storey. -/
import Derived.Test.YtfbcbknddmkfkaaBasic
namespace Go.Proofs.Ytfbcbknddmkfkaa
open Go.RowKit
set_option linter.unusedSimpArgs false
set_option linter.unusedVariables false

theorem s_l02Gcd (a b : Int) (a1 : 0 ≤ a) (a2 : a ≤ 1000000000000) (b1 : 0 ≤ b) (b2 : b ≤ 1000000000000) (w : World) :
    Calls Try.prog 89 #[.int .i64 a, .int .i64 b] w (RetV (.int .i64 (gcdI a b)) w) := by
  obtain ⟨x, rfl⟩ := Int.eq_ofNat_of_zero_le a1
  obtain ⟨y, rfl⟩ := Int.eq_ofNat_of_zero_le b1
  go_enter Try.func89, Try.ntmps89
  go_wp2
  go_loop [0, 1] (fun p q => ∃ i j : Nat, p = .int .i64 i ∧ q = .int .i64 j ∧ i ≤ 1000000000000 ∧ j ≤ 1000000000000 ∧ Nat.gcd i j = Nat.gcd x y) (fun _ q => (intOf q).toNat)
  case atStart => exact ⟨x, y, rfl, rfl, by omega, by omega, rfl⟩
  case round =>
    obtain ⟨i, j, rfl, rfl, hi, hj, hg⟩ := hrel
    have HG := Lib.hid hg
    clear hg
    by_cases hj0 : j = 0
    · subst hj0
      go_wp2
      go_ret
      exact RetV.mk (int_eq (by unfold gcdI; rw [Int.toNat_natCast, Int.toNat_natCast, ← HG.out, Nat.gcd_zero_right]))
    · have hne : ((j : Int) == 0) = false := by simp; omega
      have hne2 : ((j : Int) != 0) = true := by simp; omega
      have hpos : (0 : Int) < (j : Int) := by omega
      have hmod : (i : Int) % (j : Int) = ((i % j : Nat) : Int) := by omega
      have hlt := Nat.mod_lt i (show 0 < j by omega)
      have HM := Lib.hid hmod
      clear hmod
      go_wp2
      go_round
      case rel => exact ⟨j, i % j, rfl, by rw [HM.out], by omega, by omega, by rw [← HG.out, Nat.gcd_comm j (i % j), ← Nat.gcd_rec, Nat.gcd_comm]⟩
      case measure =>
        rw [HM.out]
        simp [intOf]; omega
theorem i_gcd (a b : Int) (a1 : 0 ≤ a) (a2 : a ≤ 1000000000000) (b1 : 0 ≤ b) (b2 : b ≤ 1000000000000) (w : World) :
    Calls Try.prog 90 #[.int .i64 a, .int .i64 b] w (RetE (.int .i64 (gcdI a b)) w) := by
  obtain ⟨x, rfl⟩ := Int.eq_ofNat_of_zero_le a1
  obtain ⟨y, rfl⟩ := Int.eq_ofNat_of_zero_le b1
  go_enter Try.func90, Try.ntmps90
  go_wp2
  go_loopw [0, 1] (fun p q wr => ∃ i j : Nat, p = .int .i64 i ∧ q = .int .i64 j ∧ i ≤ 1000000000000 ∧ j ≤ 1000000000000 ∧ Nat.gcd i j = Nat.gcd x y ∧ Ext w wr) (fun _ q _ => (intOf q).toNat)
  case atStart => exact ⟨x, y, rfl, rfl, by omega, by omega, rfl, Ext.refl _⟩
  case round =>
    obtain ⟨i, j, rfl, rfl, hi, hj, hg, er⟩ := hrel
    have HG := Lib.hid hg
    clear hg
    by_cases hj0 : j = 0
    · subst hj0
      go_wp2
      go_ret
      refine RetE.mk (int_eq ?_) er
      unfold gcdI
      rw [Int.toNat_natCast, Int.toNat_natCast, ← HG.out, Nat.gcd_zero_right]
    · have hne : ((j : Int) == 0) = false := by simp; omega
      have hne2 : ((j : Int) != 0) = true := by simp; omega
      have hpos : (0 : Int) < (j : Int) := by omega
      have hj0' : ¬ (j : Int) = 0 := by omega
      have hmod : (i : Int) % (j : Int) = ((i % j : Nat) : Int) := by omega
      have hlt := Nat.mod_lt i (show 0 < j by omega)
      have HM := Lib.hid hmod
      clear hmod
      go_wp2
      go_quiet (fail)
      go_wp2
      go_roundw
      case rel => exact ⟨j, i % j, rfl, by rw [HM.out], by omega, by omega, by rw [← HG.out, Nat.gcd_comm j (i % j), ← Nat.gcd_rec, Nat.gcd_comm], er.drewN _⟩
      case measure =>
        rw [HM.out]
        simp [intOf]; omega

def frac (n d : Int) : Value := .agg #[.int .i64 n, .int .i64 d]
def lowN (n d : Int) : Int := n / gcdI n d
def lowD (n d : Int) : Int := d / gcdI n d
theorem i_lowest (n d : Int) (n1 : 0 ≤ n) (n2 : n ≤ 1000000000000) (d1 : 1 ≤ d) (d2 : d ≤ 1000000000000) (w : World) :
    Calls Try.prog 59 #[.int .i64 n, .int .i64 d] w (RetE (.agg #[.int .i64 (lowN n d), .int .i64 (lowD n d)]) w) := by
  have g1 := gcdI_pos n d d1
  have g2 := gcdI_le n d d1
  have g3 : ¬ gcdI n d = 0 := by omega
  have hlN : Hid (lowN n d = n / gcdI n d) := rfl
  have hlD : Hid (lowD n d = d / gcdI n d) := rfl
  go_enter Try.func59, Try.ntmps59
  go_wp2_with (go_at_call 90; refine (i_gcd _ _ (by omega) (by omega) (by omega) (by omega) _).mono ?_; rintro e w1 ⟨rfl, e1⟩)
  have hb : w1.heap[w.heap.size]? = some (.cells #[.int .i64 0, .int .i64 0] 30 (0, 0)) := e1.block (heap_alloc_new w _)
  have hc0 : w1.cell? ⟨w.heap.size, 0, none⟩ = some (.int .i64 0) := by simp [World.cell?, hb]
  have hc1 : w1.cell? ⟨w.heap.size, 1, none⟩ = some (.int .i64 0) := by simp [World.cell?, hb]
  have hf0 : w1.frozen? ⟨w.heap.size, 0, none⟩ = false := by simp [World.frozen?, hb]
  have hf1 : w1.frozen? ⟨w.heap.size, 1, none⟩ = false := by simp [World.frozen?, hb]
  clear hb
  have e2 : Ext w w1 := ((Ext.refl w).alloc _).trans e1
  go_region
  go_wp2
  refine bodyPost_ret (v := .agg #[.int .i64 (lowN n d), .int .i64 (lowD n d)]) (by simp [results, Try.results59, go_sem, hlN.out, hlD.out, hc0, hc1]) rfl ⟨rfl, ?_⟩
  repeat' (first | exact e2 | refine Ext.drew ?_ | refine Ext.setCell ?_ (Nat.le_refl _) _)
theorem s_l02Make (n d : Int) (n1 : 0 ≤ n) (n2 : n ≤ 1000000000000) (d1 : 1 ≤ d) (d2 : d ≤ 1000000000000) (w : World) :
    Calls Try.prog 58 #[.int .i64 n, .int .i64 d] w (RetE (.agg #[.int .i64 (lowN n d), .int .i64 (lowD n d)]) w) := by
  have g1 := gcdI_pos n d d1
  have g2 := gcdI_le n d d1
  have g3 : ¬ gcdI n d = 0 := by omega
  have hlN : Hid (lowN n d = n / gcdI n d) := rfl
  have hlD : Hid (lowD n d = d / gcdI n d) := rfl
  have hab : absI n = n := absI_of_nonneg n1
  go_enter Try.func58, Try.ntmps58
  go_wp2_with (first | (go_at_call 83; refine (s_l02Size_abs _ (by omega) (by omega) _).mono ?_; rw [hab]; rintro e w1 ⟨rfl, rfl⟩) | (go_at_call 89; refine (s_l02Gcd _ _ (by omega) (by omega) (by omega) (by omega) _).mono ?_; rintro e w1 ⟨rfl, rfl⟩))
  go_region
  go_wp2
  refine bodyPost_ret (v := .agg #[.int .i64 (lowN n d), .int .i64 (lowD n d)]) (by simp [results, Try.results58, go_sem, hlN.out, hlD.out]) rfl ⟨rfl, ?_⟩
  repeat' (first | exact Ext.refl _ | refine Ext.drew ?_ | refine Ext.setCell ?_ (Nat.le_refl _) _ | refine Ext.alloc ?_ _)
/-! ### the gauge of a storey -/
def gauN (h c : Int) : Int := sel (gcode h c) (lowN h c) 0
def gauD (h c : Int) : Int := sel (gcode h c) (lowD h c) 0
theorem gcode_bd {h c : Int} (g : gcode h c = true) : 100 ≤ h ∧ h ≤ 6000 ∧ 1 ≤ c ∧ c ≤ 40 := by simp [gcode, inB] at g; omega
def RetFrac (p q c : Int) (w : World) (e : Ending) (w' : World) : Prop := e = .returned (.tuple #[.agg #[.int .i64 p, .int .i64 q], .int .i64 c]) ∧ Ext w w'
theorem i_GaugeOf (h c : Int) (w : World) :
    Calls Try.prog 22 #[.int .i64 h, .int .i64 c] w (RetFrac (gauN h c) (gauD h c) (sel (gcode h c) 0 2) w) := by
  by_cases g : gcode h c = true
  · obtain ⟨h1, h2, c1, c2⟩ := gcode_bd g
    have eN : Hid (gauN h c = lowN h c) := sel_t g _ _
    have eD : Hid (gauD h c = lowD h c) := sel_t g _ _
    have eC : Hid (sel (gcode h c) 0 2 = 0) := sel_t g _ _
    go_enter Try.func22, Try.ntmps22
    go_wp2_with (go_at_call 53; refine (i_isStorey _ _ _).mono ?_; rw [g]; rintro e w1 ⟨rfl, rfl⟩)
    refine (i_lowest _ _ (by omega) (by omega) (by omega) (by omega) _).mono ?_
    rintro e w1 ⟨rfl, e1⟩
    have hb : w1.heap[w.heap.size]? = some (.cells #[.int .i64 0, .int .i64 0] 30 (0, 0)) := e1.block (heap_alloc_new w _)
    have hc0 : w1.cell? ⟨w.heap.size, 0, none⟩ = some (.int .i64 0) := by simp [World.cell?, hb]
    have hc1 : w1.cell? ⟨w.heap.size, 1, none⟩ = some (.int .i64 0) := by simp [World.cell?, hb]
    have hf0 : w1.frozen? ⟨w.heap.size, 0, none⟩ = false := by simp [World.frozen?, hb]
    have hf1 : w1.frozen? ⟨w.heap.size, 1, none⟩ = false := by simp [World.frozen?, hb]
    have e2 : Ext w w1 := ((Ext.refl w).alloc _).trans e1
    clear hb
    go_wp2
    refine bodyPost_ret (v := .tuple #[.agg #[.int .i64 (gauN h c), .int .i64 (gauD h c)], .int .i64 (sel (gcode h c) 0 2)]) (by simp [results, Try.results22, go_sem, eN.out, eD.out, eC.out, hc0, hc1]) rfl ⟨rfl, ?_⟩
    repeat' (first | exact e2 | refine Ext.drew ?_ | refine Ext.setCell ?_ (Nat.le_refl _) _)
  · have eN : Hid (gauN h c = 0) := sel_f g _ _
    have eD : Hid (gauD h c = 0) := sel_f g _ _
    have eC : Hid (sel (gcode h c) 0 2 = 2) := sel_f g _ _
    rw [Bool.not_eq_true] at g
    go_enter Try.func22, Try.ntmps22
    go_wp2_with (go_at_call 53; refine (i_isStorey _ _ _).mono ?_; rw [g]; rintro e w1 ⟨rfl, rfl⟩)
    refine bodyPost_ret (v := .tuple #[.agg #[.int .i64 (gauN h c), .int .i64 (gauD h c)], .int .i64 (sel (gcode h c) 0 2)]) (by simp [results, Try.results22, go_sem, eN.out, eD.out, eC.out]) rfl ⟨rfl, ?_⟩
    repeat' (first | exact Ext.refl _ | refine Ext.drew ?_ | refine Ext.setCell ?_ (Nat.le_refl _) _ | refine Ext.alloc ?_ _)
theorem s_GaugeOf (h c : Int) (w : World) :
    Calls Try.prog 21 #[.int .i64 h, .int .i64 c] w (RetFrac (gauN h c) (gauD h c) (sel (gcode h c) 0 2) w) := by
  by_cases g : gcode h c = true
  · obtain ⟨h1, h2, c1, c2⟩ := gcode_bd g
    have eN : Hid (gauN h c = lowN h c) := sel_t g _ _
    have eD : Hid (gauD h c = lowD h c) := sel_t g _ _
    have eC : Hid (sel (gcode h c) 0 2 = 0) := sel_t g _ _
    go_enter Try.func21, Try.ntmps21
    go_wp2_with (go_at_call 50; refine (s_l10Code _ _ _).mono ?_; rw [eC.out]; rintro e w1 ⟨rfl, rfl⟩)
    refine (s_l02Make _ _ (by omega) (by omega) (by omega) (by omega) _).mono ?_
    rintro e w1 ⟨rfl, e1⟩
    have hb : w1.heap[w.heap.size]? = some (.cells #[.int .i64 0, .int .i64 0] 30 (0, 0)) := e1.block (heap_alloc_new w _)
    have hc0 : w1.cell? ⟨w.heap.size, 0, none⟩ = some (.int .i64 0) := by simp [World.cell?, hb]
    have hc1 : w1.cell? ⟨w.heap.size, 1, none⟩ = some (.int .i64 0) := by simp [World.cell?, hb]
    have hf0 : w1.frozen? ⟨w.heap.size, 0, none⟩ = false := by simp [World.frozen?, hb]
    have hf1 : w1.frozen? ⟨w.heap.size, 1, none⟩ = false := by simp [World.frozen?, hb]
    have e2 : Ext w w1 := ((Ext.refl w).alloc _).trans e1
    clear hb
    go_wp2
    refine bodyPost_ret (v := .tuple #[.agg #[.int .i64 (gauN h c), .int .i64 (gauD h c)], .int .i64 (sel (gcode h c) 0 2)]) (by simp [results, Try.results21, go_sem, eN.out, eD.out, eC.out, hc0, hc1]) rfl ⟨rfl, ?_⟩
    repeat' (first | exact e2 | refine Ext.drew ?_ | refine Ext.setCell ?_ (Nat.le_refl _) _)
  · have eN : Hid (gauN h c = 0) := sel_f g _ _
    have eD : Hid (gauD h c = 0) := sel_f g _ _
    have eC : Hid (sel (gcode h c) 0 2 = 2) := sel_f g _ _
    go_enter Try.func21, Try.ntmps21
    go_wp2_with (go_at_call 50; refine (s_l10Code _ _ _).mono ?_; rw [eC.out]; rintro e w1 ⟨rfl, rfl⟩)
    refine bodyPost_ret (v := .tuple #[.agg #[.int .i64 (gauN h c), .int .i64 (gauD h c)], .int .i64 (sel (gcode h c) 0 2)]) (by simp [results, Try.results21, go_sem, eN.out, eD.out, eC.out]) rfl ⟨rfl, ?_⟩
    repeat' (first | exact Ext.refl _ | refine Ext.drew ?_ | refine Ext.setCell ?_ (Nat.le_refl _) _ | refine Ext.alloc ?_ _)
theorem l_eqFraction (p q : Int) (w : World) :
    Calls Try.prog 23 #[.agg #[.int .i64 p, .int .i64 q], .agg #[.int .i64 p, .int .i64 q]] w (RetE (.bool true) w) := by
  go_enter Try.func23, Try.ntmps23
  go_wp2
  go_ret
  refine RetE.mk rfl ?_
  repeat' (first | exact Ext.refl _ | refine Ext.alloc ?_ _)
end Go.Proofs.Ytfbcbknddmkfkaa
