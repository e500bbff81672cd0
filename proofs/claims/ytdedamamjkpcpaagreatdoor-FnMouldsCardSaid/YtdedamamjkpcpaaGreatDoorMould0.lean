/- Contracts of moulds and formats: what makes them valid, and a size after firing; on both sides. -/
import Derived.Test.YtdedamamjkpcpaaGreatDoorGauge
import Derived.Test.YtdedamamjkpcpaaGreatDoorMouldM
import Derived.Test.YtdedamamjkpcpaaGreatDoorLawInts
namespace Go.Proofs.YtdedamamjkpcpaaGreatDoor
open Go.RowKit
set_option linter.unusedSimpArgs false
set_option linter.unusedVariables false
set_option linter.unnecessarySimpa false

/-- a mould is valid -/
def mouldB (a b c d : Int) : Bool := inB a 30 800 && (inB b 30 800 && (inB c 30 800 && inB d 0 100000))
/-- a format is valid -/
def fmtB (a b c d : Int) : Bool := inB a 100 500 && (inB b 50 250 && (inB c 30 150 && (inB d 0 20 && decide (b < a))))
theorem mouldB_bd {a b c d : Int} (h : mouldB a b c d = true) : (30 ≤ a ∧ a ≤ 800) ∧ (30 ≤ b ∧ b ≤ 800) ∧ (30 ≤ c ∧ c ≤ 800) ∧ (0 ≤ d ∧ d ≤ 100000) := by
  unfold mouldB at h
  simp only [Bool.and_eq_true, inB_iff] at h
  exact h
theorem fmtB_bd {a b c d : Int} (h : fmtB a b c d = true) : (100 ≤ a ∧ a ≤ 500) ∧ (50 ≤ b ∧ b ≤ 250) ∧ (30 ≤ c ∧ c ≤ 150) ∧ (0 ≤ d ∧ d ≤ 20) := by
  unfold fmtB at h
  simp only [Bool.and_eq_true, inB_iff] at h
  exact ⟨h.1, h.2.1, h.2.2.1, h.2.2.2.1⟩
set_option maxHeartbeats 800000 in
theorem i_validMould (a b c d : Int) (w : World) : Calls Tryz.prog 35 #[.agg #[.int .i64 a, .int .i64 b, .int .i64 c, .int .i64 d]] w (RetE (.bool (mouldB a b c d)) w) := by
  have h1 := fun W => i_within a 30 800 W
  have h2 := fun W => i_within b 30 800 W
  have h3 := fun W => i_within c 30 800 W
  have h4 := fun W => i_within d 0 100000 W
  unfold mouldB
  have hE : Hid (Ext w (w.alloc (.cells #[.int .i64 a, .int .i64 b, .int .i64 c, .int .i64 d] 29))) := Lib.hid ((Ext.refl w).alloc _)
  generalize inB a 30 800 = x1 at *
  generalize inB b 30 800 = x2 at *
  generalize inB c 30 800 = x3 at *
  generalize inB d 0 100000 = x4 at *
  have H1 := Lib.hid h1
  have H2 := Lib.hid h2
  have H3 := Lib.hid h3
  have H4 := Lib.hid h4
  clear h1 h2 h3 h4
  cases x1
  case false =>
    go_enter Tryz.func35, Tryz.ntmps35
    go_wp2_with fail
    refine (H1.out _).mono ?_
    rintro e w' ⟨rfl, rfl⟩
    go_wp2
    go_ret
    exact RetE.mk rfl hE.out
  case true =>
    cases x2
    case false =>
      go_enter Tryz.func35, Tryz.ntmps35
      go_wp2_with fail
      refine (H1.out _).mono ?_
      rintro e w' ⟨rfl, rfl⟩
      go_wp2_with fail
      refine (H2.out _).mono ?_
      rintro e w' ⟨rfl, rfl⟩
      go_wp2
      go_ret
      exact RetE.mk rfl hE.out
    case true =>
      cases x3
      case false =>
        go_enter Tryz.func35, Tryz.ntmps35
        go_wp2_with fail
        refine (H1.out _).mono ?_
        rintro e w' ⟨rfl, rfl⟩
        go_wp2_with fail
        refine (H2.out _).mono ?_
        rintro e w' ⟨rfl, rfl⟩
        go_wp2_with fail
        refine (H3.out _).mono ?_
        rintro e w' ⟨rfl, rfl⟩
        go_wp2
        go_ret
        exact RetE.mk rfl hE.out
      case true =>
        go_enter Tryz.func35, Tryz.ntmps35
        go_wp2_with fail
        refine (H1.out _).mono ?_
        rintro e w' ⟨rfl, rfl⟩
        go_wp2_with fail
        refine (H2.out _).mono ?_
        rintro e w' ⟨rfl, rfl⟩
        go_wp2_with fail
        refine (H3.out _).mono ?_
        rintro e w' ⟨rfl, rfl⟩
        go_wp2_with fail
        refine (H4.out _).mono ?_
        rintro e w' ⟨rfl, rfl⟩
        go_wp2
        go_ret
        exact RetE.mk (by cases x4 <;> rfl) hE.out
theorem i_fired (n s : Int) (h0 : 0 ≤ n) (h1 : n ≤ 2000) (s0 : 0 ≤ s) (s1 : s ≤ 1000) (w : World) : Calls Tryz.prog 30 #[.int .i64 n, .int .i64 s] w (RetV (.int .i64 (fireI n s)) w) := by
  have hm : 0 ≤ n * (1000 - s) ∧ n * (1000 - s) ≤ 2000000 := by
    have a1 := Int.mul_nonneg h0 (show 0 ≤ 1000 - s by omega)
    have a2 : n * (1000 - s) ≤ n * 1000 := Int.mul_le_mul_of_nonneg_left (by omega) h0
    omega
  have HF : Hid ((2 * (n * (1000 - s)) + 1000) / 2000 = fireI n s) := Lib.hid (by unfold fireI; rw [Int.mul_assoc])
  obtain ⟨m, hmm⟩ : ∃ m, n * (1000 - s) = m := ⟨_, rfl⟩
  rw [hmm] at hm HF
  have HR : Hid (Calls Tryz.prog 59 #[.int .i64 m, .int .i64 1000] w (RetV (.int .i64 ((2 * m + 1000) / 2000)) w)) := Lib.hid (by have h := i_rounded m 1000 hm.1 (by omega) (by decide) (by decide) w; rw [show (2 * m + 1000) / (2 * 1000) = (2 * m + 1000) / 2000 from rfl] at h; exact h)
  go_enter Tryz.func30, Tryz.ntmps30
  go_wp2_with fail
  refine HR.out.mono ?_
  rintro e w' ⟨rfl, rfl⟩
  go_wp2
  go_ret
  exact RetV.mk (by rw [HF.out]; rfl)
theorem s_l05Fired (n s : Int) (h0 : 0 ≤ n) (h1 : n ≤ 2000) (s0 : 0 ≤ s) (s1 : s ≤ 1000) (w : World) : Calls Tryz.prog 46 #[.int .i64 n, .int .i64 s] w (RetV (.int .i64 (fireI n s)) w) := by
  have hm : 0 ≤ 2 * n * (1000 - s) ∧ 2 * n * (1000 - s) ≤ 4000000 := by
    have a1 := Int.mul_nonneg (show 0 ≤ 2 * n by omega) (show 0 ≤ 1000 - s by omega)
    have a2 : 2 * n * (1000 - s) ≤ 2 * n * 1000 := Int.mul_le_mul_of_nonneg_left (by omega) (by omega)
    omega
  have HF : Hid ((2 * n * (1000 - s) + 1000) / 2000 = fireI n s) := Lib.hid rfl
  obtain ⟨m, hmm⟩ : ∃ m, 2 * n * (1000 - s) = m := ⟨_, rfl⟩
  rw [hmm] at hm HF
  go_enter Tryz.func46, Tryz.ntmps46
  go_wp2
  go_ret
  exact RetV.mk (by rw [← HF.out]; rfl)
set_option maxHeartbeats 1600000 in
theorem i_ValidFormat (a b c d : Int) (w : World) : Calls Tryz.prog 27 #[.agg #[.int .i64 a, .int .i64 b, .int .i64 c, .int .i64 d]] w (RetE (.bool (fmtB a b c d)) w) := by
  have h1 := fun W => i_within a 100 500 W
  have h2 := fun W => i_within b 50 250 W
  have h3 := fun W => i_within c 30 150 W
  have h4 := fun W => i_within d 0 20 W
  unfold fmtB
  have hE : Hid (Ext w (w.alloc (.cells #[.int .i64 a, .int .i64 b, .int .i64 c, .int .i64 d] 25))) := Lib.hid ((Ext.refl w).alloc _)
  generalize inB a 100 500 = x1 at *
  generalize inB b 50 250 = x2 at *
  generalize inB c 30 150 = x3 at *
  generalize inB d 0 20 = x4 at *
  have H1 := Lib.hid h1
  have H2 := Lib.hid h2
  have H3 := Lib.hid h3
  have H4 := Lib.hid h4
  clear h1 h2 h3 h4
  cases x1
  case false =>
    go_enter Tryz.func27, Tryz.ntmps27
    go_wp2_with fail
    refine (H1.out _).mono ?_
    rintro e w' ⟨rfl, rfl⟩
    go_wp2
    go_ret
    exact RetE.mk rfl hE.out
  case true =>
    cases x2
    case false =>
      go_enter Tryz.func27, Tryz.ntmps27
      go_wp2_with fail
      refine (H1.out _).mono ?_
      rintro e w' ⟨rfl, rfl⟩
      go_wp2_with fail
      refine (H2.out _).mono ?_
      rintro e w' ⟨rfl, rfl⟩
      go_wp2
      go_ret
      exact RetE.mk rfl hE.out
    case true =>
      cases x3
      case false =>
        go_enter Tryz.func27, Tryz.ntmps27
        go_wp2_with fail
        refine (H1.out _).mono ?_
        rintro e w' ⟨rfl, rfl⟩
        go_wp2_with fail
        refine (H2.out _).mono ?_
        rintro e w' ⟨rfl, rfl⟩
        go_wp2_with fail
        refine (H3.out _).mono ?_
        rintro e w' ⟨rfl, rfl⟩
        go_wp2
        go_ret
        exact RetE.mk rfl hE.out
      case true =>
        cases x4
        case false =>
          go_enter Tryz.func27, Tryz.ntmps27
          go_wp2_with fail
          refine (H1.out _).mono ?_
          rintro e w' ⟨rfl, rfl⟩
          go_wp2_with fail
          refine (H2.out _).mono ?_
          rintro e w' ⟨rfl, rfl⟩
          go_wp2_with fail
          refine (H3.out _).mono ?_
          rintro e w' ⟨rfl, rfl⟩
          go_wp2_with fail
          refine (H4.out _).mono ?_
          rintro e w' ⟨rfl, rfl⟩
          go_wp2
          go_ret
          exact RetE.mk rfl hE.out
        case true =>
          by_cases h5 : b < a
          · have HV : Hid (decide (b < a) = true) := Lib.hid (decide_eq_true h5)
            go_enter Tryz.func27, Tryz.ntmps27
            go_wp2_with fail
            refine (H1.out _).mono ?_
            rintro e w' ⟨rfl, rfl⟩
            go_wp2_with fail
            refine (H2.out _).mono ?_
            rintro e w' ⟨rfl, rfl⟩
            go_wp2_with fail
            refine (H3.out _).mono ?_
            rintro e w' ⟨rfl, rfl⟩
            go_wp2_with fail
            refine (H4.out _).mono ?_
            rintro e w' ⟨rfl, rfl⟩
            go_wp2
            go_ret
            exact RetE.mk (by rw [HV.out]; rfl) hE.out
          · have HV : Hid (decide (b < a) = false) := Lib.hid (decide_eq_false h5)
            go_enter Tryz.func27, Tryz.ntmps27
            go_wp2_with fail
            refine (H1.out _).mono ?_
            rintro e w' ⟨rfl, rfl⟩
            go_wp2_with fail
            refine (H2.out _).mono ?_
            rintro e w' ⟨rfl, rfl⟩
            go_wp2_with fail
            refine (H3.out _).mono ?_
            rintro e w' ⟨rfl, rfl⟩
            go_wp2_with fail
            refine (H4.out _).mono ?_
            rintro e w' ⟨rfl, rfl⟩
            go_wp2
            go_ret
            exact RetE.mk (by rw [HV.out]; rfl) hE.out
set_option maxHeartbeats 1600000 in
theorem s_l02Ok (a b c d : Int) (w : World) : Calls Tryz.prog 31 #[.agg #[.int .i64 a, .int .i64 b, .int .i64 c, .int .i64 d]] w (RetE (.bool (fmtB a b c d)) w) := by
  have h1 := fun W => s_l00In a 100 500 W
  have h2 := fun W => s_l00In b 50 250 W
  have h3 := fun W => s_l00In c 30 150 W
  have h4 := fun W => s_l00In d 0 20 W
  unfold fmtB
  have hE : Hid (Ext w (w.alloc (.cells #[.int .i64 a, .int .i64 b, .int .i64 c, .int .i64 d] 25))) := Lib.hid ((Ext.refl w).alloc _)
  generalize inB a 100 500 = x1 at *
  generalize inB b 50 250 = x2 at *
  generalize inB c 30 150 = x3 at *
  generalize inB d 0 20 = x4 at *
  have H1 := Lib.hid h1
  have H2 := Lib.hid h2
  have H3 := Lib.hid h3
  have H4 := Lib.hid h4
  clear h1 h2 h3 h4
  cases x1
  case false =>
    go_enter Tryz.func31, Tryz.ntmps31
    go_wp2_with fail
    refine (H1.out _).mono ?_
    rintro e w' ⟨rfl, rfl⟩
    go_wp2
    go_ret
    exact RetE.mk rfl hE.out
  case true =>
    cases x2
    case false =>
      go_enter Tryz.func31, Tryz.ntmps31
      go_wp2_with fail
      refine (H1.out _).mono ?_
      rintro e w' ⟨rfl, rfl⟩
      go_wp2_with fail
      refine (H2.out _).mono ?_
      rintro e w' ⟨rfl, rfl⟩
      go_wp2
      go_ret
      exact RetE.mk rfl hE.out
    case true =>
      cases x3
      case false =>
        go_enter Tryz.func31, Tryz.ntmps31
        go_wp2_with fail
        refine (H1.out _).mono ?_
        rintro e w' ⟨rfl, rfl⟩
        go_wp2_with fail
        refine (H2.out _).mono ?_
        rintro e w' ⟨rfl, rfl⟩
        go_wp2_with fail
        refine (H3.out _).mono ?_
        rintro e w' ⟨rfl, rfl⟩
        go_wp2
        go_ret
        exact RetE.mk rfl hE.out
      case true =>
        cases x4
        case false =>
          go_enter Tryz.func31, Tryz.ntmps31
          go_wp2_with fail
          refine (H1.out _).mono ?_
          rintro e w' ⟨rfl, rfl⟩
          go_wp2_with fail
          refine (H2.out _).mono ?_
          rintro e w' ⟨rfl, rfl⟩
          go_wp2_with fail
          refine (H3.out _).mono ?_
          rintro e w' ⟨rfl, rfl⟩
          go_wp2_with fail
          refine (H4.out _).mono ?_
          rintro e w' ⟨rfl, rfl⟩
          go_wp2
          go_ret
          exact RetE.mk rfl hE.out
        case true =>
          by_cases h5 : b < a
          · have HV : Hid (decide (b < a) = true) := Lib.hid (decide_eq_true h5)
            go_enter Tryz.func31, Tryz.ntmps31
            go_wp2_with fail
            refine (H1.out _).mono ?_
            rintro e w' ⟨rfl, rfl⟩
            go_wp2_with fail
            refine (H2.out _).mono ?_
            rintro e w' ⟨rfl, rfl⟩
            go_wp2_with fail
            refine (H3.out _).mono ?_
            rintro e w' ⟨rfl, rfl⟩
            go_wp2_with fail
            refine (H4.out _).mono ?_
            rintro e w' ⟨rfl, rfl⟩
            go_wp2
            go_ret
            exact RetE.mk (by rw [HV.out]; rfl) hE.out
          · have HV : Hid (decide (b < a) = false) := Lib.hid (decide_eq_false h5)
            go_enter Tryz.func31, Tryz.ntmps31
            go_wp2_with fail
            refine (H1.out _).mono ?_
            rintro e w' ⟨rfl, rfl⟩
            go_wp2_with fail
            refine (H2.out _).mono ?_
            rintro e w' ⟨rfl, rfl⟩
            go_wp2_with fail
            refine (H3.out _).mono ?_
            rintro e w' ⟨rfl, rfl⟩
            go_wp2_with fail
            refine (H4.out _).mono ?_
            rintro e w' ⟨rfl, rfl⟩
            go_wp2
            go_ret
            exact RetE.mk (by rw [HV.out]; rfl) hE.out
theorem i_isShrink (n : Int) (w : World) : Calls Tryz.prog 28 #[.int .i64 n] w (RetV (.bool (inB n 0 200)) w) := by
  have H := Lib.hid (i_within n 0 200 w)
  go_enter Tryz.func28, Tryz.ntmps28
  go_wp2_with fail
  refine H.out.mono ?_
  rintro e w' ⟨rfl, rfl⟩
  go_wp2
  go_ret
  exact RetV.mk rfl
theorem four_cells {w : World} {b : Nat} {x y z u : Value} {T : TypeId} (hb : w.heap[b]? = some (.cells #[x, y, z, u] T (0, 0))) :
    w.cell? ⟨b, 0, none⟩ = some x ∧ w.cell? ⟨b, 1, none⟩ = some y ∧ w.cell? ⟨b, 2, none⟩ = some z ∧ w.cell? ⟨b, 3, none⟩ = some u ∧ b < w.heap.size :=
  ⟨by simp [World.cell?, hb], by simp [World.cell?, hb], by simp [World.cell?, hb], by simp [World.cell?, hb], lt_of_block hb⟩
set_option maxHeartbeats 1600000 in
theorem s_l05One (pb : Nat) (a b c d : Int) (w : World) (hB : w.heap[pb]? = some (.cells #[.int .i64 a, .int .i64 b, .int .i64 c, .int .i64 d] 29 (0, 0))) : Calls Tryz.prog 37 #[.pointer (some ⟨pb, 0, none⟩)] w (RetV (.bool (mouldB a b c d)) w) := by
  have h1 := fun W => s_l00In a 30 800 W
  have h2 := fun W => s_l00In b 30 800 W
  have h3 := fun W => s_l00In c 30 800 W
  have h4 := fun W => s_l00In d 0 100000 W
  obtain ⟨c0, c1, c2, c3, c4⟩ := four_cells hB
  unfold mouldB
  generalize inB a 30 800 = x1 at *
  generalize inB b 30 800 = x2 at *
  generalize inB c 30 800 = x3 at *
  generalize inB d 0 100000 = x4 at *
  have H1 := Lib.hid h1
  have H2 := Lib.hid h2
  have H3 := Lib.hid h3
  have H4 := Lib.hid h4
  clear h1 h2 h3 h4 hB
  cases x1
  case false =>
    go_enter Tryz.func37, Tryz.ntmps37
    go_wp2_with fail
    refine (H1.out _).mono ?_
    rintro e w' ⟨rfl, rfl⟩
    go_wp2
    go_ret
    exact RetV.mk rfl
  case true =>
    cases x2
    case false =>
      go_enter Tryz.func37, Tryz.ntmps37
      go_wp2_with fail
      refine (H1.out _).mono ?_
      rintro e w' ⟨rfl, rfl⟩
      go_wp2_with fail
      refine (H2.out _).mono ?_
      rintro e w' ⟨rfl, rfl⟩
      go_wp2
      go_ret
      exact RetV.mk rfl
    case true =>
      cases x3
      case false =>
        go_enter Tryz.func37, Tryz.ntmps37
        go_wp2_with fail
        refine (H1.out _).mono ?_
        rintro e w' ⟨rfl, rfl⟩
        go_wp2_with fail
        refine (H2.out _).mono ?_
        rintro e w' ⟨rfl, rfl⟩
        go_wp2_with fail
        refine (H3.out _).mono ?_
        rintro e w' ⟨rfl, rfl⟩
        go_wp2
        go_ret
        exact RetV.mk rfl
      case true =>
        go_enter Tryz.func37, Tryz.ntmps37
        go_wp2_with fail
        refine (H1.out _).mono ?_
        rintro e w' ⟨rfl, rfl⟩
        go_wp2_with fail
        refine (H2.out _).mono ?_
        rintro e w' ⟨rfl, rfl⟩
        go_wp2_with fail
        refine (H3.out _).mono ?_
        rintro e w' ⟨rfl, rfl⟩
        go_wp2_with fail
        refine (H4.out _).mono ?_
        rintro e w' ⟨rfl, rfl⟩
        go_wp2
        go_ret
        exact RetV.mk (by cases x4 <;> rfl)
end Go.Proofs.YtdedamamjkpcpaaGreatDoor
