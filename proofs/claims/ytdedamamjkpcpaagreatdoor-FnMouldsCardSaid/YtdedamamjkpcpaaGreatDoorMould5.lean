/- Contracts: the least shrinkage between two sizes, on both sides. -/
import Derived.Test.YtdedamamjkpcpaaGreatDoorMould0
import Derived.Deep.DeepCutAuto
namespace Go.Proofs.YtdedamamjkpcpaaGreatDoor
open Go.RowKit
set_option linter.unusedSimpArgs false
set_option linter.unusedVariables false
set_option linter.unnecessarySimpa false

/-- the first shrinkage from j on that leads from one size to another; -1 if there is none up to 200 -/
def shrF (m b : Int) : Nat → Nat → Int
  | 0, _ => -1
  | f + 1, j => if fireI m j = b then j else shrF m b f (j + 1)
def shrV (m b : Int) : Int := shrF m b 201 0
def shrX (m b : Int) : Int := if inB m 30 800 = true ∧ inB b 30 800 = true then (if shrV m b < 0 then 0 else shrV m b) else 0
def shrC (m b : Int) : Int := if inB m 30 800 = true ∧ inB b 30 800 = true then (if shrV m b < 0 then 3 else 0) else 2
theorem shrF_hit {m b : Int} {f j : Nat} (h : fireI m j = b) : shrF m b (f + 1) j = j := if_pos h
theorem shrF_miss {m b : Int} {f j : Nat} (h : ¬ fireI m j = b) : shrF m b (f + 1) j = shrF m b f (j + 1) := if_neg h
set_option maxHeartbeats 1600000 in
theorem i_ShrinkBy (m b : Int) (w : World) : Calls Tryz.prog 15 #[.int .i64 m, .int .i64 b] w (Pair (shrX m b) (shrC m b) w) := by
  have h1 := fun W => i_within m 30 800 W
  have h2 := fun W => i_within b 30 800 W
  have HF := Lib.hid (fun (h0 : inB m 30 800 = true) (s : Int) (s0 : 0 ≤ s) (s1 : s ≤ 1000) W => i_fired m s (by have := inB_iff.1 h0; omega) (by have := inB_iff.1 h0; omega) s0 s1 W)
  cases hm : inB m 30 800 with
  | false =>
    have hX : shrX m b = 0 := by unfold shrX; rw [if_neg (by rw [hm]; simp)]
    have hC : shrC m b = 2 := by unfold shrC; rw [if_neg (by rw [hm]; simp)]
    rw [hX, hC]
    rw [hm] at h1
    have H1 := Lib.hid h1
    clear h1 h2 hm hX hC
    go_enter Tryz.func15, Tryz.ntmps15
    go_wp2_with fail
    refine (H1.out _).mono ?_
    rintro e w' ⟨rfl, rfl⟩
    go_wp2
    go_ret2
    exact ⟨rfl, rfl⟩
  | true =>
    cases hb : inB b 30 800 with
    | false =>
      have hX : shrX m b = 0 := by unfold shrX; rw [if_neg (by rw [hb]; simp)]
      have hC : shrC m b = 2 := by unfold shrC; rw [if_neg (by rw [hb]; simp)]
      rw [hX, hC]
      rw [hm] at h1
      rw [hb] at h2
      have H1 := Lib.hid h1
      have H2 := Lib.hid h2
      clear h1 h2 hm hb hX hC
      go_enter Tryz.func15, Tryz.ntmps15
      go_wp2_with fail
      refine (H1.out _).mono ?_
      rintro e w' ⟨rfl, rfl⟩
      go_wp2_with fail
      refine (H2.out _).mono ?_
      rintro e w' ⟨rfl, rfl⟩
      go_wp2
      go_ret2
      exact ⟨rfl, rfl⟩
    | true =>
      have HXC : Hid (∀ v, shrV m b = v → shrX m b = (if v < 0 then 0 else v) ∧ shrC m b = (if v < 0 then 3 else 0)) := Lib.hid (fun v h => by
        have hp : inB m 30 800 = true ∧ inB b 30 800 = true := ⟨hm, hb⟩
        refine ⟨?_, ?_⟩
        · unfold shrX; rw [if_pos hp, h]
        · unfold shrC; rw [if_pos hp, h])
      have HF2 := Lib.hid (HF.out hm)
      rw [hm] at h1
      rw [hb] at h2
      have H1 := Lib.hid h1
      have H2 := Lib.hid h2
      clear h1 h2 hm hb HF
      go_enter Tryz.func15, Tryz.ntmps15
      go_wp2_with fail
      refine (H1.out _).mono ?_
      rintro e w' ⟨rfl, rfl⟩
      go_wp2_with fail
      refine (H2.out _).mono ?_
      rintro e w' ⟨rfl, rfl⟩
      go_wp2
      go_loop [6] (fun i => ∃ j : Nat, j ≤ 201 ∧ i = .int .i64 j ∧ Hid (shrV m b = shrF m b (201 - j) j)) (fun i => 201 - (intOf i).toNat)
      case atStart => exact ⟨0, Nat.zero_le _, rfl, Lib.hid rfl⟩
      case round =>
        obtain ⟨j, hj, rfl, HV⟩ := hrel
        by_cases hlt : j ≤ 200
        · have hji : (j : Int) ≤ 200 := by omega
          obtain ⟨f, hf⟩ : ∃ f, 201 - j = f + 1 := ⟨200 - j, by omega⟩
          rw [hf] at HV
          have HF3 := Lib.hid (HF2.out j (by omega) (by omega) w)
          by_cases he : fireI m j = b
          · obtain ⟨x1, x2⟩ := HXC.out j (by rw [HV.out, shrF_hit he])
            rw [if_neg (by omega)] at x1 x2
            rw [x1, x2]
            rw [he] at HF3
            clear he hf x1 x2
            go_wp2_with fail
            refine HF3.out.mono ?_
            rintro e w' ⟨rfl, rfl⟩
            go_wp2
            go_ret2
            exact ⟨rfl, rfl⟩
          · have HV2 : Hid (shrV m b = shrF m b (201 - (j + 1)) (j + 1)) := Lib.hid (by rw [HV.out, shrF_miss he]; congr 1; omega)
            obtain ⟨fv, hfv⟩ : ∃ v, fireI m j = v := ⟨_, rfl⟩
            rw [hfv] at HF3 he
            clear hfv hf
            go_wp2_with fail
            refine HF3.out.mono ?_
            rintro e w' ⟨rfl, rfl⟩
            go_wp2
            go_round
            case rel => exact ⟨j + 1, by omega, by go_num, HV2⟩
            case measure => simp [intOf]; omega
        · have hji : ¬ (j : Int) ≤ 200 := by omega
          have e : j = 201 := by omega
          subst e
          obtain ⟨x1, x2⟩ := HXC.out (-1) HV.out
          rw [if_pos (by decide)] at x1 x2
          have HX1 := Lib.hid x1
          have HX2 := Lib.hid x2
          clear x1 x2
          go_wp2
          go_ret2
          exact ⟨by rw [HX1.out, HX2.out]; rfl, rfl⟩
set_option maxHeartbeats 1600000 in
theorem s_ShrinkBy (m b : Int) (w : World) : Calls Tryz.prog 16 #[.int .i64 m, .int .i64 b] w (Pair (shrX m b) (shrC m b) w) := by
  have h1 := fun W => s_l00In m 30 800 W
  have h2 := fun W => s_l00In b 30 800 W
  have HF := Lib.hid (fun (h0 : inB m 30 800 = true) (s : Int) (s0 : 0 ≤ s) (s1 : s ≤ 1000) W => s_l05Fired m s (by have := inB_iff.1 h0; omega) (by have := inB_iff.1 h0; omega) s0 s1 W)
  cases hm : inB m 30 800 with
  | false =>
    have hX : shrX m b = 0 := by unfold shrX; rw [if_neg (by rw [hm]; simp)]
    have hC : shrC m b = 2 := by unfold shrC; rw [if_neg (by rw [hm]; simp)]
    rw [hX, hC]
    rw [hm] at h1
    have H1 := Lib.hid h1
    clear h1 h2 hm hX hC
    go_enter Tryz.func16, Tryz.ntmps16
    go_wp2_with fail
    refine (H1.out _).mono ?_
    rintro e w' ⟨rfl, rfl⟩
    go_wp2
    go_ret2
    exact ⟨rfl, rfl⟩
  | true =>
    cases hb : inB b 30 800 with
    | false =>
      have hX : shrX m b = 0 := by unfold shrX; rw [if_neg (by rw [hb]; simp)]
      have hC : shrC m b = 2 := by unfold shrC; rw [if_neg (by rw [hb]; simp)]
      rw [hX, hC]
      rw [hm] at h1
      rw [hb] at h2
      have H1 := Lib.hid h1
      have H2 := Lib.hid h2
      clear h1 h2 hm hb hX hC
      go_enter Tryz.func16, Tryz.ntmps16
      go_wp2_with fail
      refine (H1.out _).mono ?_
      rintro e w' ⟨rfl, rfl⟩
      go_wp2_with fail
      refine (H2.out _).mono ?_
      rintro e w' ⟨rfl, rfl⟩
      go_wp2
      go_ret2
      exact ⟨rfl, rfl⟩
    | true =>
      have HXC : Hid (∀ v, shrV m b = v → shrX m b = (if v < 0 then 0 else v) ∧ shrC m b = (if v < 0 then 3 else 0)) := Lib.hid (fun v h => by
        have hp : inB m 30 800 = true ∧ inB b 30 800 = true := ⟨hm, hb⟩
        refine ⟨?_, ?_⟩
        · unfold shrX; rw [if_pos hp, h]
        · unfold shrC; rw [if_pos hp, h])
      have HF2 := Lib.hid (HF.out hm)
      rw [hm] at h1
      rw [hb] at h2
      have H1 := Lib.hid h1
      have H2 := Lib.hid h2
      clear h1 h2 hm hb HF
      go_enter Tryz.func16, Tryz.ntmps16
      go_wp2_with fail
      refine (H1.out _).mono ?_
      rintro e w' ⟨rfl, rfl⟩
      go_wp2_with fail
      refine (H2.out _).mono ?_
      rintro e w' ⟨rfl, rfl⟩
      go_wp2
      go_loop [6] (fun i => ∃ j : Nat, j ≤ 201 ∧ i = .int .i64 j ∧ Hid (shrV m b = shrF m b (201 - j) j)) (fun i => 201 - (intOf i).toNat)
      case atStart => exact ⟨0, Nat.zero_le _, rfl, Lib.hid rfl⟩
      case round =>
        obtain ⟨j, hj, rfl, HV⟩ := hrel
        by_cases hlt : j ≤ 200
        · have hji : (j : Int) ≤ 200 := by omega
          obtain ⟨f, hf⟩ : ∃ f, 201 - j = f + 1 := ⟨200 - j, by omega⟩
          rw [hf] at HV
          have HF3 := Lib.hid (HF2.out j (by omega) (by omega) w)
          by_cases he : fireI m j = b
          · obtain ⟨x1, x2⟩ := HXC.out j (by rw [HV.out, shrF_hit he])
            rw [if_neg (by omega)] at x1 x2
            rw [x1, x2]
            rw [he] at HF3
            clear he hf x1 x2
            go_wp2_with fail
            refine HF3.out.mono ?_
            rintro e w' ⟨rfl, rfl⟩
            go_wp2
            go_ret2
            exact ⟨rfl, rfl⟩
          · have HV2 : Hid (shrV m b = shrF m b (201 - (j + 1)) (j + 1)) := Lib.hid (by rw [HV.out, shrF_miss he]; congr 1; omega)
            obtain ⟨fv, hfv⟩ : ∃ v, fireI m j = v := ⟨_, rfl⟩
            rw [hfv] at HF3 he
            clear hfv hf
            go_wp2_with fail
            refine HF3.out.mono ?_
            rintro e w' ⟨rfl, rfl⟩
            go_wp2
            go_round
            case rel => exact ⟨j + 1, by omega, by go_num, HV2⟩
            case measure => simp [intOf]; omega
        · have hji : ¬ (j : Int) ≤ 200 := by omega
          have e : j = 201 := by omega
          subst e
          obtain ⟨x1, x2⟩ := HXC.out (-1) HV.out
          rw [if_pos (by decide)] at x1 x2
          have HX1 := Lib.hid x1
          have HX2 := Lib.hid x2
          clear x1 x2
          go_wp2
          go_ret2
          exact ⟨by rw [HX1.out, HX2.out]; rfl, rfl⟩
end Go.Proofs.YtdedamamjkpcpaaGreatDoor
