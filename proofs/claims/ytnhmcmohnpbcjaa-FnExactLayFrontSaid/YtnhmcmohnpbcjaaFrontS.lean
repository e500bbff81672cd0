/- The quarters of all parts of a front: both sides. -/
import Derived.Test.YtnhmcmohnpbcjaaFrontV3
namespace Go.Proofs.Ytnhmcmohnpbcjaa
open Go.RowKit
set_option linter.unusedSimpArgs false
set_option linter.unusedVariables false
set_option linter.unnecessarySimpa false

theorem validF_bd {L C : Int} {os : List Opn} (h : validF L C os = true) : (1 ≤ L ∧ L ≤ 200) ∧ (1 ≤ C ∧ C ≤ 40) ∧ os.length ≤ 8 ∧ okTo L C os os.length = true := by
  unfold validF at h
  simp only [Bool.and_eq_true, decide_eq_true_eq, inB_iff] at h
  exact h
theorem okTo_opn {L C : Int} {os : List Opn} {j : Nat} (h : okTo L C os os.length = true) (hj : j < os.length) : isOpn L C (os.getD j default) = true := by
  have := okTo_at h hj
  unfold okAt at this
  rw [Bool.and_eq_true] at this
  exact this.1
def areaO (o : Opn) : Int := (o.en - o.fr) * (o.hi - o.lo)
theorem area_bd {L C : Int} {o : Opn} (h : isOpn L C o = true) (hL : L ≤ 200) (hC : C ≤ 40) : 0 ≤ areaO o ∧ areaO o ≤ 8000 := by
  rw [isOpn_iff] at h
  obtain ⟨h1, h2, h3, h4, h5, h6⟩ := h
  unfold areaO
  refine ⟨Int.mul_nonneg (by omega) (by omega), ?_⟩
  have := Int.mul_le_mul (show o.en - o.fr ≤ 200 by omega) (show o.hi - o.lo ≤ 40 by omega) (by omega) (by omega)
  omega
def solTo (L C : Int) (os : List Opn) : Nat → Int
  | 0 => L * C
  | k + 1 => solTo L C os k - areaO (os.getD k default)
theorem solTo_bd {L C : Int} {os : List Opn} (h : validF L C os = true) (k : Nat) (hk : k ≤ os.length) : -(8000 * (k : Int)) ≤ solTo L C os k ∧ solTo L C os k ≤ 8000 := by
  obtain ⟨⟨a, b⟩, ⟨c, d⟩, e, f⟩ := validF_bd h
  induction k with
  | zero =>
    have h1 := Int.mul_nonneg (show 0 ≤ L by omega) (show 0 ≤ C by omega)
    have h2 := Int.mul_le_mul b d (by omega) (by omega)
    unfold solTo
    omega
  | succ k ih =>
    have := ih (by omega)
    have := area_bd (okTo_opn f (show k < os.length by omega)) b d
    unfold solTo
    omega
def solN (L C : Int) (os : List Opn) : Int := if validF L C os then solTo L C os os.length else 0
def PairX (a b : Int) (w : World) (e : Ending) (w' : World) : Prop := e = .returned (.tuple #[.int .i64 a, .int .i64 b]) ∧ Ext w w'
theorem PairX.mk {a b a' b' : Int} {w w' : World} (h : a' = a) (k : b' = b) (e : Ext w w') : PairX a b w (.returned (.tuple #[.int .i64 a', .int .i64 b'])) w' := ⟨by rw [h, k], e⟩
theorem PairX.retE {a b : Int} {w w' : World} {e : Ending} (h : PairX a b w e w') : RetE (.tuple #[.int .i64 a, .int .i64 b]) w e w' := h
set_option maxHeartbeats 1600000 in
theorem i_SolidQuarters (L C : Int) (ao : Option Addr) (n c : Nat) (os : List Opn) (w : World) (hx : Opens w ao n os) (hnc : n ≤ c) :
    Calls Try.prog 20 #[.agg #[.int .i64 L, .int .i64 C, .slice ao n c]] w (RetE (.tuple #[.int .i64 (solN L C os), .int .i64 (sel (validF L C os) 0 1)]) w) := by
  have HE : Hid (Ext w (w.alloc (.cells #[.int .i64 L, .int .i64 C, .slice ao n c] 30))) := Lib.hid ((Ext.refl w).alloc _)
  have hxl := hx.1
  have H1 := Lib.hid (fun W (e : Ext w W) => i_ValidFront L C ao n c os W (hx.ext e) hnc)
  by_cases hv : validF L C os = true
  · obtain ⟨⟨l1, l2⟩, ⟨c1, c2⟩, n8, hok⟩ := validF_bd hv
    have HB := Lib.hid (fun k (h : k ≤ os.length) => solTo_bd hv k h)
    have HA := Lib.hid (fun k (h : k < os.length) => area_bd (okTo_opn hok h) l2 c2)
    have HO := Lib.hid (fun k (h : k < os.length) => isOpn_iff.1 (okTo_opn hok h))
    have HV : Hid (solN L C os = solTo L C os n) := Lib.hid (by unfold solN; rw [if_pos hv, hxl])
    have HS : Hid (sel (validF L C os) 0 1 = 0) := Lib.hid (sel_t hv _ _)
    rw [hv] at H1
    have hlc := HB.out 0 (by omega)
    have hlc2 : -(8000 * ((0 : Nat) : Int)) ≤ L * C ∧ L * C ≤ 8000 := hlc
    have HX := Lib.hid hx
    have A : Three (w.alloc (.cells #[.int .i64 L, .int .i64 C, .slice ao n c] 30)) w.heap.size (.int .i64 L) (.int .i64 C) (.slice ao n c) := Three.new w _ _ _ _
    clear hv hok hlc hx
    go_enter Try.func20, Try.ntmps20
    go_wp2_with (go_at_call 51; refine (H1.out _ HE.out).mono ?_; rintro e w1 ⟨rfl, e1⟩; replace A := A.ext e1)
    have HW1 := Lib.hid (HE.out.trans e1)
    clear e1
    go_loopw [4, 18] (fun s i wr => ∃ (k : Nat) (sk : Int), k ≤ n ∧ i = .int .i64 k ∧ s = .int .i64 sk ∧ Hid (solTo L C os k = sk) ∧ Ext w1 wr) (fun _ i _ => n - (intOf i).toNat)
    case atStart => exact ⟨0, _, Nat.zero_le _, rfl, rfl, Lib.hid rfl, Ext.refl _⟩
    case round =>
      obtain ⟨k, sk, hk, rfl, rfl, HSK, er⟩ := hrel
      by_cases hlt : k < n
      · obtain ⟨bb, off, rfl, d0, d1, d2, d3⟩ := (HX.out.ext (HW1.out.trans er)).2.2.1 k hlt
        have hb := HB.out k (by omega)
        have ha := HA.out k (by omega)
        have ho := HO.out k (by omega)
        obtain ⟨x, hxk⟩ : ∃ x, os.getD k default = x := ⟨_, rfl⟩
        have HN : Hid (solTo L C os (k + 1) = solTo L C os k - areaO x) := Lib.hid (by show _ - areaO (os.getD k default) = _; rw [hxk])
        rw [hxk] at d0 d1 d2 d3 ha ho
        obtain ⟨x1, x2, x3, x4⟩ := x
        have K : Four wr bb (off + k * 4) x1 x2 x3 x4 := ⟨d0, d1, d2, d3⟩
        obtain ⟨K0, K1, K2, K3⟩ := K
        have ha' : 0 ≤ (x2 - x1) * (x4 - x3) ∧ (x2 - x1) * (x4 - x3) ≤ 8000 := ha
        have ho' : 0 ≤ x1 ∧ x1 < x2 ∧ x2 ≤ L ∧ 0 ≤ x3 ∧ x3 < x4 ∧ x4 ≤ C := ho
        rw [HSK.out] at HN hb
        have HN2 : Hid (solTo L C os (k + 1) = sk - (x2 - x1) * (x4 - x3)) := Lib.hid HN.out
        have HER := Lib.hid er
        clear d0 d1 d2 d3 hxk ha ho HN er
        go_wp2
        go_roundw
        case rel => first | exact ⟨k + 1, _, by omega, by go_num, rfl, Lib.hid HN2.out, HER.out.alloc _⟩ | ((repeat apply Exists.intro); exact ⟨⟨k + 1, _, by omega, by go_num, rfl, Lib.hid HN2.out, HER.out.alloc _⟩, rfl⟩)
        case measure => simp [intOf]; omega
      · obtain rfl : k = n := by omega
        go_wp2
        go_ret2
        exact PairX.retE (PairX.mk (HSK.out.symm.trans HV.out.symm) HS.out.symm (HW1.out.trans er))
  · rw [Bool.not_eq_true] at hv
    have HV : Hid (solN L C os = 0) := Lib.hid (by unfold solN; rw [hv]; rfl)
    have HS : Hid (sel (validF L C os) 0 1 = 1) := Lib.hid (by rw [hv]; rfl)
    rw [hv] at H1
    clear hv
    go_enter Try.func20, Try.ntmps20
    go_wp2_with (go_at_call 51; refine (H1.out _ HE.out).mono ?_; rintro e w1 ⟨rfl, e1⟩)
    go_ret2
    exact PairX.retE (PairX.mk HV.out.symm HS.out.symm (HE.out.trans e1))
end Go.Proofs.Ytnhmcmohnpbcjaa
