/- The best pair of courses as a value, and what the laws ask of it. No program in sight. -/
import Derived.Test.YtciamgnfbhijlaaPairM
import Derived.Test.YtciamgnfbhijlaaClashMath
namespace Go.Proofs.Ytciamgnfbhijlaa
open Go.RowKit
set_option linter.unusedSimpArgs false
set_option linter.unusedVariables false
set_option linter.unnecessarySimpa false

/-- the best pair of a length and a lap, if there is one -/
noncomputable def pairO (L lap : Int) : Option PR := optP (SetR L lap 0 0)
def cutO : Option PR → Int | none => -1 | some x => pcN x
def numO : Option PR → Int | none => 0 | some x => ppN x
def lowO : Option PR → ByteArray | none => ByteArray.empty | some x => mkS x.1
def highO : Option PR → ByteArray | none => ByteArray.empty | some x => mkS x.2
def freeB (L lap p q : Int) : Bool := decide (p = 0) || (decide (q = 0) || (decide (p = L) || (decide (q = L) || decide (lap ≤ dist p q))))
theorem freeB_iff {L lap p q : Int} : freeB L lap p q = true ↔ freeP L lap p q := by
  unfold freeB freeP dist
  simp only [Bool.or_eq_true, decide_eq_true_eq]
  split <;> omega
theorem free_00 (L lap : Int) : freeP L lap 0 0 := .inl rfl
theorem st_00 {L lap : Int} (hL : 1 ≤ L) : StP L lap 0 0 0 := ⟨by omega, by omega, by omega, by omega, by omega, by omega, free_00 L lap, by omega, fun e => by omega⟩
theorem setI_00 (L lap : Int) (x : PR) : SetI L lap 0 0 0 x → SetR L lap 0 0 x := fun h => h.1
/-- better, as the reference tells it -/
def beforeB (a a' : Option PR) : Bool := match a with
  | none => false
  | some x => match a' with
    | none => true
    | some y => ltP x y
theorem pick_before (o p : Option PR) : pickP o p = if beforeB p o then p else o := by
  cases p with
  | none => rfl
  | some x => cases o with
    | none => rfl
    | some y => unfold pickP beforeB; dsimp only
/-! ### there is a best one, or none at all -/
open Classical in
theorem best_lowK {L lap a b : Int} (k : Nat) (ih : ∀ q, 1 ≤ q → a + q ≤ L → freeP L lap (a + q) b → ∃ o, IsBest (SetR L lap (a + q) b) o) (hk : k < 5) : ∃ o, IsBest (LowK L lap a b k) o := by
  have hq := pc_pos (ord_pc k hk)
  by_cases h1 : a + qB (ord5.getD k 0) ≤ L
  · by_cases h2 : freeP L lap (a + qB (ord5.getD k 0)) b
    · obtain ⟨o, ho⟩ := ih _ hq.1 h1 h2
      refine ⟨o.map (consL (ord5.getD k 0)), (ho.map (ltP_consL _)).congr (fun x => ?_)⟩
      exact ⟨fun h => h.2.2, fun h => ⟨h1, h2, h⟩⟩
    · exact ⟨none, IsBest.none_of (fun x h => h2 h.2.1)⟩
  · exact ⟨none, IsBest.none_of (fun x h => h1 h.1)⟩
open Classical in
theorem best_highK {L lap a b : Int} (k : Nat) (ih : ∀ q, 1 ≤ q → b + q ≤ L → freeP L lap (b + q) a → ∃ o, IsBest (SetR L lap a (b + q)) o) (hk : k < 5) : ∃ o, IsBest (HighK L lap a b k) o := by
  have hq := pc_pos (ord_pc k hk)
  by_cases h1 : b + qB (ord5.getD k 0) ≤ L
  · by_cases h2 : freeP L lap (b + qB (ord5.getD k 0)) a
    · obtain ⟨o, ho⟩ := ih _ hq.1 h1 h2
      refine ⟨o.map (consR (ord5.getD k 0)), (ho.map (ltP_consR _)).congr (fun x => ?_)⟩
      exact ⟨fun h => h.2.2, fun h => ⟨h1, h2, h⟩⟩
    · exact ⟨none, IsBest.none_of (fun x h => h2 h.2.1)⟩
  · exact ⟨none, IsBest.none_of (fun x h => h1 h.1)⟩
theorem best_five {C : Nat → PR → Prop} (h : ∀ k, k < 5 → ∃ o, IsBest (C k) o) : ∀ n, n ≤ 5 → ∃ o, IsBest (Upto C n) o
  | 0, _ => ⟨none, isBest_zero C⟩
  | n + 1, hn => by
    obtain ⟨o, ho⟩ := best_five h n (by omega)
    obtain ⟨p, hp⟩ := h n (by omega)
    exact ⟨_, isBest_succ ho hp⟩
theorem exists_bestR {L lap : Int} (hl : 1 ≤ lap) : ∀ (K : Nat) (a b : Int), 2 * L - a - b ≤ K → 0 ≤ a → a ≤ L → 0 ≤ b → b ≤ L → freeP L lap a b → ∃ o, IsBest (SetR L lap a b) o := by
  intro K
  induction K with
  | zero =>
    intro a b h a0 a1 b0 b1 hf
    obtain rfl : a = L := by omega
    obtain rfl : b = a := by omega
    exact ⟨_, isBest_end _ _⟩
  | succ K ih =>
    intro a b h a0 a1 b0 b1 hf
    by_cases he : a = L ∧ b = L
    · obtain ⟨rfl, rfl⟩ := he
      exact ⟨_, isBest_end _ _⟩
    · by_cases hab : a ≤ b
      · obtain ⟨o, ho⟩ := best_five (C := LowK L lap a b) (fun k hk => best_lowK k (fun q q1 q2 q3 => ih (a + q) b (by omega) (by omega) q2 b0 b1 q3) hk) 5 (Nat.le_refl _)
        exact ⟨o, ho.congr (fun x => setR_low hl hf hab a0 b1 (by omega) x)⟩
      · obtain ⟨o, ho⟩ := best_five (C := HighK L lap a b) (fun k hk => best_highK k (fun q q1 q2 q3 => ih a (b + q) (by omega) a0 a1 (by omega) q2 (freeP_comm q3)) hk) 5 (Nat.le_refl _)
        exact ⟨o, ho.congr (fun x => setR_high hl hf (by omega) b0 a1 x)⟩
theorem pairO_best {L lap : Int} (hL : 1 ≤ L) (hl : 1 ≤ lap) : IsBest (SetR L lap 0 0) (pairO L lap) := by
  obtain ⟨o, ho⟩ := exists_bestR (L := L) hl (2 * L).toNat 0 0 (by omega) (by omega) (by omega) (by omega) (by omega) (free_00 L lap)
  unfold pairO
  rw [ho.opt]
  exact ho
end Go.Proofs.Ytciamgnfbhijlaa
