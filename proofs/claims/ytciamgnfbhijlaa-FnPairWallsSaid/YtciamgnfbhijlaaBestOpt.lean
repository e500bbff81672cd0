/- The best course is the least of all courses of its length whose perpends are allowed. Nothing here speaks of the program. -/
import Derived.Test.YtciamgnfbhijlaaBestTab
namespace Go.Proofs.Ytciamgnfbhijlaa
open Go.RowKit
set_option linter.unusedSimpArgs false
set_option linter.unusedVariables false
set_option linter.unnecessarySimpa false

theorem bl_irrefl : ∀ (x : List UInt8), Op.bytesLess x x = false
  | [] => rfl
  | a :: x => by simp [Op.bytesLess, bl_irrefl x]
theorem bl_cons (b : UInt8) (x y : List UInt8) : Op.bytesLess (b :: x) (b :: y) = Op.bytesLess x y := by simp [Op.bytesLess]
/-- not less is carried on -/
theorem bl_trans : ∀ (x y z : List UInt8), Op.bytesLess y x = false → Op.bytesLess z y = false → Op.bytesLess z x = false
  | [], _, _, _, _ => by simp [Op.bytesLess]
  | _ :: _, [], _, h, _ => by simp [Op.bytesLess] at h
  | _ :: _, _ :: _, [], _, h => by simp [Op.bytesLess] at h
  | a :: x, b :: y, c :: z, h1, h2 => by
    simp only [Op.bytesLess, Bool.or_eq_false_iff, decide_eq_false_iff_not, Bool.and_eq_false_iff, beq_eq_false_iff_ne] at h1 h2 ⊢
    have e1 : ¬ b.toNat < a.toNat := fun h => h1.1 (UInt8.lt_iff_toNat_lt.2 h)
    have e2 : ¬ c.toNat < b.toNat := fun h => h2.1 (UInt8.lt_iff_toNat_lt.2 h)
    refine ⟨fun h => by have := UInt8.lt_iff_toNat_lt.1 h; omega, ?_⟩
    by_cases hca : c = a
    · right
      subst hca
      have hbc : b = c := UInt8.toNat_inj.1 (by omega)
      subst hbc
      rcases h1.2 with h | h
      · exact absurd rfl h
      · rcases h2.2 with h' | h'
        · exact absurd rfl h'
        · exact bl_trans x y z h h'
    · exact .inl hca
/-- a is no worse than b -/
def leR (a b : Rw) : Prop := a.c < b.c ∨ (a.c = b.c ∧ (a.p < b.p ∨ (a.p = b.p ∧ Op.bytesLess b.t a.t = false)))
theorem leR_refl (a : Rw) : leR a a := .inr ⟨rfl, .inr ⟨rfl, bl_irrefl _⟩⟩
theorem leR_trans {a b c : Rw} (h : leR a b) (k : leR b c) : leR a c := by
  unfold leR at *
  rcases h with h | ⟨h1, h | ⟨h2, h3⟩⟩
  · rcases k with k | ⟨k1, _⟩
    · left; omega
    · left; omega
  · rcases k with k | ⟨k1, k | ⟨k2, _⟩⟩
    · left; omega
    · right; exact ⟨by omega, .inl (by omega)⟩
    · right; exact ⟨by omega, .inl (by omega)⟩
  · rcases k with k | ⟨k1, k | ⟨k2, k3⟩⟩
    · left; omega
    · right; exact ⟨by omega, .inl (by omega)⟩
    · right; exact ⟨by omega, .inr ⟨by omega, bl_trans _ _ _ h3 k3⟩⟩
theorem not_lt_le {a b : Rw} (h : ¬ (a.c < b.c ∨ (a.c = b.c ∧ (a.p < b.p ∨ (a.p = b.p ∧ Op.bytesLess a.t b.t = true))))) : leR b a := by
  unfold leR
  by_cases h1 : b.c < a.c
  · exact .inl h1
  · have e1 : b.c = a.c := by
      have : ¬ a.c < b.c := fun e => h (.inl e)
      omega
    refine .inr ⟨e1, ?_⟩
    by_cases h2 : b.p < a.p
    · exact .inl h2
    · have e2 : b.p = a.p := by
        have : ¬ a.p < b.p := fun e => h (.inr ⟨e1.symm, .inl e⟩)
        omega
      refine .inr ⟨e2, ?_⟩
      cases h3 : Op.bytesLess a.t b.t with
      | false => rfl
      | true => exact absurd (.inr ⟨e1.symm, .inr ⟨e2.symm, h3⟩⟩) h
/-- o is known and no worse than b -/
def noWorse (o : Option Rw) (b : Rw) : Prop := ∃ r, o = some r ∧ leR r b
theorem noWorse.trans {o : Option Rw} {a b : Rw} (h : noWorse o a) (k : leR a b) : noWorse o b := let ⟨r, h1, h2⟩ := h; ⟨r, h1, leR_trans h2 k⟩
theorem pick_old {now x : Option Rw} {b : Rw} (h : noWorse now b) : noWorse (pickBy ltS now x) b := by
  obtain ⟨r, rfl, h2⟩ := h
  cases x with
  | none => exact ⟨r, rfl, h2⟩
  | some a =>
    rw [pkS]
    split
    · rename_i h3
      refine ⟨a, rfl, leR_trans ?_ h2⟩
      rcases h3 with h3 | ⟨e1, h3 | ⟨e2, h3⟩⟩
      · exact .inl h3
      · exact .inr ⟨e1, .inl h3⟩
      · refine .inr ⟨e1, .inr ⟨e2, ?_⟩⟩
        cases h4 : Op.bytesLess r.t a.t with
        | false => rfl
        | true =>
          have := bl_irrefl a.t
          -- a before r and r before a: not both
          exact absurd (bl_asymm _ _ h3) (by rw [h4]; simp)
    · exact ⟨r, rfl, h2⟩
where
  bl_asymm : ∀ (x y : List UInt8), Op.bytesLess x y = true → Op.bytesLess y x = false
    | _, [], h => by simp [Op.bytesLess] at h
    | [], _ :: _, _ => by simp [Op.bytesLess]
    | a :: x, b :: y, h => by
      simp only [Op.bytesLess, Bool.or_eq_true, decide_eq_true_eq, Bool.and_eq_true, beq_iff_eq] at h
      simp only [Op.bytesLess, Bool.or_eq_false_iff, decide_eq_false_iff_not, Bool.and_eq_false_iff, beq_eq_false_iff_ne]
      rcases h with h | ⟨h1, h2⟩
      · have h' := UInt8.lt_iff_toNat_lt.1 h
        exact ⟨fun e => by have := UInt8.lt_iff_toNat_lt.1 e; omega, .inl (fun e => by subst e; omega)⟩
      · subst h1
        exact ⟨fun e => by have := UInt8.lt_iff_toNat_lt.1 e; omega, .inr (bl_asymm x y h2)⟩
theorem pick_new {now : Option Rw} {a b : Rw} (h : leR a b) : noWorse (pickBy ltS now (some a)) b := by
  cases now with
  | none => exact ⟨a, rfl, h⟩
  | some r =>
    rw [pkS]
    split
    · exact ⟨a, rfl, h⟩
    · rename_i h3
      exact ⟨r, rfl, leR_trans (not_lt_le h3) h⟩
theorem step_le (ok : Int → Bool) (L : Int) (d : Nat) (rows : List (Option Rw)) {a : Rw} {x : UInt8} (hx : x = 83 ∨ x = 72 ∨ x = 84 ∨ x = 66 ∨ x = 67) (h : cand ok L d rows x = some a) : noWorse (stepS ok L d rows) a := by
  unfold stepS stepS.order5L
  simp only [List.foldl]
  rcases hx with rfl | rfl | rfl | rfl | rfl
  · rw [h]; exact pick_old (pick_old (pick_old (pick_old (pick_new (leR_refl a)))))
  · rw [h]; exact pick_old (pick_old (pick_old (pick_new (leR_refl a))))
  · rw [h]; exact pick_old (pick_old (pick_new (leR_refl a)))
  · rw [h]; exact pick_old (pick_new (leR_refl a))
  · rw [h]; exact pick_new (leR_refl a)
theorem isPc_five {b : UInt8} (h : isPc b = true) : b = 83 ∨ b = 72 ∨ b = 84 ∨ b = 66 ∨ b = 67 := by
  have h2 := forall_u8 (p := fun b => decide (isPc b = true → b = 83 ∨ b = 72 ∨ b = 84 ∨ b = 66 ∨ b = 67)) (by decide +kernel) b
  exact of_decide_eq_true h2 h
theorem ahead_le {a b : Rw} (x : UInt8) (h : leR a b) : leR (ahead x a) (ahead x b) := by
  unfold leR ahead at *
  rcases h with h | ⟨h1, h | ⟨h2, h3⟩⟩
  · left; dsimp only; omega
  · right; dsimp only; exact ⟨by omega, .inl (by omega)⟩
  · right; dsimp only; exact ⟨by omega, .inr ⟨by omega, by rw [bl_cons]; exact h3⟩⟩
/-- a course as a row of the table -/
def rowOf (l : List UInt8) : Rw := ⟨cutN l, l.length, l⟩
theorem rowOf_cons (x : UInt8) (l : List UInt8) : rowOf (x :: l) = ahead x (rowOf l) := by
  unfold rowOf ahead cutN
  rw [List.countP_cons]
  simp only [List.length_cons, Rw.mk.injEq]
  refine ⟨?_, by omega, trivial⟩
  split <;> simp
/-- the places of the perpends of a course, from a place on -/
def perpF : Int → List UInt8 → List Int
  | _, [] => []
  | _, [_] => []
  | at_, x :: y :: r => (at_ + qB x) :: perpF (at_ + qB x) (y :: r)
theorem best_le (ok : Int → Bool) (L : Int) : ∀ (l : List UInt8) (d : Nat), l.all isPc = true → qSum l = d → (∀ y ∈ perpF (L - d) l, ok y = true) → noWorse (best ok L d) (rowOf l)
  | [], d, _, hq, _ => by
    obtain rfl : d = 0 := by rw [qSum_nil] at hq; omega
    exact ⟨_, best_zero ok L, leR_refl _⟩
  | x :: l, d, hp, hq, hf => by
    rw [List.all_cons, Bool.and_eq_true] at hp
    rw [qSum_cons] at hq
    have hx5 := isPc_five hp.1
    have hxq : 1 ≤ qB x := by
      rcases hx5 with rfl | rfl | rfl | rfl | rfl
      · rw [qB_S]; omega
      · rw [qB_H]; omega
      · rw [qB_T]; omega
      · rw [qB_B]; omega
      · rw [qB_C]; omega
    obtain ⟨q, hqe⟩ := Int.eq_ofNat_of_zero_le (show 0 ≤ qB x by omega)
    have hl0 := qSum_bd l
    have hdq : d = (d - q) + q := by omega
    have ih := best_le ok L l (d - q) hp.2 (by omega) (by
      intro y hy
      cases l with
      | nil => simp [perpF] at hy
      | cons z r =>
        apply hf
        rw [perpF]
        right
        rwa [show L - (d : Int) + qB x = L - ((d - q : Nat) : Int) by omega])
    obtain ⟨r, hr, hle⟩ := ih
    obtain ⟨e, rfl⟩ : ∃ e, d = e + 1 := ⟨d - 1, by omega⟩
    have hc : cand ok L (e + 1) (rowsT ok L e) x = some (ahead x r) := by
      rw [cand_eq ok L e q x hqe (by omega), if_neg (by omega), hr]
      dsimp only
      rw [if_neg]
      rintro ⟨h1, h2⟩
      cases l with
      | nil => rw [qSum_nil] at hq; omega
      | cons z t =>
        have := hf (L - ((e + 1 : Nat) : Int) + q) (by rw [perpF, hqe]; left)
        rw [this] at h2
        cases h2
    have := step_le ok L (e + 1) (rowsT ok L e) hx5 hc
    rw [rowOf_cons]
    rw [← best_succ] at this
    exact this.trans (ahead_le x hle)
end Go.Proofs.Ytciamgnfbhijlaa
