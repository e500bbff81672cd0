/- What makes a front valid, and contracts of the functions that look at one opening or at two. -/
import Derived.Test.YtnhmcmohnpbcjaaFront1
import Derived.Test.YtnhmcmohnpbcjaaGauge
import Derived.Deep.RegionHeld3
namespace Go.Proofs.Ytnhmcmohnpbcjaa
open Go.RowKit
set_option linter.unusedSimpArgs false
set_option linter.unusedVariables false
set_option linter.unnecessarySimpa false

/-- an opening of a front of a length and a number of courses -/
def isOpn (L C : Int) (o : Opn) : Bool := decide (0 ≤ o.fr) && (decide (o.fr < o.en) && (decide (o.en ≤ L) && (decide (0 ≤ o.lo) && (decide (o.lo < o.hi) && decide (o.hi ≤ C)))))
/-- two openings overlap -/
def ovl (a b : Opn) : Bool := decide (a.fr < b.en) && (decide (b.fr < a.en) && (decide (a.lo < b.hi) && decide (b.lo < a.hi)))
/-- an opening stands ahead of another one -/
def befB (a b : Opn) : Bool := if a.fr = b.fr then decide (a.lo < b.lo) else decide (a.fr < b.fr)
def cmpI (x y : Int) : Int := if x < y then -1 else if y < x then 1 else 0
def cmpO (a b : Opn) : Int := if cmpI a.fr b.fr = 0 then cmpI a.lo b.lo else cmpI a.fr b.fr
theorem ovl_comm (a b : Opn) : ovl a b = ovl b a := by
  unfold ovl
  rw [Bool.eq_iff_iff]
  simp only [Bool.and_eq_true, decide_eq_true_eq]
  constructor
  · rintro ⟨h1, h2, h3, h4⟩; exact ⟨h2, h1, h4, h3⟩
  · rintro ⟨h1, h2, h3, h4⟩; exact ⟨h2, h1, h4, h3⟩
theorem isOpn_iff {L C : Int} {o : Opn} : isOpn L C o = true ↔ 0 ≤ o.fr ∧ o.fr < o.en ∧ o.en ≤ L ∧ 0 ≤ o.lo ∧ o.lo < o.hi ∧ o.hi ≤ C := by
  unfold isOpn; simp only [Bool.and_eq_true, decide_eq_true_eq]
/-- the opening i serves, those ahead of it given -/
def okAt (L C : Int) (os : List Opn) (i : Nat) : Bool := isOpn L C (os.getD i default) && ((decide (i = 0) || befB (os.getD (i - 1) default) (os.getD i default)) && !((os.take i).any fun p => ovl p (os.getD i default)))
def okTo (L C : Int) (os : List Opn) : Nat → Bool
  | 0 => true
  | k + 1 => okTo L C os k && okAt L C os k
theorem okTo_le {L C : Int} {os : List Opn} {j k : Nat} (h : okTo L C os k = true) (hj : j ≤ k) : okTo L C os j = true := by
  induction k with
  | zero => obtain rfl : j = 0 := by omega
            exact h
  | succ k ih =>
    by_cases e : j = k + 1
    · subst e; exact h
    · unfold okTo at h
      rw [Bool.and_eq_true] at h
      exact ih h.1 (by omega)
theorem okTo_at {L C : Int} {os : List Opn} {j k : Nat} (h : okTo L C os k = true) (hj : j < k) : okAt L C os j = true := by
  have := okTo_le h (show j + 1 ≤ k by omega)
  unfold okTo at this
  rw [Bool.and_eq_true] at this
  exact this.2
/-- a front is valid -/
def validF (L C : Int) (os : List Opn) : Bool := inB L 1 200 && (inB C 1 40 && (decide (os.length ≤ 8) && okTo L C os os.length))
theorem validF_bad {L C : Int} {os : List Opn} {k : Nat} (hk : k < os.length) (h : okAt L C os k = false) : validF L C os = false := by
  unfold validF
  have : okTo L C os os.length = false := by
    cases e : okTo L C os os.length with
    | false => rfl
    | true => rw [okTo_at e hk] at h; cases h
  rw [this]; simp
/-- of openings that serve, the order of both sides is one -/
theorem cmp_bef {L C : Int} {a b : Opn} (ha : isOpn L C a = true) (hb : isOpn L C b = true) (hn : ovl a b = false) : (0 < cmpO a b) ↔ befB a b = false := by
  rw [isOpn_iff] at ha hb
  have hn' : ¬ (a.fr < b.en ∧ b.fr < a.en ∧ a.lo < b.hi ∧ b.lo < a.hi) := by
    intro h
    have : ovl a b = true := by unfold ovl; simp [h]
    rw [this] at hn; cases hn
  unfold cmpO befB cmpI
  by_cases h1 : a.fr = b.fr
  · have e0 : ¬ b.fr < b.fr := by omega
    rw [h1, if_neg e0, if_neg e0, if_pos rfl, if_pos rfl]
    simp only [decide_eq_false_iff_not]
    by_cases h2 : a.lo < b.lo
    · rw [if_pos h2]; omega
    · rw [if_neg h2]
      by_cases h3 : b.lo < a.lo
      · rw [if_pos h3]; omega
      · omega
  · by_cases h2 : a.fr < b.fr
    · simp [h1, h2]
    · have h3 : b.fr < a.fr := by omega
      simp [h1, h2, h3]
theorem cmp_not_bef {a b : Opn} (h : 0 < cmpO a b) : befB a b = false := by
  unfold cmpO cmpI at h
  unfold befB
  by_cases h1 : a.fr = b.fr
  · have e0 : ¬ b.fr < b.fr := by omega
    rw [h1, if_neg e0, if_neg e0, if_pos rfl] at h
    rw [if_pos h1]
    simp only [decide_eq_false_iff_not]
    intro h2
    rw [if_pos h2] at h
    omega
  · rw [if_neg h1]
    simp only [decide_eq_false_iff_not]
    intro h2
    simp [h2] at h
theorem anyO_at {os : List Opn} {i : Nat} {p : Opn → Bool} (hi : i < os.length) (k : Nat) (hk : k < i) (h : p (os.getD k default) = true) : (os.take i).any p = true := by
  rw [List.any_eq_true]
  refine ⟨os.getD k default, ?_, h⟩
  rw [List.getD_eq_getElem?_getD, List.getElem?_eq_getElem (by omega)]
  exact List.mem_take_iff_getElem.2 ⟨k, by omega, rfl⟩
theorem four_cases (p q r s : Prop) : ¬ p ∨ (p ∧ ¬ q) ∨ (p ∧ q ∧ ¬ r) ∨ (p ∧ q ∧ r ∧ ¬ s) ∨ (p ∧ q ∧ r ∧ s) := by
  by_cases p <;> by_cases q <;> by_cases r <;> by_cases s <;> simp [*]
theorem six_cases (p q r s t u : Prop) : ¬ p ∨ (p ∧ ¬ q) ∨ (p ∧ q ∧ ¬ r) ∨ (p ∧ q ∧ r ∧ ¬ s) ∨ (p ∧ q ∧ r ∧ s ∧ ¬ t) ∨ (p ∧ q ∧ r ∧ s ∧ t ∧ ¬ u) ∨ (p ∧ q ∧ r ∧ s ∧ t ∧ u) := by
  by_cases p <;> by_cases q <;> by_cases r <;> by_cases s <;> by_cases t <;> by_cases u <;> simp [*]
abbrev opnV (o : Opn) : Value := .agg #[.int .i64 o.fr, .int .i64 o.en, .int .i64 o.lo, .int .i64 o.hi]
set_option maxHeartbeats 1600000 in
theorem i_overlap (a b : Opn) (w : World) : Calls Try.prog 55 #[opnV a, opnV b] w (RetE (.bool (ovl a b)) w) := by
  obtain ⟨a1, a2, a3, a4⟩ := a
  obtain ⟨b1, b2, b3, b4⟩ := b
  have HE : Hid (Ext w ((w.alloc (.cells #[.int .i64 a1, .int .i64 a2, .int .i64 a3, .int .i64 a4] 34)).alloc (.cells #[.int .i64 b1, .int .i64 b2, .int .i64 b3, .int .i64 b4] 34))) := Lib.hid (((Ext.refl w).alloc _).alloc _)
  have HV : Hid (ovl ⟨a1, a2, a3, a4⟩ ⟨b1, b2, b3, b4⟩ = (decide (a1 < b2) && (decide (b1 < a2) && (decide (a3 < b4) && decide (b3 < a4))))) := Lib.hid rfl
  rcases four_cases (a1 < b2) (b1 < a2) (a3 < b4) (b3 < a4) with h1 | ⟨h1, h2⟩ | ⟨h1, h2, h3⟩ | ⟨h1, h2, h3, h4⟩ | ⟨h1, h2, h3, h4⟩
  all_goals
    go_enter Try.func55, Try.ntmps55
    go_wp2
    go_ret
    exact RetE.mk (bool_eq (by rw [HV.out]; (simp [*] <;> omega))) HE.out
set_option maxHeartbeats 1600000 in
theorem s_l09Overlap (a b : Opn) (w : World) : Calls Try.prog 48 #[opnV a, opnV b] w (RetE (.bool (ovl a b)) w) := by
  obtain ⟨a1, a2, a3, a4⟩ := a
  obtain ⟨b1, b2, b3, b4⟩ := b
  have HE : Hid (Ext w ((w.alloc (.cells #[.int .i64 a1, .int .i64 a2, .int .i64 a3, .int .i64 a4] 34)).alloc (.cells #[.int .i64 b1, .int .i64 b2, .int .i64 b3, .int .i64 b4] 34))) := Lib.hid (((Ext.refl w).alloc _).alloc _)
  have HV : Hid (ovl ⟨a1, a2, a3, a4⟩ ⟨b1, b2, b3, b4⟩ = (decide (a1 < b2) && (decide (b1 < a2) && (decide (a3 < b4) && decide (b3 < a4))))) := Lib.hid rfl
  rcases four_cases (a1 < b2) (b1 < a2) (a3 < b4) (b3 < a4) with h1 | ⟨h1, h2⟩ | ⟨h1, h2, h3⟩ | ⟨h1, h2, h3, h4⟩ | ⟨h1, h2, h3, h4⟩
  all_goals
    go_enter Try.func48, Try.ntmps48
    go_wp2
    go_ret
    exact RetE.mk (bool_eq (by rw [HV.out]; (simp [*] <;> omega))) HE.out
set_option maxHeartbeats 1600000 in
theorem s_l09Before (a b : Opn) (w : World) : Calls Try.prog 87 #[opnV a, opnV b] w (RetE (.bool (befB a b)) w) := by
  obtain ⟨a1, a2, a3, a4⟩ := a
  obtain ⟨b1, b2, b3, b4⟩ := b
  have HE : Hid (Ext w ((w.alloc (.cells #[.int .i64 a1, .int .i64 a2, .int .i64 a3, .int .i64 a4] 34)).alloc (.cells #[.int .i64 b1, .int .i64 b2, .int .i64 b3, .int .i64 b4] 34))) := Lib.hid (((Ext.refl w).alloc _).alloc _)
  by_cases h : a1 = b1
  · have HV : Hid (befB ⟨a1, a2, a3, a4⟩ ⟨b1, b2, b3, b4⟩ = decide (a3 < b3)) := Lib.hid (by simp [befB, h])
    subst h
    go_enter Try.func87, Try.ntmps87
    go_wp2
    go_ret
    exact RetE.mk (bool_eq HV.out.symm) HE.out
  · have HV : Hid (befB ⟨a1, a2, a3, a4⟩ ⟨b1, b2, b3, b4⟩ = decide (a1 < b1)) := Lib.hid (by simp [befB, h])
    have t : (a1 != b1) = true := by simp [h]
    go_enter Try.func87, Try.ntmps87
    go_wp2
    go_ret
    exact RetE.mk (bool_eq HV.out.symm) HE.out
set_option maxHeartbeats 1600000 in
theorem i_isOpening (L C : Int) (ao : Option Addr) (n c : Nat) (o : Opn) (w : World) : Calls Try.prog 52 #[.agg #[.int .i64 L, .int .i64 C, .slice ao n c], opnV o] w (RetE (.bool (isOpn L C o)) w) := by
  obtain ⟨a1, a2, a3, a4⟩ := o
  have HE : Hid (Ext w ((w.alloc (.cells #[.int .i64 L, .int .i64 C, .slice ao n c] 30)).alloc (.cells #[.int .i64 a1, .int .i64 a2, .int .i64 a3, .int .i64 a4] 34))) := Lib.hid (((Ext.refl w).alloc _).alloc _)
  have HV : Hid (isOpn L C ⟨a1, a2, a3, a4⟩ = (decide (0 ≤ a1) && (decide (a1 < a2) && (decide (a2 ≤ L) && (decide (0 ≤ a3) && (decide (a3 < a4) && decide (a4 ≤ C))))))) := Lib.hid rfl
  rcases six_cases (0 ≤ a1) (a1 < a2) (a2 ≤ L) (0 ≤ a3) (a3 < a4) (a4 ≤ C) with h1 | ⟨h1, h2⟩ | ⟨h1, h2, h3⟩ | ⟨h1, h2, h3, h4⟩ | ⟨h1, h2, h3, h4, h5⟩ | ⟨h1, h2, h3, h4, h5, h6⟩ | ⟨h1, h2, h3, h4, h5, h6⟩
  all_goals
    go_enter Try.func52, Try.ntmps52
    go_wp2
    go_ret
    exact RetE.mk (bool_eq (by rw [HV.out]; (simp [*] <;> omega))) HE.out
theorem dec_f {p : Prop} [Decidable p] (h : ¬ p) : decide p = false := by simp [h]
set_option maxHeartbeats 1600000 in
theorem s_l09One (b : Nat) (L C : Int) (x : Value) (o : Opn) (w : World) (hb : Three w b (.int .i64 L) (.int .i64 C) x) : Calls Try.prog 47 #[.pointer (some ⟨b, 0, none⟩), opnV o] w (RetE (.bool (isOpn L C o)) w) := by
  obtain ⟨a1, a2, a3, a4⟩ := o
  have HE : Hid (Ext w (w.alloc (.cells #[.int .i64 a1, .int .i64 a2, .int .i64 a3, .int .i64 a4] 34))) := Lib.hid ((Ext.refl w).alloc _)
  obtain ⟨u0, u1, u2, u3⟩ := hb
  have HV : Hid (isOpn L C ⟨a1, a2, a3, a4⟩ = (decide (0 ≤ a1) && (decide (a1 < a2) && (decide (a2 ≤ L) && (decide (0 ≤ a3) && (decide (a3 < a4) && decide (a4 ≤ C))))))) := Lib.hid rfl
  rcases six_cases (0 ≤ a1) (a1 < a2) (a2 ≤ L) (0 ≤ a3) (a3 < a4) (a4 ≤ C) with h1 | ⟨h1, h2⟩ | ⟨h1, h2, h3⟩ | ⟨h1, h2, h3, h4⟩ | ⟨h1, h2, h3, h4, h5⟩ | ⟨h1, h2, h3, h4, h5, h6⟩ | ⟨h1, h2, h3, h4, h5, h6⟩
  · have d := dec_f h1
    have HB : Hid (isOpn L C ⟨a1, a2, a3, a4⟩ = false) := Lib.hid (by rw [HV.out]; simp [*])
    go_enter Try.func47, Try.ntmps47
    go_wp2
    go_quiet (fail)
    go_wp2
    go_ret
    exact RetE.mk (bool_eq HB.out.symm) (HE.out.drewN _)
  · have d := dec_f h2
    have HB : Hid (isOpn L C ⟨a1, a2, a3, a4⟩ = false) := Lib.hid (by rw [HV.out]; simp [*])
    go_enter Try.func47, Try.ntmps47
    go_wp2
    go_quiet (fail)
    go_wp2
    go_ret
    exact RetE.mk (bool_eq HB.out.symm) (HE.out.drewN _)
  · have d := dec_f h3
    have HB : Hid (isOpn L C ⟨a1, a2, a3, a4⟩ = false) := Lib.hid (by rw [HV.out]; simp [*])
    go_enter Try.func47, Try.ntmps47
    go_wp2
    go_quiet (fail)
    go_wp2
    go_ret
    exact RetE.mk (bool_eq HB.out.symm) (HE.out.drewN _)
  · have d := dec_f h4
    have HB : Hid (isOpn L C ⟨a1, a2, a3, a4⟩ = false) := Lib.hid (by rw [HV.out]; simp [*])
    go_enter Try.func47, Try.ntmps47
    go_wp2
    go_quiet (fail)
    go_wp2
    go_ret
    exact RetE.mk (bool_eq HB.out.symm) (HE.out.drewN _)
  · have d := dec_f h5
    have HB : Hid (isOpn L C ⟨a1, a2, a3, a4⟩ = false) := Lib.hid (by rw [HV.out]; simp [*])
    go_enter Try.func47, Try.ntmps47
    go_wp2
    go_quiet (fail)
    go_wp2
    go_ret
    exact RetE.mk (bool_eq HB.out.symm) (HE.out.drewN _)
  · have d := dec_f h6
    have HB : Hid (isOpn L C ⟨a1, a2, a3, a4⟩ = false) := Lib.hid (by rw [HV.out]; simp [*])
    go_enter Try.func47, Try.ntmps47
    go_wp2
    go_quiet (fail)
    go_wp2
    go_ret
    exact RetE.mk (bool_eq HB.out.symm) (HE.out.drewN _)
  · have HB : Hid (isOpn L C ⟨a1, a2, a3, a4⟩ = true) := Lib.hid (by rw [HV.out]; simp [*])
    go_enter Try.func47, Try.ntmps47
    go_wp2
    go_quiet (fail)
    go_wp2
    go_ret
    exact RetE.mk (bool_eq HB.out.symm) (HE.out.drewN _)
theorem f_isNaN (x : Int) (w : World) : Calls Try.prog 127 #[.int .i64 x] w (RetV (.bool false) w) := by
  have t : (x != x) = false := by simp
  go_enter Try.func127, Try.ntmps127
  go_wp2
  go_ret
  exact RetV.mk rfl
theorem f_Compare (x y : Int) (w : World) : Calls Try.prog 91 #[.int .i64 x, .int .i64 y] w (RetV (.int .i64 (cmpI x y)) w) := by
  by_cases h : x < y
  · have HV : Hid (cmpI x y = -1) := Lib.hid (by simp [cmpI, h])
    go_enter Try.func91, Try.ntmps91
    go_wp2_with (go_at_call 127; refine (f_isNaN _ _).mono ?_; rintro e w' ⟨rfl, rfl⟩)
    go_ret
    exact RetV.mk (int_eq HV.out.symm)
  · by_cases h2 : y < x
    · have HV : Hid (cmpI x y = 1) := Lib.hid (by simp [cmpI, h, h2])
      go_enter Try.func91, Try.ntmps91
      go_wp2_with (go_at_call 127; refine (f_isNaN _ _).mono ?_; rintro e w' ⟨rfl, rfl⟩)
      go_ret
      exact RetV.mk (int_eq HV.out.symm)
    · have HV : Hid (cmpI x y = 0) := Lib.hid (by simp [cmpI, h, h2])
      go_enter Try.func91, Try.ntmps91
      go_wp2_with (go_at_call 127; refine (f_isNaN _ _).mono ?_; rintro e w' ⟨rfl, rfl⟩)
      go_ret
      exact RetV.mk (int_eq HV.out.symm)
def or2 (x y : Int) : Int := if x = 0 then y else x
theorem f_Or2 (x y : Int) (g : Nat) (w : World) (h0 : w.cell? ⟨g, 0, none⟩ = some (.int .i64 x)) (h1 : w.cell? ⟨g, 1, none⟩ = some (.int .i64 y)) :
    Calls Try.prog 90 #[.slice (some ⟨g, 0, none⟩) 2 2] w (RetV (.int .i64 (or2 x y)) w) := by
  have HV : Hid (or2 x y = if x = 0 then y else x) := Lib.hid rfl
  go_enter Try.func90, Try.ntmps90
  go_wp2
  go_loop [8] (fun i => ∃ k : Nat, k ≤ 2 ∧ i = .int .i64 k ∧ (0 < k → (x == 0) = true) ∧ (1 < k → (y == 0) = true)) (fun i => 2 - (intOf i).toNat)
  case atStart => exact ⟨0, by omega, rfl, by omega, by omega⟩
  case round =>
    obtain ⟨k, hk, rfl, p1, p2⟩ := hrel
    have hk3 : k = 0 ∨ k = 1 ∨ k = 2 := by omega
    rcases hk3 with rfl | rfl | rfl
    · clear p1 p2
      by_cases hx : x = 0
      · subst hx
        go_wp2
        go_round
        case rel => exact ⟨1, by omega, by go_num, by simp, by omega⟩
        case measure => simp [intOf]
      · have t : (x != 0) = true := by simp [hx]
        have t2 := Lib.hid hx
        clear hx
        go_wp2
        go_ret
        exact RetV.mk (int_eq (by rw [HV.out, if_neg t2.out]))
    · have hx : x = 0 := by simpa using p1 (by omega)
      subst hx
      clear p1 p2
      by_cases hy : y = 0
      · subst hy
        go_wp2
        go_round
        case rel => exact ⟨2, by omega, by go_num, by simp, by simp⟩
        case measure => simp [intOf]
      · have t : (y != 0) = true := by simp [hy]
        go_wp2
        go_ret
        exact RetV.mk (int_eq (by rw [HV.out]; simp))
    · have hx : x = 0 := by simpa using p1 (by omega)
      have hy : y = 0 := by simpa using p2 (by omega)
      subst hx hy
      clear p1 p2
      go_wp2
      go_ret
      exact RetV.mk (int_eq (by rw [HV.out]; simp))
end Go.Proofs.Ytnhmcmohnpbcjaa
