/- The best pair of courses without a clash: what it is, and that it is one. No program in sight. -/
import Derived.Test.YtciamgnfbhijlaaBestOpt
namespace Go.Proofs.Ytciamgnfbhijlaa
open Go.RowKit
set_option linter.unusedSimpArgs false
set_option linter.unusedVariables false
set_option linter.unnecessarySimpa false

/-! ### the order -/
theorem bl_asym2 : ∀ (x y : List UInt8), Op.bytesLess x y = true → Op.bytesLess y x = false
  | _, [], h => by simp [Op.bytesLess] at h
  | [], _ :: _, _ => by simp [Op.bytesLess]
  | a :: x, b :: y, h => by
    simp only [Op.bytesLess, Bool.or_eq_true, decide_eq_true_eq, Bool.and_eq_true, beq_iff_eq] at h
    simp only [Op.bytesLess, Bool.or_eq_false_iff, decide_eq_false_iff_not, Bool.and_eq_false_iff, beq_eq_false_iff_ne]
    rcases h with h | ⟨h1, h2⟩
    · have h' := UInt8.lt_iff_toNat_lt.1 h
      exact ⟨fun e => by have := UInt8.lt_iff_toNat_lt.1 e; omega, .inl (fun e => by subst e; omega)⟩
    · subst h1
      exact ⟨fun e => by have := UInt8.lt_iff_toNat_lt.1 e; omega, .inr (bl_asym2 x y h2)⟩
theorem bl_same2 : ∀ (x y : List UInt8), Op.bytesLess x y = false → Op.bytesLess y x = false → x = y
  | [], [], _, _ => rfl
  | [], _ :: _, h, _ => by simp [Op.bytesLess] at h
  | _ :: _, [], _, h => by simp [Op.bytesLess] at h
  | a :: x, b :: y, h1, h2 => by
    simp only [Op.bytesLess, Bool.or_eq_false_iff, decide_eq_false_iff_not, Bool.and_eq_false_iff, beq_eq_false_iff_ne] at h1 h2
    have e : a = b := UInt8.toNat_inj.1 (by
      have e1 : ¬ a.toNat < b.toNat := fun h => h1.1 (UInt8.lt_iff_toNat_lt.2 h)
      have e2 : ¬ b.toNat < a.toNat := fun h => h2.1 (UInt8.lt_iff_toNat_lt.2 h)
      omega)
    subst e
    rw [bl_same2 x y (by rcases h1.2 with h | h; exact absurd rfl h; exact h) (by rcases h2.2 with h | h; exact absurd rfl h; exact h)]
theorem bl_lt_trans {x y z : List UInt8} (h : Op.bytesLess x y = true) (k : Op.bytesLess y z = true) : Op.bytesLess x z = true := by
  cases e : Op.bytesLess x z with
  | true => rfl
  | false =>
    have h1 := bl_asym2 _ _ k
    -- z is not before y, x is not before z: x is not before y
    have h2 := bl_trans y z x h1 e
    rw [h] at h2
    cases h2
/-- two courses -/
abbrev PR := List UInt8 × List UInt8
def pcN (x : PR) : Int := cutN x.1 + cutN x.2
def ppN (x : PR) : Int := (x.1.length : Int) + x.2.length
/-- a is better than b -/
def ltP (a b : PR) : Bool :=
  if pcN a = pcN b then (if ppN a = ppN b then (if a.1 = b.1 then Op.bytesLess a.2 b.2 else Op.bytesLess a.1 b.1) else decide (ppN a < ppN b)) else decide (pcN a < pcN b)
theorem ltP_iff (a b : PR) : ltP a b = true ↔ pcN a < pcN b ∨ (pcN a = pcN b ∧ (ppN a < ppN b ∨ (ppN a = ppN b ∧ (Op.bytesLess a.1 b.1 = true ∨ (a.1 = b.1 ∧ Op.bytesLess a.2 b.2 = true))))) := by
  unfold ltP
  by_cases h1 : pcN a = pcN b
  · by_cases h2 : ppN a = ppN b
    · by_cases h3 : a.1 = b.1
      · simp [h1, h2, h3, bl_irrefl]
      · simp [h1, h2, h3]
    · simp [h1, h2]
  · simp [h1]
theorem ltP_trans {a b c : PR} (h : ltP a b = true) (k : ltP b c = true) : ltP a c = true := by
  rw [ltP_iff] at *
  rcases h with h | ⟨h1, h | ⟨h2, h⟩⟩
  · rcases k with k | ⟨k1, _⟩ <;> (left; omega)
  · rcases k with k | ⟨k1, k | ⟨k2, _⟩⟩
    · left; omega
    · right; exact ⟨by omega, .inl (by omega)⟩
    · right; exact ⟨by omega, .inl (by omega)⟩
  · rcases k with k | ⟨k1, k | ⟨k2, k⟩⟩
    · left; omega
    · right; exact ⟨by omega, .inl (by omega)⟩
    · right
      refine ⟨by omega, .inr ⟨by omega, ?_⟩⟩
      rcases h with h | ⟨h3, h⟩
      · rcases k with k | ⟨k3, k⟩
        · exact .inl (bl_lt_trans h k)
        · left; rw [← k3]; exact h
      · rcases k with k | ⟨k3, k⟩
        · left; rw [h3]; exact k
        · exact .inr ⟨h3.trans k3, bl_lt_trans h k⟩
theorem ltP_irrefl (a : PR) : ltP a a = false := by unfold ltP; simp [bl_irrefl]
theorem ltP_same {a b : PR} (h : ltP a b = false) (k : ltP b a = false) : a = b := by
  have h' : ¬ ltP a b = true := by rw [h]; simp
  have k' : ¬ ltP b a = true := by rw [k]; simp
  rw [ltP_iff] at h' k'
  have e1 : pcN a = pcN b := by
    have a1 : ¬ pcN a < pcN b := fun e => h' (.inl e)
    have a2 : ¬ pcN b < pcN a := fun e => k' (.inl e)
    omega
  have e2 : ppN a = ppN b := by
    have a1 : ¬ ppN a < ppN b := fun e => h' (.inr ⟨e1, .inl e⟩)
    have a2 : ¬ ppN b < ppN a := fun e => k' (.inr ⟨e1.symm, .inl e⟩)
    omega
  have e3 : a.1 = b.1 := by
    refine bl_same2 _ _ ?_ ?_
    · cases e : Op.bytesLess a.1 b.1 with
      | false => rfl
      | true => exact absurd (.inr ⟨e1, .inr ⟨e2, .inl e⟩⟩) h'
    · cases e : Op.bytesLess b.1 a.1 with
      | false => rfl
      | true => exact absurd (.inr ⟨e1.symm, .inr ⟨e2.symm, .inl e⟩⟩) k'
  have e4 : a.2 = b.2 := by
    refine bl_same2 _ _ ?_ ?_
    · cases e : Op.bytesLess a.2 b.2 with
      | false => rfl
      | true => exact absurd (.inr ⟨e1, .inr ⟨e2, .inr ⟨e3, e⟩⟩⟩) h'
    · cases e : Op.bytesLess b.2 a.2 with
      | false => rfl
      | true => exact absurd (.inr ⟨e1.symm, .inr ⟨e2.symm, .inr ⟨e3.symm, e⟩⟩⟩) k'
  exact Prod.ext e3 e4
/-! ### the best of a set -/
def IsBest (S : PR → Prop) (o : Option PR) : Prop := (∀ x, o = some x → S x ∧ ∀ y, S y → ltP y x = false) ∧ (o = none → ∀ y, ¬ S y)
theorem IsBest.uniq {S : PR → Prop} {o o' : Option PR} (h : IsBest S o) (k : IsBest S o') : o = o' := by
  cases o with
  | none => cases o' with
    | none => rfl
    | some y => exact absurd (k.1 y rfl).1 (h.2 rfl y)
  | some x => cases o' with
    | none => exact absurd (h.1 x rfl).1 (k.2 rfl x)
    | some y => rw [ltP_same ((k.1 y rfl).2 x (h.1 x rfl).1) ((h.1 x rfl).2 y (k.1 y rfl).1)]
theorem IsBest.congr {S T : PR → Prop} {o : Option PR} (h : IsBest S o) (e : ∀ x, T x ↔ S x) : IsBest T o :=
  ⟨fun x hx => ⟨(e x).2 (h.1 x hx).1, fun y hy => (h.1 x hx).2 y ((e y).1 hy)⟩, fun hn y hy => h.2 hn y ((e y).1 hy)⟩
theorem IsBest.none_of {S : PR → Prop} (h : ∀ x, ¬ S x) : IsBest S none := ⟨fun x hx => (by cases hx), fun _ => h⟩
/-- the better one of what there was and of what comes -/
def pickP (now x : Option PR) : Option PR := match x with
  | none => now
  | some a => match now with
    | none => some a
    | some b => if ltP a b then some a else some b
theorem IsBest.pick {S T : PR → Prop} {o p : Option PR} (h : IsBest S o) (k : IsBest T p) : IsBest (fun x => S x ∨ T x) (pickP o p) := by
  cases p with
  | none => exact h.congr (fun x => ⟨fun e => e.resolve_right (k.2 rfl x), .inl⟩)
  | some a =>
    have ⟨k1, k2⟩ := k.1 a rfl
    cases o with
    | none => exact k.congr (fun x => ⟨fun e => e.resolve_left (h.2 rfl x), .inr⟩)
    | some b =>
      have ⟨h1, h2⟩ := h.1 b rfl
      unfold pickP
      dsimp only
      cases e : ltP a b with
      | true =>
        rw [if_pos rfl]
        refine ⟨fun x hx => ?_, fun hn => by cases hn⟩
        obtain rfl := Option.some.inj hx
        refine ⟨.inr k1, fun y hy => ?_⟩
        rcases hy with hy | hy
        · cases e2 : ltP y a with
          | false => rfl
          | true => have := ltP_trans e2 e; rw [h2 y hy] at this; cases this
        · exact k2 y hy
      | false =>
        rw [if_neg (by simp)]
        refine ⟨fun x hx => ?_, fun hn => by cases hn⟩
        obtain rfl := Option.some.inj hx
        refine ⟨.inl h1, fun y hy => ?_⟩
        rcases hy with hy | hy
        · exact h2 y hy
        · cases e2 : ltP y b with
          | false => rfl
          | true =>
            have e3 := k2 y hy
            -- y before b; a is not before b, so b is not after a ..: y is before a or a itself
            by_cases e4 : a = b
            · subst e4; rw [e2] at e3; cases e3
            · have e5 : ltP b a = true := by
                cases e6 : ltP b a with
                | true => rfl
                | false => exact absurd (ltP_same e e6) e4
              have := ltP_trans e2 e5
              rw [e3] at this
              cases this
theorem IsBest.map {S : PR → Prop} {o : Option PR} {f : PR → PR} (h : IsBest S o) (hf : ∀ x y, ltP (f x) (f y) = ltP x y) : IsBest (fun x => ∃ y, S y ∧ x = f y) (o.map f) := by
  cases o with
  | none => exact IsBest.none_of (fun x ⟨y, hy, _⟩ => h.2 rfl y hy)
  | some a =>
    have ⟨h1, h2⟩ := h.1 a rfl
    refine ⟨fun x hx => ?_, fun hn => by cases hn⟩
    obtain rfl := Option.some.inj hx
    refine ⟨⟨a, h1, rfl⟩, ?_⟩
    rintro _ ⟨y, hy, rfl⟩
    rw [hf]; exact h2 y hy
open Classical in
/-- the best of a set, if it has one -/
noncomputable def optP (S : PR → Prop) : Option PR := if h : ∃ o, IsBest S o then h.choose else none
theorem IsBest.opt {S : PR → Prop} {o : Option PR} (h : IsBest S o) : optP S = o := by
  have hx : ∃ o, IsBest S o := ⟨o, h⟩
  unfold optP
  rw [dif_pos hx]
  exact IsBest.uniq hx.choose_spec h
/-! ### pieces laid ahead -/
def consL (c : UInt8) (x : PR) : PR := (c :: x.1, x.2)
def consR (c : UInt8) (x : PR) : PR := (x.1, c :: x.2)
def cutZ (b : UInt8) : Int := if cutB b then 1 else 0
theorem cutN_cons (c : UInt8) (l : List UInt8) : cutN (c :: l) = cutN l + cutZ c := by
  unfold cutN cutZ
  rw [List.countP_cons]
  split <;> simp
theorem ltP_consL (c : UInt8) (x y : PR) : ltP (consL c x) (consL c y) = ltP x y := by
  rw [Bool.eq_iff_iff, ltP_iff, ltP_iff]
  unfold consL pcN ppN
  simp only [cutN_cons, List.length_cons, bl_cons, List.cons.injEq, true_and]
  refine or_congr (by omega) (and_congr (by omega) (or_congr (by omega) (and_congr (by omega) Iff.rfl)))
theorem ltP_consR (c : UInt8) (x y : PR) : ltP (consR c x) (consR c y) = ltP x y := by
  rw [Bool.eq_iff_iff, ltP_iff, ltP_iff]
  unfold consR pcN ppN
  simp only [cutN_cons, List.length_cons, bl_cons, List.cons.injEq, true_and]
  refine or_congr (by omega) (and_congr (by omega) (or_congr (by omega) (and_congr (by omega) Iff.rfl)))
/-! ### the pairs of ends -/
def posL : Int → List UInt8 → List Int
  | a, [] => [a]
  | a, c :: l => a :: posL (a + qB c) l
theorem posL_head (a : Int) (l : List UInt8) : a ∈ posL a l := by cases l <;> simp [posL]
theorem posL_bd : ∀ (l : List UInt8) (a p : Int), p ∈ posL a l → a ≤ p ∧ p ≤ a + qSum l
  | [], a, p, h => by
    simp only [posL, List.mem_singleton] at h
    rw [qSum_nil]; omega
  | c :: l, a, p, h => by
    have hc := qB_bd c
    have hl := qSum_bd l
    rw [qSum_cons]
    rcases List.mem_cons.1 h with rfl | h
    · omega
    · have := posL_bd l _ p h; omega
/-- two places do not clash -/
def freeP (L lap p q : Int) : Prop := p = 0 ∨ q = 0 ∨ p = L ∨ q = L ∨ lap ≤ p - q ∨ lap ≤ q - p
theorem freeP_comm {L lap p q : Int} (h : freeP L lap p q) : freeP L lap q p := by unfold freeP at *; omega
/-- both courses from two places on -/
def SetR (L lap a b : Int) (x : PR) : Prop := x.1.all isPc = true ∧ x.2.all isPc = true ∧ a + qSum x.1 = L ∧ b + qSum x.2 = L ∧ ∀ p ∈ posL a x.1, ∀ q ∈ posL b x.2, freeP L lap p q
theorem setR_swap {L lap a b : Int} {x : PR} : SetR L lap a b x ↔ SetR L lap b a (x.2, x.1) :=
  ⟨fun ⟨h1, h2, h3, h4, h5⟩ => ⟨h2, h1, h4, h3, fun p hp q hq => freeP_comm (h5 q hq p hp)⟩, fun ⟨h1, h2, h3, h4, h5⟩ => ⟨h2, h1, h4, h3, fun p hp q hq => freeP_comm (h5 q hq p hp)⟩⟩
theorem setR_end (L lap : Int) (x : PR) : SetR L lap L L x ↔ x = ([], []) := by
  have hz : ∀ l : List UInt8, l.all isPc = true → L + qSum l = L → l = [] := fun l h1 h2 => by
    cases l with
    | nil => rfl
    | cons c l =>
      rw [List.all_cons, Bool.and_eq_true] at h1
      have hc := qB_bd c
      have hl := qSum_bd l
      have h3 : qB c ≠ 0 := by have := h1.1; unfold isPc at this; simpa using this
      rw [qSum_cons] at h2
      omega
  constructor
  · rintro ⟨h1, h2, h3, h4, _⟩
    exact Prod.ext (hz _ h1 h3) (hz _ h2 h4)
  · rintro rfl
    refine ⟨rfl, rfl, by rw [qSum_nil]; omega, by rw [qSum_nil]; omega, fun p hp q hq => ?_⟩
    simp only [posL, List.mem_singleton] at hp
    exact .inr (.inr (.inl hp))
theorem isBest_end (L lap : Int) : IsBest (SetR L lap L L) (some ([], [])) := by
  refine ⟨fun x hx => ?_, fun h => by cases h⟩
  obtain rfl := Option.some.inj hx
  refine ⟨(setR_end L lap _).2 rfl, fun y hy => ?_⟩
  rw [(setR_end L lap y).1 hy]
  exact ltP_irrefl _
def ord5 : List UInt8 := [83, 72, 84, 66, 67]
theorem isPc_ord {b : UInt8} (h : isPc b = true) : ∃ k, k < 5 ∧ ord5.getD k 0 = b := by
  rcases isPc_five h with rfl | rfl | rfl | rfl | rfl
  · exact ⟨0, by decide, rfl⟩
  · exact ⟨1, by decide, rfl⟩
  · exact ⟨2, by decide, rfl⟩
  · exact ⟨3, by decide, rfl⟩
  · exact ⟨4, by decide, rfl⟩
theorem ord_pc (k : Nat) (hk : k < 5) : isPc (ord5.getD k 0) = true := by
  have h : k = 0 ∨ k = 1 ∨ k = 2 ∨ k = 3 ∨ k = 4 := by omega
  rcases h with rfl | rfl | rfl | rfl | rfl <;> decide
theorem pc_pos {b : UInt8} (h : isPc b = true) : 1 ≤ qB b ∧ qB b ≤ 4 := by
  have := qB_bd b
  have h3 : qB b ≠ 0 := by unfold isPc at h; simpa using h
  omega
/-- what the piece k makes, laid in the lower course -/
def LowK (L lap a b : Int) (k : Nat) (x : PR) : Prop := a + qB (ord5.getD k 0) ≤ L ∧ freeP L lap (a + qB (ord5.getD k 0)) b ∧ ∃ y, SetR L lap (a + qB (ord5.getD k 0)) b y ∧ x = consL (ord5.getD k 0) y
theorem setR_low {L lap a b : Int} (hl : 1 ≤ lap) (h : freeP L lap a b) (hab : a ≤ b) (ha : 0 ≤ a) (hbL : b ≤ L) (hne : a < L) (x : PR) : SetR L lap a b x ↔ ∃ k, k < 5 ∧ LowK L lap a b k x := by
  constructor
  · rintro ⟨h1, h2, h3, h4, h5⟩
    obtain ⟨u, v⟩ := x
    dsimp only at *
    cases u with
    | nil => rw [qSum_nil] at h3; omega
    | cons c u =>
      rw [List.all_cons, Bool.and_eq_true] at h1
      obtain ⟨k, hk, rfl⟩ := isPc_ord h1.1
      have hu := qSum_bd u
      rw [qSum_cons] at h3
      refine ⟨k, hk, by omega, h5 _ (by rw [posL]; exact List.mem_cons_of_mem _ (posL_head _ _)) _ (posL_head _ _), (u, v), ⟨h1.2, h2, by dsimp only; omega, h4, fun p hp q hq => h5 p (by rw [posL]; exact List.mem_cons_of_mem _ hp) q hq⟩, rfl⟩
  · rintro ⟨k, hk, h1, h2, ⟨u, v⟩, ⟨h3, h4, h5, h6, h7⟩, rfl⟩
    dsimp only at *
    refine ⟨?_, h4, ?_, h6, ?_⟩
    · show (_ :: u).all isPc = true
      rw [List.all_cons, ord_pc k hk, h3]; rfl
    · show a + qSum (_ :: u) = L
      rw [qSum_cons]; omega
    · intro p hp q hq
      change p ∈ posL a (_ :: u) at hp
      change q ∈ posL b v at hq
      rw [posL] at hp
      rcases List.mem_cons.1 hp with rfl | hp
      · have := posL_bd v b q hq
        unfold freeP at h ⊢
        omega
      · exact h7 p hp q hq
def HighK (L lap a b : Int) (k : Nat) (x : PR) : Prop := b + qB (ord5.getD k 0) ≤ L ∧ freeP L lap (b + qB (ord5.getD k 0)) a ∧ ∃ y, SetR L lap a (b + qB (ord5.getD k 0)) y ∧ x = consR (ord5.getD k 0) y
theorem setR_high {L lap a b : Int} (hl : 1 ≤ lap) (h : freeP L lap a b) (hab : b < a) (hb : 0 ≤ b) (haL : a ≤ L) (x : PR) : SetR L lap a b x ↔ ∃ k, k < 5 ∧ HighK L lap a b k x := by
  rw [setR_swap, setR_low hl (freeP_comm h) (by omega) hb haL (by omega)]
  refine exists_congr fun k => and_congr Iff.rfl ?_
  refine and_congr Iff.rfl (and_congr Iff.rfl ?_)
  constructor
  · rintro ⟨y, hy, he⟩
    refine ⟨(y.2, y.1), setR_swap.1 hy, ?_⟩
    obtain ⟨u, v⟩ := x
    unfold consL at he
    unfold consR
    simp only [Prod.mk.injEq] at he ⊢
    exact ⟨he.2, he.1⟩
  · rintro ⟨y, hy, rfl⟩
    exact ⟨(y.2, y.1), setR_swap.1 hy, rfl⟩
/-- the best of what the first k pieces make -/
def Upto (C : Nat → PR → Prop) (k : Nat) (x : PR) : Prop := ∃ j, j < k ∧ C j x
theorem isBest_zero (C : Nat → PR → Prop) : IsBest (Upto C 0) none := IsBest.none_of (fun x ⟨j, hj, _⟩ => by omega)
theorem isBest_succ {C : Nat → PR → Prop} {k : Nat} {o p : Option PR} (h : IsBest (Upto C k) o) (hk : IsBest (C k) p) : IsBest (Upto C (k + 1)) (pickP o p) := by
  refine (h.pick hk).congr (fun x => ?_)
  constructor
  · rintro ⟨j, hj, hc⟩
    by_cases e : j = k
    · subst e; exact .inr hc
    · exact .inl ⟨j, by omega, hc⟩
  · rintro (⟨j, hj, hc⟩ | hc)
    · exact ⟨j, by omega, hc⟩
    · exact ⟨k, by omega, hc⟩
theorem isBest_skip {C : Nat → PR → Prop} {k : Nat} {o : Option PR} (h : IsBest (Upto C k) o) (hk : ∀ x, ¬ C k x) : IsBest (Upto C (k + 1)) o := isBest_succ h (IsBest.none_of hk)
/-! ### the program's way: quarter by quarter -/
/-- both courses from a place on; the pieces at hand have begun at two places -/
def SetI (L lap at_ lo hi : Int) (x : PR) : Prop := SetR L lap lo hi x ∧ ((66 : UInt8) ∉ x.1 ∧ (66 : UInt8) ∉ x.2) ∧ (∀ c r, x.1 = c :: r → at_ < lo + qB c) ∧ (∀ c r, x.2 = c :: r → at_ < hi + qB c)
/-- the piece of a number of quarters -/
def widB (n : Int) : UInt8 := [63, 67, 72, 84, 83].getD n.toNat 0
theorem widB_q {c : UInt8} (h : isPc c = true) (hc : c ≠ 66) : widB (qB c) = c := by
  rcases isPc_five h with rfl | rfl | rfl | rfl | rfl
  · rw [qB_S]; rfl
  · rw [qB_H]; rfl
  · rw [qB_T]; rfl
  · exact absurd rfl hc
  · rw [qB_C]; rfl
theorem wid_ok {n : Int} (h1 : 1 ≤ n) (h2 : n ≤ 4) : isPc (widB n) = true ∧ qB (widB n) = n ∧ widB n ≠ 66 := by
  have h : n = 1 ∨ n = 2 ∨ n = 3 ∨ n = 4 := by omega
  rcases h with rfl | rfl | rfl | rfl
  · exact ⟨by decide, qB_C, by decide⟩
  · exact ⟨by decide, qB_H, by decide⟩
  · exact ⟨by decide, qB_T, by decide⟩
  · exact ⟨by decide, qB_S, by decide⟩
/-- pieces may end, or go on, at the next place -/
def mayP (L lap at_ lo hi : Int) (a b : Bool) : Bool :=
  if (!a && decide (3 < at_ + 1 - lo)) || (!b && decide (3 < at_ + 1 - hi)) then false
  else if at_ + 1 = L then a && b
  else !(a && b) && !(a && decide (0 < hi) && decide (at_ + 1 - hi < lap)) && !(b && decide (0 < lo) && decide (at_ + 1 - lo < lap))
def fPair (at_ lo hi : Int) (a b : Bool) (y : PR) : PR := ((if a then [widB (at_ + 1 - lo)] else []) ++ y.1, (if b then [widB (at_ + 1 - hi)] else []) ++ y.2)
theorem ltP_fPair (at_ lo hi : Int) (a b : Bool) (x y : PR) : ltP (fPair at_ lo hi a b x) (fPair at_ lo hi a b y) = ltP x y := by
  cases a <;> cases b
  · rfl
  · exact ltP_consR _ x y
  · exact ltP_consL _ x y
  · exact (ltP_consL _ (consR _ x) (consR _ y)).trans (ltP_consR _ x y)
/-- a state of the search -/
structure StP (L lap at_ lo hi : Int) : Prop where
  lo0 : 0 ≤ lo
  lo1 : lo ≤ at_
  lo2 : at_ - lo ≤ 3
  hi0 : 0 ≤ hi
  hi1 : hi ≤ at_
  hi2 : at_ - hi ≤ 3
  free : freeP L lap lo hi
  le : at_ ≤ L
  end_ : at_ = L → lo = L ∧ hi = L
theorem mayP_spec {L lap at_ lo hi : Int} {a b : Bool} (h : mayP L lap at_ lo hi a b = true) : (a = false → at_ + 1 - lo ≤ 3) ∧ (b = false → at_ + 1 - hi ≤ 3) ∧ (at_ + 1 = L → a = true ∧ b = true) ∧
    (at_ + 1 ≠ L → (a = true → b = false) ∧ (a = true → hi ≤ 0 ∨ lap ≤ at_ + 1 - hi) ∧ (b = true → lo ≤ 0 ∨ lap ≤ at_ + 1 - lo)) := by
  unfold mayP at h
  cases a <;> cases b <;> (by_cases hL : at_ + 1 = L) <;> simp [hL] at h ⊢ <;> omega
theorem mayP_mk {L lap at_ lo hi : Int} {a b : Bool} (h1 : a = false → at_ + 1 - lo ≤ 3) (h2 : b = false → at_ + 1 - hi ≤ 3) (h3 : at_ + 1 = L → a = true ∧ b = true)
    (h4 : at_ + 1 ≠ L → (a = true → b = false) ∧ (a = true → hi ≤ 0 ∨ lap ≤ at_ + 1 - hi) ∧ (b = true → lo ≤ 0 ∨ lap ≤ at_ + 1 - lo)) : mayP L lap at_ lo hi a b = true := by
  unfold mayP
  cases a <;> cases b <;> (by_cases hL : at_ + 1 = L) <;> simp [hL] at h1 h2 h3 h4 ⊢ <;> omega
theorem StP.next {L lap at_ lo hi : Int} (S : StP L lap at_ lo hi) (hlt : at_ < L) {a b : Bool} (h : mayP L lap at_ lo hi a b = true) : StP L lap (at_ + 1) (if a then at_ + 1 else lo) (if b then at_ + 1 else hi) := by
  obtain ⟨h1, h2, h3, h4⟩ := mayP_spec h
  obtain ⟨s1, s2, s3, s4, s5, s6, s7, s8, s9⟩ := S
  unfold freeP at s7
  cases a <;> cases b
  · have k1 := h1 rfl
    have k2 := h2 rfl
    simp only [if_false, Bool.false_eq_true]
    exact ⟨s1, by omega, by omega, s4, by omega, by omega, s7, by omega, fun e => by have := (h3 e).1; cases this⟩
  · have k1 := h1 rfl
    simp only [if_true, if_false, Bool.false_eq_true]
    have hne : at_ + 1 ≠ L := fun e => by have := (h3 e).1; cases this
    have h5 := (h4 hne).2.2 rfl
    refine ⟨s1, by omega, by omega, by omega, by omega, by omega, ?_, by omega, fun e => absurd e hne⟩
    unfold freeP; omega
  · have k2 := h2 rfl
    simp only [if_true, if_false, Bool.false_eq_true]
    have hne : at_ + 1 ≠ L := fun e => by have := (h3 e).2; cases this
    have h5 := (h4 hne).2.1 rfl
    refine ⟨by omega, by omega, by omega, s4, by omega, by omega, ?_, by omega, fun e => absurd e hne⟩
    unfold freeP; omega
  · simp only [if_true]
    refine ⟨by omega, by omega, by omega, by omega, by omega, by omega, ?_, by omega, fun e => ⟨e, e⟩⟩
    by_cases e : at_ + 1 = L
    · unfold freeP; omega
    · have := (h4 e).1 rfl; cases this
theorem first_of {lo L : Int} {u : List UInt8} (h : u.all isPc = true) (hs : lo + qSum u = L) (hlt : lo < L) (hB : (66 : UInt8) ∉ u) : ∃ c r, u = c :: r ∧ isPc c = true ∧ r.all isPc = true ∧ 1 ≤ qB c ∧ qB c ≤ 4 ∧ lo + qB c + qSum r = L ∧ 0 ≤ qSum r ∧ widB (qB c) = c ∧ (66 : UInt8) ∉ r := by
  cases u with
  | nil => rw [qSum_nil] at hs; omega
  | cons c r =>
    rw [List.all_cons, Bool.and_eq_true] at h
    rw [qSum_cons] at hs
    have := pc_pos h.1
    have hr := qSum_bd r
    simp only [List.mem_cons, not_or] at hB
    exact ⟨c, r, rfl, h.1, h.2, this.1, this.2, by omega, hr.1, widB_q h.1 (fun e => hB.1 e.symm), hB.2⟩
/-- what the choice of ends a, b makes -/
def ChoP (L lap at_ lo hi : Int) (a b : Bool) (x : PR) : Prop := mayP L lap at_ lo hi a b = true ∧ ∃ y, SetI L lap (at_ + 1) (if a then at_ + 1 else lo) (if b then at_ + 1 else hi) y ∧ x = fPair at_ lo hi a b y
theorem setI_from {L lap at_ lo hi : Int} (hl : 1 ≤ lap) (S : StP L lap at_ lo hi) (hlt : at_ < L) {x : PR} (h : SetI L lap at_ lo hi x) : ∃ a b, ChoP L lap at_ lo hi a b x := by
  obtain ⟨⟨h1, h2, h3, h4, h5⟩, ⟨hb1, hb2⟩, ha1, ha2⟩ := h
  obtain ⟨s1, s2, s3, s4, s5, s6, s7, s8, s9⟩ := S
  obtain ⟨u, v⟩ := x
  dsimp only at *
  obtain ⟨c, r, rfl, c1, c2, c3, c4, c5, c6, c7, c8⟩ := first_of h1 h3 (by omega) hb1
  obtain ⟨d, t, rfl, d1, d2, d3, d4, d5, d6, d7, d8⟩ := first_of h2 h4 (by omega) hb2
  have e1 := ha1 c r rfl
  have e2 := ha2 d t rfl
  have f1 : lo + qB c ∈ posL lo (c :: r) := by rw [posL]; exact List.mem_cons_of_mem _ (posL_head _ _)
  have f2 : hi + qB d ∈ posL hi (d :: t) := by rw [posL]; exact List.mem_cons_of_mem _ (posL_head _ _)
  have g1 := h5 _ f1 _ f2
  have g2 := h5 _ f1 _ (posL_head hi (d :: t))
  have g3 := h5 _ (posL_head lo (c :: r)) _ f2
  unfold freeP at g1 g2 g3
  have p1 : ∀ p, p ∈ posL (lo + qB c) r → p ∈ posL lo (c :: r) := fun p hp => by rw [posL]; exact List.mem_cons_of_mem _ hp
  have p2 : ∀ p, p ∈ posL (hi + qB d) t → p ∈ posL hi (d :: t) := fun p hp => by rw [posL]; exact List.mem_cons_of_mem _ hp
  have q1 : ∀ c' r', r = c' :: r' → 1 ≤ qB c' := fun c' r' e => by subst e; rw [List.all_cons, Bool.and_eq_true] at c2; exact (pc_pos c2.1).1
  have q2 : ∀ c' r', t = c' :: r' → 1 ≤ qB c' := fun c' r' e => by subst e; rw [List.all_cons, Bool.and_eq_true] at d2; exact (pc_pos d2.1).1
  by_cases ea : lo + qB c = at_ + 1
  · have hw : widB (at_ + 1 - lo) = c := by rw [← ea, show lo + qB c - lo = qB c by omega, c7]
    by_cases eb : hi + qB d = at_ + 1
    · have hw2 : widB (at_ + 1 - hi) = d := by rw [← eb, show hi + qB d - hi = qB d by omega, d7]
      refine ⟨true, true, mayP_mk (by simp) (by simp) (by simp) (fun e => ?_), (r, t), ⟨⟨c2, d2, by simp only [if_true]; omega, by simp only [if_true]; omega, fun p hp q hq => ?_⟩, ⟨c8, d8⟩, fun c' r' e => ?_, fun c' r' e => ?_⟩, ?_⟩
      · exfalso; omega
      · simp only [if_true] at hp hq
        rw [← ea] at hp; rw [← eb] at hq
        exact h5 p (p1 p hp) q (p2 q hq)
      · have := q1 c' r' e; simp only [if_true]; omega
      · have := q2 c' r' e; simp only [if_true]; omega
      · unfold fPair; rw [hw, hw2]; rfl
    · refine ⟨true, false, mayP_mk (by simp) (fun _ => by omega) (fun e => ?_) (fun e => ⟨fun _ => rfl, fun _ => by omega, by simp⟩), (r, d :: t), ⟨⟨c2, h2, by simp only [if_true]; omega, by simp only [if_false, Bool.false_eq_true]; rw [qSum_cons]; omega, fun p hp q hq => ?_⟩, ⟨c8, hb2⟩, fun c' r' e => ?_, fun c' r' e => ?_⟩, ?_⟩
      · exfalso; omega
      · simp only [if_true, if_false, Bool.false_eq_true] at hp hq
        rw [← ea] at hp
        exact h5 p (p1 p hp) q hq
      · have := q1 c' r' e; simp only [if_true]; omega
      · obtain ⟨rfl, rfl⟩ := List.cons.inj e; simp only [if_false, Bool.false_eq_true]; omega
      · unfold fPair; rw [hw]; rfl
  · by_cases eb : hi + qB d = at_ + 1
    · have hw2 : widB (at_ + 1 - hi) = d := by rw [← eb, show hi + qB d - hi = qB d by omega, d7]
      refine ⟨false, true, mayP_mk (fun _ => by omega) (by simp) (fun e => ?_) (fun e => ⟨by simp, by simp, fun _ => by omega⟩), (c :: r, t), ⟨⟨h1, d2, by simp only [if_false, Bool.false_eq_true]; rw [qSum_cons]; omega, by simp only [if_true]; omega, fun p hp q hq => ?_⟩, ⟨hb1, d8⟩, fun c' r' e => ?_, fun c' r' e => ?_⟩, ?_⟩
      · exfalso; omega
      · simp only [if_true, if_false, Bool.false_eq_true] at hp hq
        rw [← eb] at hq
        exact h5 p hp q (p2 q hq)
      · obtain ⟨rfl, rfl⟩ := List.cons.inj e; simp only [if_false, Bool.false_eq_true]; omega
      · have := q2 c' r' e; simp only [if_true]; omega
      · unfold fPair; rw [hw2]; rfl
    · refine ⟨false, false, mayP_mk (fun _ => by omega) (fun _ => by omega) (fun e => ?_) (fun e => ⟨by simp, by simp, by simp⟩), (c :: r, d :: t), ⟨⟨h1, h2, h3, h4, h5⟩, ⟨hb1, hb2⟩, fun c' r' e => ?_, fun c' r' e => ?_⟩, rfl⟩
      · exfalso; omega
      · obtain ⟨rfl, rfl⟩ := List.cons.inj e; simp only [if_false, Bool.false_eq_true]; omega
      · obtain ⟨rfl, rfl⟩ := List.cons.inj e; simp only [if_false, Bool.false_eq_true]; omega
theorem setI_to {L lap at_ lo hi : Int} (hl : 1 ≤ lap) (S : StP L lap at_ lo hi) (hlt : at_ < L) {x : PR} {a b : Bool} (h : ChoP L lap at_ lo hi a b x) : SetI L lap at_ lo hi x := by
  obtain ⟨hm, ⟨u, v⟩, ⟨⟨h1, h2, h3, h4, h5⟩, ⟨hb1, hb2⟩, ha1, ha2⟩, rfl⟩ := h
  have SN := S.next hlt hm
  obtain ⟨m1, m2, m3, m4⟩ := mayP_spec hm
  obtain ⟨s1, s2, s3, s4, s5, s6, s7, s8, s9⟩ := S
  dsimp only at *
  unfold freeP at s7
  cases a <;> cases b <;> simp only [if_true, if_false, Bool.false_eq_true] at *
  · refine ⟨⟨h1, h2, h3, h4, h5⟩, ⟨hb1, hb2⟩, fun c r e => ?_, fun c r e => ?_⟩
    · have := ha1 c r e; omega
    · have := ha2 c r e; omega
  · have w := wid_ok (n := at_ + 1 - hi) (by omega) (by omega)
    have hv := qSum_bd v
    refine ⟨⟨h1, ?_, h3, ?_, fun p hp q hq => ?_⟩, ⟨hb1, ?_⟩, fun c r e => ?_, fun c r e => ?_⟩
    · show (widB _ :: v).all isPc = true
      rw [List.all_cons, w.1, h2]; rfl
    · show hi + qSum (widB _ :: v) = L
      rw [qSum_cons, w.2.1]; omega
    · change p ∈ posL lo u at hp
      change q ∈ posL hi (widB _ :: v) at hq
      rw [posL, w.2.1, show hi + (at_ + 1 - hi) = at_ + 1 by omega] at hq
      rcases List.mem_cons.1 hq with rfl | hq
      · cases u with
        | nil => rw [qSum_nil] at h3; omega
        | cons c r =>
          have e := ha1 c r rfl
          rw [posL] at hp
          rcases List.mem_cons.1 hp with rfl | hp
          · exact s7
          · have g := h5 p (by rw [posL]; exact List.mem_cons_of_mem _ hp) (at_ + 1) (posL_head _ _)
            have := posL_bd r _ p hp
            unfold freeP at g ⊢
            by_cases e : at_ + 1 = L
            · have := m3 e; simp at this
            · omega
      · exact h5 p hp q hq
    · show (66 : UInt8) ∉ widB _ :: v
      simp only [List.mem_cons, not_or]
      exact ⟨fun e => w.2.2 e.symm, hb2⟩
    · have := ha1 c r e; omega
    · change widB _ :: v = c :: r at e
      obtain ⟨rfl, rfl⟩ := List.cons.inj e
      rw [w.2.1]; omega
  · have w := wid_ok (n := at_ + 1 - lo) (by omega) (by omega)
    have hv := qSum_bd u
    refine ⟨⟨?_, h2, ?_, h4, fun p hp q hq => ?_⟩, ⟨?_, hb2⟩, fun c r e => ?_, fun c r e => ?_⟩
    · show (widB _ :: u).all isPc = true
      rw [List.all_cons, w.1, h1]; rfl
    · show lo + qSum (widB _ :: u) = L
      rw [qSum_cons, w.2.1]; omega
    · change p ∈ posL lo (widB _ :: u) at hp
      change q ∈ posL hi v at hq
      rw [posL, w.2.1, show lo + (at_ + 1 - lo) = at_ + 1 by omega] at hp
      rcases List.mem_cons.1 hp with rfl | hp
      · cases v with
        | nil => rw [qSum_nil] at h4; omega
        | cons c r =>
          have e := ha2 c r rfl
          rw [posL] at hq
          rcases List.mem_cons.1 hq with rfl | hq
          · exact s7
          · have g := h5 (at_ + 1) (posL_head _ _) q (by rw [posL]; exact List.mem_cons_of_mem _ hq)
            have := posL_bd r _ q hq
            unfold freeP at g ⊢
            by_cases e : at_ + 1 = L
            · have := m3 e; simp at this
            · omega
      · exact h5 p hp q hq
    · show (66 : UInt8) ∉ widB _ :: u
      simp only [List.mem_cons, not_or]
      exact ⟨fun e => w.2.2 e.symm, hb1⟩
    · change widB _ :: u = c :: r at e
      obtain ⟨rfl, rfl⟩ := List.cons.inj e
      rw [w.2.1]; omega
    · have := ha2 c r e; omega
  · have e : at_ + 1 = L := by
      by_cases e : at_ + 1 = L
      · exact e
      · have := (m4 e).1; simp at this
    have w := wid_ok (n := at_ + 1 - lo) (by omega) (by omega)
    have w' := wid_ok (n := at_ + 1 - hi) (by omega) (by omega)
    refine ⟨⟨?_, ?_, ?_, ?_, fun p hp q hq => ?_⟩, ⟨?_, ?_⟩, fun c r e => ?_, fun c r e => ?_⟩
    · show (widB _ :: u).all isPc = true
      rw [List.all_cons, w.1, h1]; rfl
    · show (widB _ :: v).all isPc = true
      rw [List.all_cons, w'.1, h2]; rfl
    · show lo + qSum (widB _ :: u) = L
      rw [qSum_cons, w.2.1]; omega
    · show hi + qSum (widB _ :: v) = L
      rw [qSum_cons, w'.2.1]; omega
    · change p ∈ posL lo (widB _ :: u) at hp
      change q ∈ posL hi (widB _ :: v) at hq
      rw [posL, w.2.1, show lo + (at_ + 1 - lo) = at_ + 1 by omega] at hp
      rw [posL, w'.2.1, show hi + (at_ + 1 - hi) = at_ + 1 by omega] at hq
      rcases List.mem_cons.1 hp with rfl | hp
      · rcases List.mem_cons.1 hq with rfl | hq
        · exact s7
        · have := posL_bd v _ q hq; unfold freeP; omega
      · have := posL_bd u _ p hp; unfold freeP; omega
    · show (66 : UInt8) ∉ widB _ :: u
      simp only [List.mem_cons, not_or]
      exact ⟨fun e => w.2.2 e.symm, hb1⟩
    · show (66 : UInt8) ∉ widB _ :: v
      simp only [List.mem_cons, not_or]
      exact ⟨fun e => w'.2.2 e.symm, hb2⟩
    · change widB _ :: u = c :: r at e
      obtain ⟨rfl, rfl⟩ := List.cons.inj e
      rw [w.2.1]; omega
    · change widB _ :: v = c :: r at e
      obtain ⟨rfl, rfl⟩ := List.cons.inj e
      rw [w'.2.1]; omega
def ends (k : Nat) : Bool × Bool := (k % 2 == 1, k / 2 % 2 == 1)
def ChoK (L lap at_ lo hi : Int) (k : Nat) (x : PR) : Prop := ChoP L lap at_ lo hi (ends k).1 (ends k).2 x
theorem setI_step {L lap at_ lo hi : Int} (hl : 1 ≤ lap) (S : StP L lap at_ lo hi) (hlt : at_ < L) (x : PR) : SetI L lap at_ lo hi x ↔ Upto (ChoK L lap at_ lo hi) 4 x := by
  constructor
  · intro h
    obtain ⟨a, b, hc⟩ := setI_from hl S hlt h
    cases a <;> cases b
    · exact ⟨0, by decide, hc⟩
    · exact ⟨2, by decide, hc⟩
    · exact ⟨1, by decide, hc⟩
    · exact ⟨3, by decide, hc⟩
  · rintro ⟨k, _, hc⟩
    exact setI_to hl S hlt hc
theorem setI_end (L lap : Int) (x : PR) : SetI L lap L L L x ↔ x = ([], []) := by
  constructor
  · exact fun h => (setR_end L lap x).1 h.1
  · rintro rfl
    exact ⟨(setR_end L lap _).2 rfl, by simp, by simp, by simp⟩
theorem isBestI_end (L lap : Int) : IsBest (SetI L lap L L L) (some ([], [])) := (isBest_end L lap).congr (fun x => (setI_end L lap x).trans (setR_end L lap x).symm)
/-! ### a half bat is never best -/
def deB (l : List UInt8) : List UInt8 := l.map fun b => if b = 66 then 72 else b
theorem deB_one (b : UInt8) : qB (if b = 66 then 72 else b) = qB b ∧ (isPc b = true → isPc (if b = 66 then 72 else b) = true) := by
  by_cases h : b = 66
  · subst h; rw [if_pos rfl]; exact ⟨by rw [qB_H, qB_B], fun _ => by decide⟩
  · rw [if_neg h]; exact ⟨rfl, id⟩
theorem deB_sum (l : List UInt8) : qSum (deB l) = qSum l := by
  induction l with
  | nil => rfl
  | cons b l ih => rw [show deB (b :: l) = (if b = 66 then 72 else b) :: deB l from rfl, qSum_cons, qSum_cons, ih, (deB_one b).1]
theorem deB_pc (l : List UInt8) (h : l.all isPc = true) : (deB l).all isPc = true := by
  induction l with
  | nil => rfl
  | cons b l ih =>
    rw [List.all_cons, Bool.and_eq_true] at h
    rw [show deB (b :: l) = (if b = 66 then 72 else b) :: deB l from rfl, List.all_cons, (deB_one b).2 h.1, ih h.2]; rfl
theorem deB_pos (l : List UInt8) (a : Int) : posL a (deB l) = posL a l := by
  induction l generalizing a with
  | nil => rfl
  | cons b l ih => rw [show deB (b :: l) = (if b = 66 then 72 else b) :: deB l from rfl, posL, posL, (deB_one b).1, ih]
theorem deB_len (l : List UInt8) : (deB l).length = l.length := List.length_map _
theorem deB_cut (l : List UInt8) : cutN (deB l) ≤ cutN l ∧ ((66 : UInt8) ∈ l → cutN (deB l) < cutN l) := by
  induction l with
  | nil => exact ⟨Int.le_refl _, by simp⟩
  | cons b l ih =>
    rw [show deB (b :: l) = (if b = 66 then 72 else b) :: deB l from rfl, cutN_cons, cutN_cons]
    by_cases h : b = 66
    · subst h
      rw [if_pos rfl]
      have e1 : cutZ 72 = 0 := by decide
      have e2 : cutZ 66 = 1 := by decide
      exact ⟨by omega, fun _ => by omega⟩
    · rw [if_neg h]
      refine ⟨by omega, fun hm => ?_⟩
      rcases List.mem_cons.1 hm with e | hm
      · exact absurd e.symm h
      · have := ih.2 hm; omega
theorem deB_no (l : List UInt8) : (66 : UInt8) ∉ deB l := by
  induction l with
  | nil => simp [deB]
  | cons b l ih =>
    rw [show deB (b :: l) = (if b = 66 then 72 else b) :: deB l from rfl]
    simp only [List.mem_cons, not_or]
    refine ⟨?_, ih⟩
    by_cases h : b = 66
    · rw [if_pos h]; decide
    · rw [if_neg h]; exact fun e => h e.symm
theorem isBest_noB {L lap : Int} {o : Option PR} (h : IsBest (SetI L lap 0 0 0) o) : IsBest (SetR L lap 0 0) o := by
  have hd : ∀ y, SetR L lap 0 0 y → SetI L lap 0 0 0 (deB y.1, deB y.2) := fun y ⟨h1, h2, h3, h4, h5⟩ => by
    refine ⟨⟨deB_pc _ h1, deB_pc _ h2, by dsimp only; rw [deB_sum]; exact h3, by dsimp only; rw [deB_sum]; exact h4, fun p hp q hq => h5 p (by rw [← deB_pos]; exact hp) q (by rw [← deB_pos]; exact hq)⟩, ⟨deB_no _, deB_no _⟩, fun c r e => ?_, fun c r e => ?_⟩
    · have := deB_pc _ h1
      dsimp only at e
      rw [e, List.all_cons, Bool.and_eq_true] at this
      have := (pc_pos this.1).1; omega
    · have := deB_pc _ h2
      dsimp only at e
      rw [e, List.all_cons, Bool.and_eq_true] at this
      have := (pc_pos this.1).1; omega
  refine ⟨fun x hx => ⟨(h.1 x hx).1.1, fun y hy => ?_⟩, fun hn y hy => h.2 hn _ (hd y hy)⟩
  have h1 := (h.1 x hx).2 _ (hd y hy)
  cases e : ltP y x with
  | false => rfl
  | true =>
    by_cases hb : (66 : UInt8) ∈ y.1 ∨ (66 : UInt8) ∈ y.2
    · have e2 : ltP (deB y.1, deB y.2) y = true := by
        rw [ltP_iff]
        left
        unfold pcN
        have a1 := deB_cut y.1
        have a2 := deB_cut y.2
        dsimp only
        rcases hb with hb | hb
        · have := a1.2 hb; have := a2.1; omega
        · have := a2.2 hb; have := a1.1; omega
      have := ltP_trans e2 e
      rw [h1] at this
      cases this
    · rw [not_or] at hb
      have id1 : ∀ l : List UInt8, (66 : UInt8) ∉ l → deB l = l := fun l hl => by
        induction l with
        | nil => rfl
        | cons b l ih =>
          simp only [List.mem_cons, not_or] at hl
          rw [show deB (b :: l) = (if b = 66 then 72 else b) :: deB l from rfl, if_neg (fun e => hl.1 e.symm), ih hl.2]
      rw [id1 _ hb.1, id1 _ hb.2] at h1
      have e3 : ((y.1, y.2) : PR) = y := rfl
      rw [e3, e] at h1
      cases h1
/-! ### bounds -/
theorem len_le {l : List UInt8} (h : l.all isPc = true) : (l.length : Int) ≤ qSum l := by
  induction l with
  | nil => simp [qSum_nil]
  | cons a l ih =>
    rw [List.all_cons, Bool.and_eq_true] at h
    have h1 := ih h.2
    have h2 := (pc_pos h.1).1
    rw [qSum_cons, List.length_cons]
    omega
theorem setR_bd {L lap a b : Int} {x : PR} (h : SetR L lap a b x) : (x.1.length : Int) ≤ L - a ∧ (x.2.length : Int) ≤ L - b ∧ 0 ≤ pcN x ∧ pcN x ≤ 2 * L - a - b ∧ 0 ≤ ppN x ∧ ppN x ≤ 2 * L - a - b := by
  obtain ⟨h1, h2, h3, h4, _⟩ := h
  have a1 := len_le h1
  have a2 := len_le h2
  have b1 := cutN_bd x.1
  have b2 := cutN_bd x.2
  unfold pcN ppN
  omega
end Go.Proofs.Ytciamgnfbhijlaa
