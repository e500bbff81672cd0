/- A plan that begins with another side: it is valid, has the same area and length, and its sides meet alike: plain laws. Nothing here speaks of the program. -/
import Derived.Test.YtaokeaiehjgbnaaGreatDoorGaHc
namespace Go.Proofs.YtaokeaiehjgbnaaGreatDoor
open Go.RowKit
set_option linter.unusedSimpArgs false
set_option linter.unusedVariables false
set_option linter.unnecessarySimpa false

/-- the list with its first thing at the end -/
def rot1 {α : Type} : List α → List α
  | [] => []
  | x :: r => r ++ [x]
theorem rot1_len {α : Type} (l : List α) : (rot1 l).length = l.length := by cases l <;> simp [rot1]
theorem rot1_all {α : Type} (l : List α) (p : α → Bool) : (rot1 l).all p = l.all p := by
  cases l with
  | nil => rfl
  | cons x r => simp [rot1, Bool.and_comm]
theorem rot1_at {α : Type} (l : List α) (d : α) (i : Nat) (h : i + 1 < l.length) : (rot1 l).getD i d = l.getD (i + 1) d := by
  cases l with
  | nil => simp at h
  | cons x r =>
    rw [List.length_cons] at h
    simp only [rot1]
    rw [List.getD_eq_getElem?_getD, List.getD_eq_getElem?_getD, List.getElem?_append_left (by omega), List.getElem?_cons_succ]
theorem rot1_end {α : Type} (l : List α) (d : α) (i : Nat) (h : i + 1 = l.length) : (rot1 l).getD i d = l.getD 0 d := by
  cases l with
  | nil => simp at h
  | cons x r =>
    rw [List.length_cons] at h
    simp only [rot1]
    rw [List.getD_eq_getElem?_getD, List.getElem?_append_right (by omega), show i - r.length = 0 by omega]
    rfl
theorem rot1_turn {α : Type} (l : List α) (k : Nat) (h : k < l.length) : l.drop (k + 1) ++ l.take (k + 1) = rot1 (l.drop k ++ l.take k) := by
  rw [List.drop_eq_getElem_cons h, List.cons_append]
  simp only [rot1]
  rw [List.take_succ_eq_append_getElem h, List.append_assoc]
/-! ### the places -/
/-- a vector, seen by one who goes the way w -/
def seen (w : Int) (p : Int × Int) : Int × Int := if w = 0 then p else if w = 1 then (p.2, -p.1) else if w = 2 then (-p.1, -p.2) else (-p.2, p.1)
def subP (p q : Int × Int) : Int × Int := (p.1 - q.1, p.2 - q.2)
def Way (w : Int) : Prop := w = 0 ∨ w = 1 ∨ w = 2 ∨ w = 3
theorem seen_d {w v : Int} (hw : Way w) (hv : Way v) (s : Int) : seen w (s * dX v, s * dY v) = (s * dX ((v + 4 - w) % 4), s * dY ((v + 4 - w) % 4)) := by
  rcases hw with rfl | rfl | rfl | rfl <;> rcases hv with rfl | rfl | rfl | rfl <;> simp [seen, dX, dY]
theorem seen_add {w : Int} (hw : Way w) (p q : Int × Int) : seen w (p.1 + q.1, p.2 + q.2) = ((seen w p).1 + (seen w q).1, (seen w p).2 + (seen w q).2) := by
  rcases hw with rfl | rfl | rfl | rfl <;> simp [seen] <;> (try constructor) <;> omega
/-- what the plan from the next side on sees -/
theorem stH_rot (xs : List Int) (t : List UInt8) (ht : t.length = xs.length) : ∀ j, j + 1 ≤ xs.length →
    stH (rot1 xs) (rot1 t) j = ((seen (stH xs t 1).2.2 (subP (ptH xs t (j + 1)) (ptH xs t 1))).1, (seen (stH xs t 1).2.2 (subP (ptH xs t (j + 1)) (ptH xs t 1))).2, ((stH xs t (j + 1)).2.2 + 4 - (stH xs t 1).2.2) % 4)
  | 0, h => by
    have hw := way_bd xs t 1
    generalize hgw : (stH xs t 1).2.2 = w at hw
    have h1 : subP (ptH xs t (0 + 1)) (ptH xs t 1) = (0, 0) := by simp [subP]
    rw [h1]
    show ((0 : Int), (0 : Int), (0 : Int)) = _
    rcases hw with h | h | h | h <;> subst h <;> simp [seen]
  | j + 1, h => by
    have ih := stH_rot xs t ht j (by omega)
    have hw := way_bd xs t 1
    have hv := way_bd xs t (j + 1)
    have e1 := rot1_at xs 0 j (by omega)
    have e2 := rot1_at t 0 j (by omega)
    show stepH (stH (rot1 xs) (rot1 t) j) ((rot1 xs).getD j 0) ((rot1 t).getD j 0) = _
    rw [e1, e2, ih]
    have hs : stH xs t (j + 1 + 1) = stepH (stH xs t (j + 1)) (xs.getD (j + 1) 0) (t.getD (j + 1) 0) := rfl
    unfold ptH
    rw [hs]
    generalize stH xs t (j + 1) = st at *
    generalize (stH xs t 1).2.2 = w at *
    generalize (stH xs t 1).1 = ox at *
    generalize (stH xs t 1).2.1 = oy at *
    generalize xs.getD (j + 1) 0 = s
    generalize t.getD (j + 1) 0 = b
    obtain ⟨px, py, v⟩ := st
    simp only [stepH, subP] at hv ⊢
    have hsd := seen_d hw hv s
    have hsa := seen_add hw (px - ox, py - oy) (s * dX v, s * dY v)
    rw [show px + s * dX v - ox = px - ox + s * dX v by omega, show py + s * dY v - oy = py - oy + s * dY v by omega, hsa, hsd]
    simp only [Prod.mk.injEq, true_and]
    rcases hw with h | h | h | h <;> subst h <;> rcases hv with h | h | h | h <;> subst h <;> by_cases hb : b = 76 <;> simp [hb]
/-- the end of a valid plan -/
structure Closed (xs : List Int) (t : List UInt8) : Prop where
  pos : 1 ≤ xs.length
  tl : t.length = xs.length
  px : (stH xs t xs.length).1 = 0
  py : (stH xs t xs.length).2.1 = 0
  way : (stH xs t xs.length).2.2 = 0
theorem way_turn (xs : List Int) (t : List UInt8) (hl : t.all lrB = true) : ∀ k, k ≤ t.length → (stH xs t k).2.2 = turnN t k % 4
  | 0, _ => by simp [stH, turnN, cntL]
  | k + 1, h => by
    have ih := way_turn xs t hl k (by omega)
    show (stepH _ _ _).2.2 = _
    unfold stepH
    dsimp only
    rw [ih, turnN_succ t k (by omega)]
    by_cases hb : t.getD k 0 = 76
    · rw [if_pos hb, if_pos hb]; omega
    · rw [if_neg hb, if_neg hb]; omega
theorem closed_of {xs : List Int} {t : List UInt8} (h : validH xs t = true) : Closed xs t := by
  have hb := validH_bd h
  unfold validH at h
  simp only [Bool.and_eq_true, decide_eq_true_eq, inB_iff] at h
  obtain ⟨_, _, h1, h2, h3, h4, h5⟩ := h
  refine ⟨by omega, h1, h4, h5, ?_⟩
  rw [way_turn xs t h2 xs.length (by omega)]
  unfold turnN
  rw [List.take_of_length_le (by omega)]
  omega
theorem first_pt (xs : List Int) (t : List UInt8) : ptH xs t 0 = (0, 0) := rfl
theorem first_x (xs : List Int) (t : List UInt8) : ptH xs t 1 = (xs.getD 0 0, 0) := by
  show ((0 : Int) + xs.getD 0 0 * dX 0, (0 : Int) + xs.getD 0 0 * dY 0) = _
  simp [dX, dY]
theorem ptH_rot {xs : List Int} {t : List UInt8} (hc : Closed xs t) {j : Nat} (h : j + 1 ≤ xs.length) : ptH (rot1 xs) (rot1 t) j = seen (stH xs t 1).2.2 (subP (ptH xs t (j + 1)) (ptH xs t 1)) := by
  unfold ptH
  rw [stH_rot xs t hc.tl j h]
  rfl
theorem stH_rot_end {xs : List Int} {t : List UInt8} (hc : Closed xs t) : stH (rot1 xs) (rot1 t) xs.length = (0, 0, 0) := by
  obtain ⟨n, hn⟩ : ∃ n, xs.length = n + 1 := ⟨xs.length - 1, by have := hc.pos; omega⟩
  have h1 := stH_rot xs t hc.tl n (by omega)
  have e1 := rot1_end xs 0 n (by omega)
  have e2 := rot1_end t 0 n (by have := hc.tl; omega)
  rw [hn]
  show stepH (stH (rot1 xs) (rot1 t) n) ((rot1 xs).getD n 0) ((rot1 t).getD n 0) = _
  rw [e1, e2, h1]
  have hp := hc.px
  have hq := hc.py
  have hw := hc.way
  rw [hn] at hp hq hw
  have hP : ptH xs t (n + 1) = (0, 0) := by unfold ptH; rw [hp, hq]
  rw [hP, hw, first_x]
  have hs1 : (stH xs t 1).2.2 = if t.getD 0 0 = 76 then 1 else 3 := by
    show (stepH (0, 0, 0) _ _).2.2 = _
    unfold stepH
    dsimp only
    split <;> rfl
  rw [hs1]
  generalize xs.getD 0 0 = s
  generalize t.getD 0 0 = b
  by_cases hb : b = 76
  · simp [hb, stepH, subP, seen, dX, dY] <;> omega
  · simp [hb, stepH, subP, seen, dX, dY] <;> omega
theorem rot1_count (t : List UInt8) : cntL (rot1 t) = cntL t := by
  cases t with
  | nil => rfl
  | cons b r =>
    show List.count 76 (r ++ [b]) = List.count 76 (b :: r)
    rw [List.count_append, List.count_cons, List.count_cons, List.count_nil]; omega
theorem valid_rot {xs : List Int} {t : List UInt8} (h : validH xs t = true) : validH (rot1 xs) (rot1 t) = true := by
  have hc := closed_of h
  have he := stH_rot_end hc
  unfold validH at h ⊢
  rw [rot1_len, rot1_len, rot1_all, rot1_all, rot1_count, he]
  simp only [Bool.and_eq_true, decide_eq_true_eq] at h ⊢
  exact ⟨h.1, h.2.1, h.2.2.1, h.2.2.2.1, h.2.2.2.2.1, trivial, trivial⟩
/-! ### the area -/
def crossP (p q : Int × Int) : Int := p.1 * q.2 - q.1 * p.2
theorem crossP_seen {w : Int} (hw : Way w) (p q : Int × Int) : crossP (seen w p) (seen w q) = crossP p q := by
  rcases hw with h | h | h | h <;> subst h <;> simp [seen, crossP, Int.mul_neg, Int.neg_mul] <;> (try rw [Int.mul_comm p.2 q.1, Int.mul_comm q.2 p.1]) <;> omega
theorem crossP_sub (p q o : Int × Int) : crossP (subP p o) (subP q o) = crossP p q - crossP o q + crossP o p := by
  simp only [crossP, subP, Int.sub_mul, Int.mul_sub]
  rw [Int.mul_comm p.1 o.2, Int.mul_comm q.1 o.2]
  rw [Int.mul_comm o.2 p.1, Int.mul_comm o.2 q.1]
  omega
theorem areaN_rot {xs : List Int} {t : List UInt8} (hc : Closed xs t) : ∀ j, j + 1 ≤ xs.length → areaN (rot1 xs) (rot1 t) j = areaN xs t (j + 1) - crossP (ptH xs t 1) (ptH xs t (j + 1))
  | 0, _ => by
    show (0 : Int) = (0 + (0 * (ptH xs t 1).2 - (ptH xs t 1).1 * 0)) - crossP (ptH xs t 1) (ptH xs t 1)
    simp [crossP]
  | j + 1, h => by
    have ih := areaN_rot hc j (by omega)
    have e1 := ptH_rot hc (j := j) (by omega)
    have e2 := ptH_rot hc (j := j + 1) h
    have hx := crossP_seen (way_bd xs t 1) (subP (ptH xs t (j + 1)) (ptH xs t 1)) (subP (ptH xs t (j + 1 + 1)) (ptH xs t 1))
    rw [← e1, ← e2, crossP_sub] at hx
    show areaN (rot1 xs) (rot1 t) j + crossP (ptH (rot1 xs) (rot1 t) j) (ptH (rot1 xs) (rot1 t) (j + 1)) = areaN xs t (j + 1) + crossP (ptH xs t (j + 1)) (ptH xs t (j + 1 + 1)) - crossP (ptH xs t 1) (ptH xs t (j + 1 + 1))
    rw [ih, hx]
    omega
theorem areaN_rot_all {xs : List Int} {t : List UInt8} (hc : Closed xs t) : areaN (rot1 xs) (rot1 t) xs.length = areaN xs t xs.length := by
  obtain ⟨n, hn⟩ : ∃ n, xs.length = n + 1 := ⟨xs.length - 1, by have := hc.pos; omega⟩
  have h1 := areaN_rot hc n (by omega)
  have he := stH_rot_end hc
  have hp : ptH xs t (n + 1) = (0, 0) := by unfold ptH; rw [← hn, hc.px, hc.py]
  rw [hn] at he ⊢
  show areaN (rot1 xs) (rot1 t) n + ((ptH (rot1 xs) (rot1 t) n).1 * (ptH (rot1 xs) (rot1 t) (n + 1)).2 - (ptH (rot1 xs) (rot1 t) (n + 1)).1 * (ptH (rot1 xs) (rot1 t) n).2) = _
  have hz : ptH (rot1 xs) (rot1 t) (n + 1) = (0, 0) := by unfold ptH; rw [he]
  rw [hz, h1, hp]
  simp [crossP]
theorem area_rot {xs : List Int} {t : List UInt8} (h : validH xs t = true) : areaH (rot1 xs) (rot1 t) (rot1 xs).length = areaH xs t xs.length := by
  unfold areaH
  rw [valid_rot h, h, rot1_len, areaN_rot_all (closed_of h)]
/-! ### sides that meet -/
theorem apB_sub (a b c d o : Int) : apB (a - o) (b - o) (c - o) (d - o) = apB a b c d := by
  unfold apB
  rw [Bool.eq_iff_iff]
  simp only [Bool.or_eq_true, decide_eq_true_eq]
  omega
theorem apB_neg (a b c d : Int) : apB (-a) (-b) (-c) (-d) = apB a b c d := by
  unfold apB
  rw [Bool.eq_iff_iff]
  simp only [Bool.or_eq_true, decide_eq_true_eq]
  omega
theorem apB_swap (a b c d : Int) : apB c d a b = apB a b c d := by
  unfold apB
  rw [Bool.or_comm]
theorem meetB_swap (a b c d : Int × Int) : meetB c d a b = meetB a b c d := by
  unfold meetB
  rw [apB_swap a.1 b.1 c.1 d.1, apB_swap a.2 b.2 c.2 d.2]
theorem meetB_sub (a b c d o : Int × Int) : meetB (subP a o) (subP b o) (subP c o) (subP d o) = meetB a b c d := by
  unfold meetB subP
  dsimp only
  rw [apB_sub, apB_sub]
theorem meetB_seen {w : Int} (hw : Way w) (a b c d : Int × Int) : meetB (seen w a) (seen w b) (seen w c) (seen w d) = meetB a b c d := by
  rcases hw with h | h | h | h <;> subst h <;> simp [seen, meetB, apB_neg, Bool.and_comm]
theorem meet_rot {xs : List Int} {t : List UInt8} (hc : Closed xs t) {i k : Nat} (hi : i + 2 ≤ xs.length) (hk : k + 2 ≤ xs.length) :
    meetB (ptH (rot1 xs) (rot1 t) i) (ptH (rot1 xs) (rot1 t) (i + 1)) (ptH (rot1 xs) (rot1 t) k) (ptH (rot1 xs) (rot1 t) (k + 1)) = meetB (ptH xs t (i + 1)) (ptH xs t (i + 1 + 1)) (ptH xs t (k + 1)) (ptH xs t (k + 1 + 1)) := by
  rw [ptH_rot hc (by omega), ptH_rot hc (by omega), ptH_rot hc (by omega), ptH_rot hc (by omega), meetB_seen (way_bd xs t 1), meetB_sub]
theorem meet_rot_end {xs : List Int} {t : List UInt8} (hc : Closed xs t) {i n : Nat} (hi : i + 2 ≤ xs.length) (hn : n + 1 = xs.length) :
    meetB (ptH (rot1 xs) (rot1 t) i) (ptH (rot1 xs) (rot1 t) (i + 1)) (ptH (rot1 xs) (rot1 t) n) (ptH (rot1 xs) (rot1 t) (n + 1)) = meetB (ptH xs t 0) (ptH xs t 1) (ptH xs t (i + 1)) (ptH xs t (i + 1 + 1)) := by
  have he := stH_rot_end hc
  have hp : ptH xs t (n + 1) = ptH xs t 0 := by unfold ptH; rw [hn, hc.px, hc.py]; rfl
  have hz : ptH (rot1 xs) (rot1 t) (n + 1) = seen (stH xs t 1).2.2 (subP (ptH xs t 1) (ptH xs t 1)) := by
    unfold ptH
    rw [hn, he]
    rcases way_bd xs t 1 with h | h | h | h <;> rw [h] <;> simp [seen, subP]
  rw [hz, ptH_rot hc (by omega), ptH_rot hc (by omega), ptH_rot hc (by omega), meetB_seen (way_bd xs t 1), meetB_sub, meetB_swap, hp]
theorem simple_of {p : Nat → Int × Int} {n : Nat} : simpleP p n = true ↔ ∀ i, i < n → ∀ k, k < n → hitP p n i k = false := by
  constructor
  · intro h i hi k hk
    cases hh : hitP p n i k with
    | false => rfl
    | true => rw [simple_hit hi hk hh] at h; cases h
  · exact simple_none
theorem simple_rot {xs : List Int} {t : List UInt8} (hc : Closed xs t) (h4 : 4 ≤ xs.length) : simpleP (ptH (rot1 xs) (rot1 t)) xs.length = simpleP (ptH xs t) xs.length := by
  rw [Bool.eq_iff_iff, simple_of, simple_of]
  constructor
  · intro h i hi k hk
    by_cases h1 : i + 2 ≤ k
    · by_cases h2 : i = 0 ∧ k + 1 = xs.length
      · exact hit_last h2
      · rw [hit_meet h1 h2]
        by_cases hi0 : i = 0
        · subst hi0
          have hh := h (k - 1) (by omega) (xs.length - 1) (by omega)
          rw [hit_meet (by omega) (by omega), meet_rot_end hc (by omega) (by omega), show k - 1 + 1 = k by omega] at hh
          exact hh
        · have hh := h (i - 1) (by omega) (k - 1) (by omega)
          rw [hit_meet (by omega) (by omega), meet_rot hc (by omega) (by omega), show k - 1 + 1 = k by omega, show i - 1 + 1 = i by omega] at hh
          exact hh
    · exact hit_low h1
  · intro h i hi k hk
    by_cases h1 : i + 2 ≤ k
    · by_cases h2 : i = 0 ∧ k + 1 = xs.length
      · exact hit_last h2
      · rw [hit_meet h1 h2]
        by_cases hke : k + 1 = xs.length
        · rw [meet_rot_end hc (by omega) hke]
          have hh := h 0 (by omega) (i + 1) (by omega)
          rw [hit_meet (by omega) (by omega)] at hh
          exact hh
        · rw [meet_rot hc (by omega) (by omega)]
          have hh := h (i + 1) (by omega) (k + 1) (by omega)
          rw [hit_meet (by omega) (by omega)] at hh
          exact hh
    · exact hit_low h1
theorem simp_rot {xs : List Int} {t : List UInt8} (h : validH xs t = true) : simpH (rot1 xs) (rot1 t) (rot1 xs).length = simpH xs t xs.length := by
  unfold simpH
  rw [valid_rot h, h, rot1_len, simple_rot (closed_of h) (validH_bd h).1]
/-! ### the length -/
theorem sumN_sum (xs : List Int) : sumN xs xs.length = xs.sum := by
  have h : ∀ k, k ≤ xs.length → sumN xs k = (xs.take k).sum := by
    intro k
    induction k with
    | zero => intro _; simp [sumN]
    | succ k ih =>
      intro hk
      rw [List.take_succ_eq_append_getElem (by omega), List.sum_append_int]
      show sumN xs k + xs.getD k 0 = _
      rw [ih (by omega), List.getD_eq_getElem?_getD, List.getElem?_eq_getElem (by omega)]
      simp
  rw [h _ (Nat.le_refl _), List.take_length]
theorem sum_rot (xs : List Int) : sumN (rot1 xs) (rot1 xs).length = sumN xs xs.length := by
  rw [sumN_sum, sumN_sum]
  cases xs with
  | nil => rfl
  | cons x r => simp [rot1, List.sum_append_int, Int.add_comm]
/-- .. and so however far the plan is turned -/
theorem turn_all {xs : List Int} {t : List UInt8} (h : validH xs t = true) : ∀ k, k ≤ xs.length → validH (xs.drop k ++ xs.take k) (t.drop k ++ t.take k) = true ∧
    (xs.drop k ++ xs.take k).length = xs.length ∧
    areaH (xs.drop k ++ xs.take k) (t.drop k ++ t.take k) xs.length = areaH xs t xs.length ∧
    simpH (xs.drop k ++ xs.take k) (t.drop k ++ t.take k) xs.length = simpH xs t xs.length ∧
    sumN (xs.drop k ++ xs.take k) xs.length = sumN xs xs.length
  | 0, _ => by simp [h]
  | k + 1, hk => by
    obtain ⟨h1, h2, h3, h4, h5⟩ := turn_all h k (by omega)
    have ht := (validH_bd h).2.2.2.1
    rw [rot1_turn xs k (by omega), rot1_turn t k (by omega)]
    generalize xs.drop k ++ xs.take k = ys at *
    generalize t.drop k ++ t.take k = u at *
    have a1 := area_rot h1
    have a2 := simp_rot h1
    have a3 := sum_rot ys
    rw [rot1_len, h2] at a1 a2 a3
    refine ⟨valid_rot h1, by rw [rot1_len, h2], by rw [a1, h3], by rw [a2, h4], by rw [a3, h5]⟩
/-! ### the corners -/
theorem side_len {xs : List Int} {t : List UInt8} (h : validH xs t = true) {i : Nat} (hi : i < xs.length) : (max ((ptH xs t (i + 1)).1 - (ptH xs t i).1) (-((ptH xs t (i + 1)).1 - (ptH xs t i).1)) + max ((ptH xs t (i + 1)).2 - (ptH xs t i).2) (-((ptH xs t (i + 1)).2 - (ptH xs t i).2)) = xs.getD i 0) ∧ ((ptH xs t (i + 1)).1 - (ptH xs t i).1 = 0 ∨ (ptH xs t (i + 1)).2 - (ptH xs t i).2 = 0) := by
  have hx := sides_at (validH_bd h).2.2.1 i hi
  have hw := way_bd xs t i
  have e1 : (ptH xs t (i + 1)).1 = (ptH xs t i).1 + xs.getD i 0 * dX (stH xs t i).2.2 := rfl
  have e2 : (ptH xs t (i + 1)).2 = (ptH xs t i).2 + xs.getD i 0 * dY (stH xs t i).2.2 := rfl
  rw [e1, e2]
  generalize xs.getD i 0 = u at *
  generalize (ptH xs t i).1 = a
  generalize (ptH xs t i).2 = b
  rcases hw with h | h | h | h <;> rw [h] <;> simp [dX, dY] <;> omega
end Go.Proofs.YtaokeaiehjgbnaaGreatDoor
