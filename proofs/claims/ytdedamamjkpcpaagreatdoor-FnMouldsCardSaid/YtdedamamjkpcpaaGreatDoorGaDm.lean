/- A group of texts, one behind the other: DecM, RunM. -/
import Derived.Lib.ItoaNum
import Derived.Lib.ItoaMem
import Derived.Lib.ItoaLen
import Derived.Lib.ParseIntBTie
import Derived.Lib.ParseIntBCases
import Derived.Lib.Join
/- Numbers in decimal, and back: plain laws. Nothing here speaks of the program. -/
namespace Go.Proofs.YtdedamamjkpcpaaGreatDoor
open Go.Lib
set_option linter.unusedSimpArgs false
set_option linter.unusedVariables false
set_option linter.unnecessarySimpa false

/-- the digits of a number, none for 0 -/
def decP (u : Nat) : List UInt8 := if u = 0 then [] else decDigits u
theorem decP_step {u : Nat} (h : 0 < u) : decP u = decP (u / 10) ++ [UInt8.ofNat (48 + u % 10)] := by
  unfold decP
  rw [if_neg (by omega)]
  by_cases h10 : u < 10
  · rw [if_pos (by omega), decDigits_one h10, Nat.mod_eq_of_lt h10]; rfl
  · rw [if_neg (by omega)]
    conv => lhs; rw [decDigits, dif_neg h10]
theorem decP_pos {u : Nat} (h : 0 < u) : decP u = decDigits u := by unfold decP; rw [if_neg (by omega)]
theorem decP_ne {u : Nat} (h : 0 < u) : decP u ≠ [] := by rw [decP_step h]; simp
theorem decP_len {u : Nat} (h : u < 18446744073709551616) : (decP u).length ≤ 20 := by
  unfold decP
  split
  · simp
  · rw [decDigits_length]; exact nDigits_le20 u h
theorem itoa_natP (u : Nat) : itoa (u : Int) = if u = 0 then [48] else decP u := by
  rw [itoa_nonneg]
  by_cases h : u = 0
  · subst h; rw [if_pos rfl, decDigits_one (by decide)]; rfl
  · rw [if_neg h, decP_pos (by omega)]
theorem itoa_negP {u : Nat} (h : 1 ≤ u) : itoa (-(u : Int)) = 45 :: decP u := by rw [itoa_neg u h, decP_pos (by omega)]
/-! ### digits, and what they spell -/
def isDg (b : UInt8) : Bool := decide (48 ≤ b.toNat) && decide (b.toNat ≤ 57)
theorem isDg_iff {b : UInt8} : isDg b = true ↔ 48 ≤ b.toNat ∧ b.toNat ≤ 57 := by unfold isDg; simp
def dvalF (acc : Nat) : List UInt8 → Nat
  | [] => acc
  | c :: r => dvalF (acc * 10 + (c.toNat - 48)) r
theorem dvalF_snoc (l : List UInt8) (c : UInt8) : ∀ acc, dvalF acc (l ++ [c]) = dvalF acc l * 10 + (c.toNat - 48) := by
  induction l with
  | nil => intro acc; rfl
  | cons b l ih => intro acc; exact ih _
theorem dvalF_lt (l : List UInt8) (h : l.all isDg = true) : ∀ acc k, acc < 10 ^ k → dvalF acc l < 10 ^ (k + l.length) := by
  induction l with
  | nil => intro acc k ha; exact ha
  | cons b l ih =>
    intro acc k ha
    simp only [List.all_cons, Bool.and_eq_true] at h
    have hb := isDg_iff.1 h.1
    have := ih h.2 (acc * 10 + (b.toNat - 48)) (k + 1) (by rw [Nat.pow_succ]; omega)
    rw [List.length_cons]
    rwa [show k + (l.length + 1) = k + 1 + l.length by omega]
theorem decDigits_all (u : Nat) : (decDigits u).all isDg = true ∧ dvalF 0 (decDigits u) = u := by
  induction u using Nat.strongRecOn with
  | ind u ih =>
    by_cases h : u < 10
    · rw [decDigits_one h]
      have e : (UInt8.ofNat (48 + u)).toNat = 48 + u := by rw [UInt8.toNat_ofNat']; omega
      refine ⟨?_, ?_⟩
      · simp only [List.all_cons, List.all_nil, Bool.and_true]
        rw [isDg_iff, e]; omega
      · show 0 * 10 + ((UInt8.ofNat (48 + u)).toNat - 48) = u
        rw [e]; omega
    · obtain ⟨i1, i2⟩ := ih (u / 10) (by omega)
      have e : (UInt8.ofNat (48 + u % 10)).toNat = 48 + u % 10 := by rw [UInt8.toNat_ofNat']; omega
      rw [decDigits, dif_neg h]
      refine ⟨?_, ?_⟩
      · rw [List.all_append, i1]
        simp only [List.all_cons, List.all_nil, Bool.and_true, Bool.true_and]
        rw [isDg_iff, e]; omega
      · rw [dvalF_snoc, i2, e]; omega
/-! ### parsing, as Go's library does -/
theorem parseM_digits (M : Nat) (hM : 10 ^ 18 ≤ M) (l : List UInt8) (h : l.all isDg = true) : ∀ acc k, acc < 10 ^ k → k + l.length ≤ 18 → parseUintM M acc l = .ok (dvalF acc l) := by
  induction l with
  | nil => intro acc k _ _; rfl
  | cons b l ih =>
    intro acc k ha hk
    simp only [List.all_cons, Bool.and_eq_true] at h
    have hb := isDg_iff.1 h.1
    rw [List.length_cons] at hk
    have hp : 10 ^ (k + 1) ≤ 10 ^ 18 := Nat.pow_le_pow_right (by decide) (by omega)
    have hs : 10 ^ (k + 1) = 10 ^ k * 10 := Nat.pow_succ ..
    have h18 : (10 : Nat) ^ 18 = 1000000000000000000 := by decide
    unfold parseUintM
    rw [if_pos hb, if_neg (by omega), if_neg (by omega)]
    exact ih h.2 _ (k + 1) (by omega) (by omega)
theorem parseM_bad (M : Nat) (hM : 10 ^ 18 ≤ M) (l : List UInt8) (h : l.all isDg = false) : ∀ acc k, acc < 10 ^ k → k + l.length ≤ 18 → parseUintM M acc l = parseUintB 64 [] := by
  induction l with
  | nil => cases h
  | cons b l ih =>
    intro acc k ha hk
    rw [List.length_cons] at hk
    unfold parseUintM
    by_cases hb : 48 ≤ b.toNat ∧ b.toNat ≤ 57
    · have h2 : l.all isDg = false := by rw [List.all_cons, isDg_iff.2 hb, Bool.true_and] at h; exact h
      have hp : 10 ^ (k + 1) ≤ 10 ^ 18 := Nat.pow_le_pow_right (by decide) (by omega)
      have hs : 10 ^ (k + 1) = 10 ^ k * 10 := Nat.pow_succ ..
      have h18 : (10 : Nat) ^ 18 = 1000000000000000000 := by decide
      rw [if_pos hb, if_neg (by omega), if_neg (by omega)]
      exact ih h2 _ (k + 1) (by omega) (by omega)
    · exact (if_neg hb).trans rfl
/-- what stands behind a '-' -/
def magL (s : List UInt8) : List UInt8 := match s with
  | c :: r => if c.toNat = 45 then r else c :: r
  | [] => []
theorem magL_len (s : List UInt8) : (magL s).length ≤ s.length ∧ s.length ≤ (magL s).length + 1 := by
  unfold magL
  split
  · split <;> simp
  · simp
/-- the number that a text spells, with its digits less than 19; none if its decimal form is another text -/
def rdV (s : List UInt8) : Int := if (magL s).length < s.length then -(dvalF 0 (magL s) : Int) else (dvalF 0 (magL s) : Int)
def rdB (s : List UInt8) : Bool := decide (1 ≤ (magL s).length) && (decide ((magL s).length ≤ 18) && ((magL s).all isDg && decide (itoa (rdV s) = s)))
theorem rdB_iff {s : List UInt8} : rdB s = true ↔ 1 ≤ (magL s).length ∧ (magL s).length ≤ 18 ∧ (magL s).all isDg = true ∧ itoa (rdV s) = s := by unfold rdB; simp
theorem rdV_bd {s : List UInt8} (h1 : (magL s).length ≤ 18) (h2 : (magL s).all isDg = true) : -1000000000000000000 < rdV s ∧ rdV s < 1000000000000000000 := by
  have h := dvalF_lt (magL s) h2 0 0 (by decide)
  have hp : 10 ^ (0 + (magL s).length) ≤ 10 ^ 18 := Nat.pow_le_pow_right (by decide) (by omega)
  have h18 : (10 : Nat) ^ 18 = 1000000000000000000 := by decide
  unfold rdV
  split <;> omega
theorem pI_minus (c : UInt8) (r : List UInt8) (h : c.toNat = 45) : parseIntB 64 (c :: r) = signedC (2 ^ (64 - 1)) (parseUintB 64 r) := by
  have e : c = 45 := UInt8.toNat_inj.1 h
  subst e
  exact parseIntB_minus 64 r
theorem pI_other (c : UInt8) (r : List UInt8) (h : c.toNat ≠ 45) : parseIntB 64 (c :: r) = signlessC (2 ^ (64 - 1)) (parseUintB 64 (if c.toNat = 43 then r else c :: r)) := by
  by_cases h43 : c.toNat = 43
  · rw [if_pos h43]
    have e : c = 43 := UInt8.toNat_inj.1 h43
    subst e
    exact parseIntB_plus 64 r
  · rw [if_neg h43]
    exact parseIntB_plain 64 c r h43 h
theorem pU_ne {l : List UInt8} (h : l ≠ []) : parseUintB 64 l = parseUintM (2 ^ 64 - 1) 0 l := by unfold parseUintB; rw [if_neg h]
/-- how the library's parse of a text with at most 18 digits ends -/
theorem parse_short {s : List UInt8} (h : (magL s).length ≤ 18) : (parseIntB 64 s = .ok (rdV s) ∧ 1 ≤ (magL s).length ∧ (magL s).all isDg = true) ∨ (parseIntB 64 s = parseIntB 64 [] ∧ ¬ (1 ≤ (magL s).length ∧ (magL s).all isDg = true)) ∨ (∃ v, parseIntB 64 s = .ok v ∧ itoa v ≠ s ∧ ¬ (magL s).all isDg = true) := by
  have hM : 10 ^ 18 ≤ 2 ^ 64 - 1 := by decide
  have h18 : (10 : Nat) ^ 18 = 1000000000000000000 := by decide
  have h63 : (2 : Nat) ^ (64 - 1) = 9223372036854775808 := by decide
  match s, h with
  | [], _ => exact .inr (.inl ⟨rfl, by simp [magL]⟩)
  | c :: r, h =>
    by_cases h45 : c.toNat = 45
    · have hm : magL (c :: r) = r := by simp [magL, h45]
      rw [hm] at h ⊢
      cases r with
      | nil => exact .inr (.inl ⟨by rw [pI_minus c [] h45]; rfl, by simp⟩)
      | cons b r =>
        cases hd : (b :: r).all isDg with
        | true =>
          have hv := dvalF_lt (b :: r) hd 0 0 (by decide)
          have hp : 10 ^ (0 + (b :: r).length) ≤ 10 ^ 18 := Nat.pow_le_pow_right (by decide) (by omega)
          have hpm := parseM_digits (2 ^ 64 - 1) hM (b :: r) hd 0 0 (by decide) (by omega)
          refine .inl ⟨?_, by simp, rfl⟩
          rw [pI_minus c _ h45, pU_ne (by simp), hpm]
          unfold signedC
          dsimp only
          rw [if_neg (by rw [h63]; omega)]
          unfold rdV
          rw [hm, if_pos (by simp)]
        | false =>
          have hpm := parseM_bad (2 ^ 64 - 1) hM (b :: r) hd 0 0 (by decide) (by omega)
          refine .inr (.inl ⟨?_, by simp⟩)
          rw [pI_minus c _ h45, pU_ne (by simp), hpm]
          rfl
    · have hm : magL (c :: r) = c :: r := by simp [magL, h45]
      rw [hm] at h ⊢
      by_cases h43 : c.toNat = 43
      · have hnd : ¬ (c :: r).all isDg = true := by
          intro hh
          simp only [List.all_cons, Bool.and_eq_true] at hh
          have := isDg_iff.1 hh.1; omega
        rcases hq : parseIntB 64 (c :: r) with v | _ | _
        · refine .inr (.inr ⟨v, rfl, ?_, hnd⟩)
          intro e
          rcases Int.lt_or_le v 0 with hv | hv
          · have : itoa v = 45 :: decDigits v.natAbs := by unfold itoa; rw [if_pos hv]
            rw [this] at e
            have e2 := (List.cons.inj e).1
            rw [← e2] at h43
            exact absurd h43 (by decide)
          · have : itoa v = decDigits v.toNat := by unfold itoa; rw [if_neg (by omega)]
            rw [this] at e
            exact hnd (by rw [← e]; exact (decDigits_all _).1)
        · exact .inr (.inl ⟨rfl, fun hh => hnd hh.2⟩)
        · exfalso
          rw [pI_other c _ h45, if_pos h43] at hq
          rw [List.length_cons] at h
          cases hr : r.all isDg with
          | true =>
            cases r with
            | nil => cases hq
            | cons b r =>
              have hv := dvalF_lt (b :: r) hr 0 0 (by decide)
              have hp : 10 ^ (0 + (b :: r).length) ≤ 10 ^ 18 := Nat.pow_le_pow_right (by decide) (by omega)
              rw [pU_ne (by simp), parseM_digits (2 ^ 64 - 1) hM (b :: r) hr 0 0 (by decide) (by omega)] at hq
              unfold signlessC at hq
              dsimp only at hq
              rw [if_neg (by rw [h63]; omega)] at hq
              cases hq
          | false =>
            cases r with
            | nil => cases hr
            | cons b r =>
              rw [pU_ne (by simp), parseM_bad (2 ^ 64 - 1) hM (b :: r) hr 0 0 (by decide) (by omega)] at hq
              cases hq
      · cases hd : (c :: r).all isDg with
        | true =>
          have hv := dvalF_lt (c :: r) hd 0 0 (by decide)
          have hp : 10 ^ (0 + (c :: r).length) ≤ 10 ^ 18 := Nat.pow_le_pow_right (by decide) (by omega)
          have hpm := parseM_digits (2 ^ 64 - 1) hM (c :: r) hd 0 0 (by decide) (by omega)
          refine .inl ⟨?_, by simp, rfl⟩
          rw [pI_other c _ h45, if_neg h43, pU_ne (by simp), hpm]
          unfold signlessC
          dsimp only
          rw [if_neg (by rw [h63]; omega)]
          unfold rdV
          rw [hm, if_neg (by omega)]
        | false =>
          have hpm := parseM_bad (2 ^ 64 - 1) hM (c :: r) hd 0 0 (by decide) (by omega)
          refine .inr (.inl ⟨?_, by simp⟩)
          rw [pI_other c _ h45, if_neg h43, pU_ne (by simp), hpm]
          rfl
/-- a number's text is read back -/
theorem rd_itoa {n : Int} (h1 : -1000000000000000000 < n) (h2 : n < 1000000000000000000) : rdB (itoa n) = true ∧ rdV (itoa n) = n := by
  have hlen : ∀ u : Nat, u < 1000000000000000000 → (decDigits u).length ≤ 18 ∧ 1 ≤ (decDigits u).length := fun u hu => by
    rw [decDigits_length]
    refine ⟨?_, nDigits_pos u⟩
    rcases Nat.lt_or_ge (nDigits u) 19 with h | h
    · omega
    · exfalso
      have h3 : ∀ v : Nat, 19 ≤ nDigits v → 10 ^ 18 ≤ v := by
        have h4 : ∀ k v : Nat, k + 1 ≤ nDigits v → 10 ^ k ≤ v ∨ k = 0 := by
          intro k
          induction k with
          | zero => intro v _; exact .inr rfl
          | succ k ih =>
            intro v hv
            left
            by_cases hb : v < 10
            · rw [nDigits_small hb] at hv; omega
            · rw [nDigits_big hb] at hv
              rcases ih (v / 10) (by omega) with h5 | h5
              · rw [Nat.pow_succ]; omega
              · subst h5; omega
        intro v hv
        rcases h4 18 v (by omega) with h5 | h5
        · exact h5
        · omega
      have := h3 u h
      have h18 : (10 : Nat) ^ 18 = 1000000000000000000 := by decide
      omega
  rcases Int.lt_or_le n 0 with hn | hn
  · obtain ⟨u, rfl, hu⟩ : ∃ u : Nat, n = -(u : Int) ∧ 1 ≤ u := ⟨n.natAbs, by omega, by omega⟩
    have e : itoa (-(u : Int)) = 45 :: decDigits u := itoa_neg u hu
    obtain ⟨d1, d2⟩ := decDigits_all u
    obtain ⟨l1, l2⟩ := hlen u (by omega)
    have hm : magL (45 :: decDigits u) = decDigits u := by simp [magL]
    have hv : rdV (45 :: decDigits u) = -(u : Int) := by unfold rdV; rw [hm, if_pos (by simp), d2]
    rw [e]
    exact ⟨rdB_iff.2 (by rw [hm, hv, e]; exact ⟨l2, l1, d1, rfl⟩), hv⟩
  · obtain ⟨u, rfl⟩ := Int.eq_ofNat_of_zero_le hn
    have e : itoa (u : Int) = decDigits u := itoa_nonneg u
    obtain ⟨d1, d2⟩ := decDigits_all u
    obtain ⟨l1, l2⟩ := hlen u (by omega)
    have hm : magL (decDigits u) = decDigits u := by
      cases hd : decDigits u with
      | nil => rfl
      | cons b r =>
        rw [hd] at d1
        simp only [List.all_cons, Bool.and_eq_true] at d1
        have := isDg_iff.1 d1.1
        simp only [magL]
        rw [if_neg (by omega)]
    have hv : rdV (decDigits u) = (u : Int) := by unfold rdV; rw [hm, if_neg (by omega), d2]
    rw [e]
    exact ⟨rdB_iff.2 (by rw [hm, hv, e]; exact ⟨l2, l1, d1, rfl⟩), hv⟩
end Go.Proofs.YtdedamamjkpcpaaGreatDoor

/- The runs of equal letters of a text, and their short text: plain laws. Nothing here speaks of the program. -/
namespace Go.Proofs.YtdedamamjkpcpaaGreatDoor
open Go.Lib
set_option linter.unusedSimpArgs false
set_option linter.unusedVariables false
set_option linter.unnecessarySimpa false

/-- how many of a letter stand at the head -/
def runN (c : UInt8) : List UInt8 → Nat
  | [] => 0
  | x :: r => if x = c then runN c r + 1 else 0
/-- the words of the runs, each its length and its letter -/
def runsF : Nat → List UInt8 → List (List UInt8)
  | 0, _ => []
  | _ + 1, [] => []
  | f + 1, c :: r => (itoa ((runN c r + 1 : Nat) : Int) ++ [c]) :: runsF f (r.drop (runN c r))
def runs (l : List UInt8) : List (List UInt8) := runsF l.length l
theorem runsF_any : ∀ (f : Nat) (l : List UInt8) (g : Nat), l.length ≤ f → l.length ≤ g → runsF f l = runsF g l
  | f, [], g, _, _ => by cases f <;> cases g <;> rfl
  | 0, c :: r, g, h, _ => by simp at h
  | f + 1, c :: r, 0, _, h => by simp at h
  | f + 1, c :: r, g + 1, h1, h2 => by
    simp only [List.length_cons] at h1 h2
    unfold runsF
    rw [runsF_any f (r.drop (runN c r)) g (by rw [List.length_drop]; omega) (by rw [List.length_drop]; omega)]
theorem runs_nil : runs [] = [] := rfl
theorem runs_cons (c : UInt8) (r : List UInt8) : runs (c :: r) = (itoa ((runN c r + 1 : Nat) : Int) ++ [c]) :: runs (r.drop (runN c r)) := by
  unfold runs
  rw [List.length_cons]
  conv => lhs; unfold runsF
  rw [runsF_any r.length (r.drop (runN c r)) (r.drop (runN c r)).length (by rw [List.length_drop]; omega) (Nat.le_refl _)]
theorem runN_rep (c : UInt8) (r : List UInt8) (h : r.head? ≠ some c) : ∀ m, runN c (List.replicate m c ++ r) = m
  | 0 => by
    rw [List.replicate_zero, List.nil_append]
    cases r with
    | nil => rfl
    | cons x r =>
      unfold runN
      rw [if_neg (fun e => h (by rw [e]; rfl))]
  | m + 1 => by
    rw [List.replicate_succ, List.cons_append]
    unfold runN
    rw [if_pos rfl, runN_rep c r h m]
theorem runs_rep (c : UInt8) (r : List UInt8) (h : r.head? ≠ some c) (m : Nat) : runs (List.replicate (m + 1) c ++ r) = (itoa ((m + 1 : Nat) : Int) ++ [c]) :: runs r := by
  rw [List.replicate_succ, List.cons_append, runs_cons, runN_rep c r h m, List.drop_left' (by rw [List.length_replicate])]
/-- a joined row of short words is short -/
theorem join_len (sep : List UInt8) (K : Nat) : ∀ ws : List (List UInt8), (∀ x ∈ ws, x.length ≤ K) → (join ws sep).length ≤ ws.length * (K + sep.length)
  | [], _ => by simp [join]
  | [x], h => by
    have := h x (by simp)
    simp [join]
    omega
  | x :: y :: r, h => by
    have h1 := h x (by simp)
    have ih := join_len sep K (y :: r) (fun z hz => h z (List.mem_cons_of_mem _ hz))
    unfold join at ih ⊢
    rw [List.intercalate_cons_cons, List.length_append, List.length_append]
    rw [List.length_cons (a := x), Nat.succ_mul]
    omega
theorem join_snoc (sep x : List UInt8) : ∀ ws : List (List UInt8), ws ≠ [] → join (ws ++ [x]) sep = join ws sep ++ (sep ++ x)
  | [], h => absurd rfl h
  | [a], _ => by simp [join, List.intercalate_cons_cons]
  | a :: b :: r, _ => by
    have ih := join_snoc sep x (b :: r) (by simp)
    unfold join at ih ⊢
    rw [List.cons_append] at ih
    rw [List.cons_append, List.cons_append, List.intercalate_cons_cons, List.intercalate_cons_cons, ih]
    simp
theorem join_one (sep x : List UInt8) : join [x] sep = x := by simp [join]
end Go.Proofs.YtdedamamjkpcpaaGreatDoor
