/- The simple sequence behind the end of the bytes: x goes to a x + c. Its last 48 bits run through all their values, so that each one is met in fewer than 2^48 steps. Nothing here speaks of the program. -/
import Init.Omega
namespace Go.Proofs.YtdedamamjkpcpaaGreatDoor
set_option linter.unusedSimpArgs false
set_option linter.unusedVariables false
set_option linter.unnecessarySimpa false

def itF (a c : Nat) : Nat → Nat → Nat
  | 0, x => x
  | n + 1, x => itF a c n (a * x + c)
theorem itF_add (a c m n x : Nat) : itF a c (m + n) x = itF a c n (itF a c m x) := by
  induction m generalizing x with
  | zero => rw [Nat.zero_add]; rfl
  | succ m ih => rw [Nat.succ_add]; exact ih _
/-- 2^k steps -/
theorem itF_pow {a c u v : Nat} (ha : a = 1 + 4 * u) (hc : c = 2 * v + 1) (k : Nat) :
    ∃ p q : Nat, ∀ x, itF a c (2 ^ k) x = (1 + 2 ^ (k + 2) * p) * x + 2 ^ k * (2 * q + 1) := by
  induction k with
  | zero => exact ⟨u, v, fun x => by show a * x + c = _; rw [ha, hc]; simp⟩
  | succ k ih =>
    obtain ⟨p, q, h⟩ := ih
    refine ⟨p + 2 ^ (k + 1) * (p * p), q + 2 ^ k * p * (2 * q + 1), fun x => ?_⟩
    rw [show 2 ^ (k + 1) = 2 ^ k + 2 ^ k by rw [Nat.pow_succ]; omega, itF_add, h, h]
    have e1 : 2 ^ (k + 1 + 2) = 2 * 2 ^ (k + 2) := by rw [show k + 1 + 2 = (k + 2) + 1 by omega, Nat.pow_succ]; omega
    have e2 : 2 ^ (k + 2) = 4 * 2 ^ k := by rw [Nat.pow_add]; omega
    rw [e1, e2]
    generalize 2 ^ k = z
    have e3 : (1 + 4 * z * p) * (1 + 4 * z * p) = 1 + 2 * (4 * z) * (p + (z + z) * (p * p)) := by
      simp only [Nat.add_mul, Nat.mul_add, Nat.one_mul, Nat.mul_one]
      have h1 : 4 * z * p * (4 * z * p) = 2 * (4 * z) * (z * (p * p)) + 2 * (4 * z) * (z * (p * p)) := by
        have : 4 * z * p * (4 * z * p) = 16 * (z * (p * (z * p))) := by
          rw [show 4 * z * p * (4 * z * p) = 4 * (z * p) * (4 * (z * p)) by rw [Nat.mul_assoc 4 z p]]
          rw [Nat.mul_mul_mul_comm, Nat.mul_assoc z p]
        rw [this]
        have h2 : p * (z * p) = z * (p * p) := by rw [Nat.mul_left_comm]
        rw [h2]
        have h3 : 2 * (4 * z) * (z * (p * p)) = 8 * (z * (z * (p * p))) := by rw [← Nat.mul_assoc 2 4, Nat.mul_assoc]
        rw [h3]; omega
      rw [h1]
      have h4 : 2 * (4 * z) * p = 4 * z * p + 4 * z * p := by rw [Nat.mul_assoc, Nat.two_mul]
      rw [h4]; omega
    rw [Nat.mul_add, ← Nat.mul_assoc, e3, Nat.add_assoc]
    congr 1
    have e4 : (1 + 4 * z * p) * (z * (2 * q + 1)) + z * (2 * q + 1) = (z + z) * (2 * (q + z * p * (2 * q + 1)) + 1) := by
      generalize hm : 2 * q + 1 = m
      have h5 : (1 + 4 * z * p) * (z * m) = z * m + 4 * (z * (z * p * m)) := by
        rw [Nat.add_mul, Nat.one_mul]
        congr 1
        rw [Nat.mul_assoc 4, Nat.mul_assoc 4, Nat.mul_assoc z p, Nat.mul_left_comm p z m, Nat.mul_assoc z p m]
      have h6 : 2 * (q + z * p * m) + 1 = m + 2 * (z * p * m) := by omega
      rw [h5, h6, Nat.add_mul, Nat.mul_add z m]
      have h7 : z * (2 * (z * p * m)) = 2 * (z * (z * p * m)) := by rw [Nat.mul_left_comm]
      rw [h7]; omega
    exact e4
/-- Each value of the last k bits is met, from wherever one sets out, in fewer than 2^k steps. -/
theorem itF_reach {a c u v : Nat} (ha : a = 1 + 4 * u) (hc : c = 2 * v + 1) (k x t : Nat) : ∃ j, j < 2 ^ k ∧ itF a c j x % 2 ^ k = t % 2 ^ k := by
  induction k with
  | zero => exact ⟨0, by decide, by rw [Nat.pow_zero, Nat.mod_one, Nat.mod_one]⟩
  | succ k ih =>
    obtain ⟨j, hj, hm⟩ := ih
    have hpos : 0 < 2 ^ k := Nat.pos_of_ne_zero (by simp)
    have e0 : 2 ^ (k + 1) = 2 ^ k * 2 := Nat.pow_succ 2 k
    by_cases h : itF a c j x % 2 ^ (k + 1) = t % 2 ^ (k + 1)
    · exact ⟨j, by omega, h⟩
    · refine ⟨j + 2 ^ k, by omega, ?_⟩
      obtain ⟨p, q, hp⟩ := itF_pow ha hc k
      rw [itF_add, hp]
      generalize itF a c j x = y at *
      have e2 : 2 ^ (k + 2) = 2 ^ k * 4 := by rw [Nat.pow_add]
      rw [e2, e0] at *
      generalize 2 ^ k = z at *
      -- y and t agree modulo z, and not modulo 2 z
      have hz : (1 + z * 4 * p) * y + z * (2 * q + 1) = y + z + (z * 2) * (2 * p * y + q) := by
        have h1 : (1 + z * 4 * p) * y = y + z * 2 * (2 * p * y) := by
          rw [Nat.add_mul, Nat.one_mul]
          congr 1
          rw [Nat.mul_assoc, Nat.mul_assoc, Nat.mul_assoc z 2, Nat.mul_assoc 2 p y, ← Nat.mul_assoc 2 2]
        have h2 : z * (2 * q + 1) = z + z * 2 * q := by rw [Nat.mul_add, Nat.mul_one, Nat.mul_assoc]; omega
        rw [h1, h2, Nat.mul_add]; omega
      rw [hz, Nat.add_mul_mod_self_left]
      rw [Nat.mod_mul, Nat.mod_mul] at h
      rw [Nat.mod_mul, Nat.mod_mul, Nat.add_mod_right, hm]
      rw [hm] at h
      have h3 : y / z % 2 ≠ t / z % 2 := fun e => h (by rw [e])
      have h4 : (y + z) / z % 2 = t / z % 2 := by
        rw [Nat.add_div_right _ hpos]
        have := Nat.mod_lt (y / z) (show 0 < 2 by decide)
        have := Nat.mod_lt (t / z) (show 0 < 2 by decide)
        omega
      rw [h4]
end Go.Proofs.YtdedamamjkpcpaaGreatDoor
