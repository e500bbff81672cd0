/- The size of a brick of a mould after it has been fired, and the least mould for a size: plain laws. Nothing here speaks of the program. -/
import Init.Omega
namespace Go.Proofs.YtdedamamjkpcpaaGreatDoor
set_option linter.unusedSimpArgs false
set_option linter.unusedVariables false
set_option linter.unnecessarySimpa false

def fireI (n s : Int) : Int := (2 * n * (1000 - s) + 1000) / 2000
theorem fire_bd {n s : Int} (h0 : 0 ≤ n) (s0 : 0 ≤ s) (s1 : s ≤ 1000) : 0 ≤ fireI n s ∧ fireI n s ≤ n := by
  have h1 : 0 ≤ n * (1000 - s) := Int.mul_nonneg h0 (by omega)
  have h2 : n * (1000 - s) ≤ n * 1000 := Int.mul_le_mul_of_nonneg_left (by omega) h0
  unfold fireI
  rw [Int.mul_assoc]
  omega
theorem fire_mono {a b s : Int} (h : a ≤ b) (s1 : s ≤ 1000) : fireI a s ≤ fireI b s := by
  have h1 : a * (1000 - s) ≤ b * (1000 - s) := Int.mul_le_mul_of_nonneg_right h (by omega)
  unfold fireI
  rw [Int.mul_assoc, Int.mul_assoc]
  omega
theorem fire_top {n s : Int} (h : n ≤ 500) (s0 : 0 ≤ s) (s1 : s ≤ 200) : n ≤ fireI 800 s := by
  unfold fireI
  omega
/-- L is the least size whose fired size is not less than n -/
def Lst (n s L : Int) : Prop := n ≤ L ∧ L ≤ 800 ∧ n ≤ fireI L s ∧ ∀ x, 0 ≤ x → x < L → fireI x s < n
theorem Lst.uniq {n s L M : Int} (h1 : Lst n s L) (h2 : Lst n s M) (hn : 0 ≤ n) : L = M := by
  obtain ⟨a1, a2, a3, a4⟩ := h1
  obtain ⟨b1, b2, b3, b4⟩ := h2
  rcases Int.lt_trichotomy L M with h | h | h
  · have := b4 L (by omega) h; omega
  · exact h
  · have := a4 M (by omega) h; omega
/-- below n no size is large enough -/
theorem fire_low {n s x : Int} (x0 : 0 ≤ x) (h : x < n) (s0 : 0 ≤ s) (s1 : s ≤ 1000) : fireI x s < n := by
  have := (fire_bd x0 s0 s1).2
  omega
theorem Lst.of {n s L : Int} (hn : 0 ≤ n) (s0 : 0 ≤ s) (s1 : s ≤ 1000) (h1 : n ≤ fireI L s) (h0 : 0 ≤ L) (h2 : L ≤ 800) (h3 : ∀ x, 0 ≤ x → x < L → fireI x s < n) : Lst n s L :=
  ⟨by have := (fire_bd h0 s0 s1).2; omega, h2, h1, h3⟩
end Go.Proofs.YtdedamamjkpcpaaGreatDoor
