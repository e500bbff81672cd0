/- The arithmetic of storey rods: marks, and which of them is nearest to a level. No program in sight. -/
import Init.Omega
namespace Go.Proofs.Ytnhmcmohnpbcjaa

def inB (n low high : Int) : Bool := decide (low ≤ n) && decide (n ≤ high)
theorem inB_iff {n low high : Int} : inB n low high = true ↔ low ≤ n ∧ n ≤ high := by simp [inB]

def absI (n : Int) : Int := if n < 0 then -n else n
theorem absI_of_nonneg {n : Int} (h : 0 ≤ n) : absI n = n := by unfold absI; split <;> omega
def dist (a b : Int) : Int := if a < b then b - a else a - b
theorem dist_nonneg (a b : Int) : 0 ≤ dist a b := by unfold dist; split <;> omega
theorem dist_abs (a b : Int) : absI (a - b) = dist a b := by unfold dist absI; split <;> split <;> omega

/-- the mark k of a storey -/
def mark (h c k : Int) : Int := (2 * (k * h) + c) / (2 * c)

theorem mark_arg (h k : Int) (h1 : 0 ≤ h) (h2 : h ≤ 6000) (k1 : 0 ≤ k) (k2 : k ≤ 40) : 0 ≤ k * h ∧ k * h ≤ 240000 := by
  constructor
  · exact Int.mul_nonneg k1 h1
  · have a : k * h ≤ 40 * h := Int.mul_le_mul_of_nonneg_right k2 h1
    omega

theorem mark_bd (h c k : Int) (h1 : 0 ≤ h) (h2 : h ≤ 6000) (c1 : 1 ≤ c) (c2 : c ≤ 40) (k1 : 0 ≤ k) (k2 : k ≤ 40) : 0 ≤ mark h c k ∧ mark h c k ≤ 480040 := by
  have ⟨a, b⟩ := mark_arg h k h1 h2 k1 k2
  unfold mark
  constructor
  · exact Int.ediv_nonneg (by omega) (by omega)
  · have := Int.ediv_le_self (a := 2 * (k * h) + c) (2 * c) (by omega)
    omega

/-- The nearest of the marks 0 .. n, the least of them where two are nearest. -/
def near (h c l : Int) : Nat → Int
  | 0 => 0
  | n + 1 => if dist (mark h c ((n : Int) + 1)) l < dist (mark h c (near h c l n)) l then (n : Int) + 1 else near h c l n

theorem near_bd (h c l : Int) (n : Nat) : 0 ≤ near h c l n ∧ near h c l n ≤ n := by
  induction n with
  | zero => simp [near]
  | succ n ih => unfold near; split <;> omega

def gcode (h c : Int) : Bool := inB h 100 6000 && inB c 1 40

/-- the greatest common divisor, as a number -/
def gcdI (a b : Int) : Int := (Nat.gcd a.toNat b.toNat : Nat)
theorem gcdI_pos (a b : Int) (hb : 1 ≤ b) : 1 ≤ gcdI a b := by
  have := Nat.gcd_pos_of_pos_right a.toNat (show 0 < b.toNat by omega)
  unfold gcdI; omega
theorem gcdI_le (a b : Int) (hb : 1 ≤ b) : gcdI a b ≤ b := by
  have := Nat.gcd_le_right (m := a.toNat) (n := b.toNat) (by omega)
  unfold gcdI; omega
end Go.Proofs.Ytnhmcmohnpbcjaa
