/- Courses as lists of bytes: quarters, pieces, sums. No program in sight. -/
import Derived.Lib.Bytealg
import Derived.Test.YtnhmcmohnpbcjaaGaugeMath
namespace Go.Proofs.Ytnhmcmohnpbcjaa

/-- the quarters of a piece, 0 if it is none -/
def qI (n : Int) : Int := if n = 83 then 4 else if n = 84 then 3 else if n = 72 ∨ n = 66 then 2 else if n = 67 then 1 else 0
def qB (b : UInt8) : Int := qI b.toNat
def isPc (b : UInt8) : Bool := decide (qB b ≠ 0)
def cutI (n : Int) : Bool := decide (n = 84 ∨ n = 66 ∨ n = 67)
def cutB (b : UInt8) : Bool := cutI b.toNat
theorem qI_bd (n : Int) : 0 ≤ qI n ∧ qI n ≤ 4 := by unfold qI; split <;> (try split) <;> (try split) <;> (try split) <;> omega
theorem qB_bd (b : UInt8) : 0 ≤ qB b ∧ qB b ≤ 4 := qI_bd _

def qSum (l : List UInt8) : Int := (l.map qB).sum
theorem qSum_nil : qSum [] = 0 := rfl
theorem qSum_cons (b : UInt8) (l : List UInt8) : qSum (b :: l) = qB b + qSum l := by simp [qSum]
theorem qSum_append (l m : List UInt8) : qSum (l ++ m) = qSum l + qSum m := by simp [qSum]
theorem qSum_snoc (l : List UInt8) (b : UInt8) : qSum (l ++ [b]) = qSum l + qB b := by rw [qSum_append, qSum_cons, qSum_nil, Int.add_zero]
theorem qSum_bd (l : List UInt8) : 0 ≤ qSum l ∧ qSum l ≤ 4 * l.length := by
  induction l with
  | nil => simp [qSum]
  | cons b l ih => have := qB_bd b; rw [qSum_cons, List.length_cons]; omega
/-- how many of the pieces are cut -/
def cutN (l : List UInt8) : Int := (l.countP cutB : Nat)
theorem cutN_snoc (l : List UInt8) (b : UInt8) : cutN (l ++ [b]) = cutN l + (if cutB b then 1 else 0) := by
  unfold cutN
  rw [List.countP_append, List.countP_singleton]
  split <;> simp
theorem cutN_bd (l : List UInt8) : 0 ≤ cutN l ∧ cutN l ≤ l.length := by
  have := List.countP_le_length (p := cutB) (l := l)
  unfold cutN; omega
/-- a text is a course -/
def validC (l : List UInt8) : Bool := inB l.length 1 60 && l.all isPc && decide (qSum l ≤ 200)
theorem validC_bd {l : List UInt8} (h : validC l = true) : 1 ≤ l.length ∧ l.length ≤ 60 ∧ l.all isPc = true ∧ qSum l ≤ 200 := by
  simp only [validC, Bool.and_eq_true, decide_eq_true_eq] at h
  have := inB_iff.1 h.1.1
  exact ⟨by omega, by omega, h.1.2, h.2⟩
def inL (m : List UInt8) (b : UInt8) : Bool := decide (0 ≤ Lib.indexByte m b)
theorem forall_u8 {p : UInt8 → Bool} (h : (List.range 256).all (fun n => p (UInt8.ofNat n)) = true) (b : UInt8) : p b = true := by
  have h1 := List.all_eq_true.1 h b.toNat (List.mem_range.2 b.toNat_lt)
  rwa [UInt8.ofNat_toNat] at h1
theorem inL_pieces (b : UInt8) : inL [83, 72, 84, 66, 67] b = isPc b := by
  have h := forall_u8 (p := fun b => inL [83, 72, 84, 66, 67] b == isPc b) (by decide +kernel) b
  exact eq_of_beq h
theorem all_take_succ {l : List UInt8} {p : UInt8 → Bool} {k : Nat} (hk : k < l.length) : (l.take (k + 1)).all p = ((l.take k).all p && p l[k]) := by
  rw [List.take_succ_eq_append_getElem hk, List.all_append]; simp
theorem all_false_of {l : List UInt8} {p : UInt8 → Bool} {k : Nat} (hk : k < l.length) (h : p l[k] = false) : l.all p = false := by
  rw [List.all_eq_false]
  exact ⟨l[k], List.getElem_mem hk, by simp [h]⟩
/-- what is left of stretchers -/
def wasB (b : UInt8) : Int := if cutB b then 4 - qB b else 0
def wasN (l : List UInt8) : Int := (l.map wasB).sum
theorem wasB_bd (b : UInt8) : 0 ≤ wasB b ∧ wasB b ≤ 4 := by have := qB_bd b; unfold wasB; split <;> omega
theorem wasN_snoc (l : List UInt8) (b : UInt8) : wasN (l ++ [b]) = wasN l + wasB b := by simp [wasN]
theorem wasN_bd (l : List UInt8) : 0 ≤ wasN l ∧ wasN l ≤ 4 * l.length := by
  induction l with
  | nil => simp [wasN]
  | cons b l ih =>
    have := wasB_bd b
    have e : wasN (b :: l) = wasB b + wasN l := by simp [wasN]
    rw [e, List.length_cons]; omega
/-- the perpends behind the first k pieces -/
def perpTo (l : List UInt8) : Nat → List Int
  | 0 => []
  | k + 1 => perpTo l k ++ [qSum (l.take (k + 1))]
theorem perpTo_length (l : List UInt8) (k : Nat) : (perpTo l k).length = k := by induction k with | zero => rfl | succ k ih => simp [perpTo, ih]
def perps (l : List UInt8) : List Int := perpTo l (l.length - 1)
theorem perps_length (l : List UInt8) : (perps l).length = l.length - 1 := perpTo_length _ _
end Go.Proofs.Ytnhmcmohnpbcjaa
