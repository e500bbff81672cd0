/- The runs of equal letters of a text, and their short text: plain laws. Nothing here speaks of the program. -/
import Derived.Test.YtaokeaiehjgbnaaDoorDecM
import Derived.Lib.Join
namespace Go.Proofs.YtaokeaiehjgbnaaDoor
open Go.Lib
set_option linter.unusedSimpArgs false
set_option linter.unusedVariables false
set_option linter.unnecessarySimpa false

/-- how many of a letter stand at the head -/
def runN (c : UInt8) : List UInt8 → Nat
  | [] => 0
  | x :: r => if x = c then runN c r + 1 else 0
/-- the words of the runs, each its length and its letter -/
def runsF : Nat → List UInt8 → List (List UInt8)
  | 0, _ => []
  | _ + 1, [] => []
  | f + 1, c :: r => (itoa ((runN c r + 1 : Nat) : Int) ++ [c]) :: runsF f (r.drop (runN c r))
def runs (l : List UInt8) : List (List UInt8) := runsF l.length l
theorem runsF_any : ∀ (f : Nat) (l : List UInt8) (g : Nat), l.length ≤ f → l.length ≤ g → runsF f l = runsF g l
  | f, [], g, _, _ => by cases f <;> cases g <;> rfl
  | 0, c :: r, g, h, _ => by simp at h
  | f + 1, c :: r, 0, _, h => by simp at h
  | f + 1, c :: r, g + 1, h1, h2 => by
    simp only [List.length_cons] at h1 h2
    unfold runsF
    rw [runsF_any f (r.drop (runN c r)) g (by rw [List.length_drop]; omega) (by rw [List.length_drop]; omega)]
theorem runs_nil : runs [] = [] := rfl
theorem runs_cons (c : UInt8) (r : List UInt8) : runs (c :: r) = (itoa ((runN c r + 1 : Nat) : Int) ++ [c]) :: runs (r.drop (runN c r)) := by
  unfold runs
  rw [List.length_cons]
  conv => lhs; unfold runsF
  rw [runsF_any r.length (r.drop (runN c r)) (r.drop (runN c r)).length (by rw [List.length_drop]; omega) (Nat.le_refl _)]
theorem runN_rep (c : UInt8) (r : List UInt8) (h : r.head? ≠ some c) : ∀ m, runN c (List.replicate m c ++ r) = m
  | 0 => by
    rw [List.replicate_zero, List.nil_append]
    cases r with
    | nil => rfl
    | cons x r =>
      unfold runN
      rw [if_neg (fun e => h (by rw [e]; rfl))]
  | m + 1 => by
    rw [List.replicate_succ, List.cons_append]
    unfold runN
    rw [if_pos rfl, runN_rep c r h m]
theorem runs_rep (c : UInt8) (r : List UInt8) (h : r.head? ≠ some c) (m : Nat) : runs (List.replicate (m + 1) c ++ r) = (itoa ((m + 1 : Nat) : Int) ++ [c]) :: runs r := by
  rw [List.replicate_succ, List.cons_append, runs_cons, runN_rep c r h m, List.drop_left' (by rw [List.length_replicate])]
/-- a joined row of short words is short -/
theorem join_len (sep : List UInt8) (K : Nat) : ∀ ws : List (List UInt8), (∀ x ∈ ws, x.length ≤ K) → (join ws sep).length ≤ ws.length * (K + sep.length)
  | [], _ => by simp [join]
  | [x], h => by
    have := h x (by simp)
    simp [join]
    omega
  | x :: y :: r, h => by
    have h1 := h x (by simp)
    have ih := join_len sep K (y :: r) (fun z hz => h z (List.mem_cons_of_mem _ hz))
    unfold join at ih ⊢
    rw [List.intercalate_cons_cons, List.length_append, List.length_append]
    rw [List.length_cons (a := x), Nat.succ_mul]
    omega
theorem join_snoc (sep x : List UInt8) : ∀ ws : List (List UInt8), ws ≠ [] → join (ws ++ [x]) sep = join ws sep ++ (sep ++ x)
  | [], h => absurd rfl h
  | [a], _ => by simp [join, List.intercalate_cons_cons]
  | a :: b :: r, _ => by
    have ih := join_snoc sep x (b :: r) (by simp)
    unfold join at ih ⊢
    rw [List.cons_append] at ih
    rw [List.cons_append, List.cons_append, List.intercalate_cons_cons, List.intercalate_cons_cons, ih]
    simp
theorem join_one (sep x : List UInt8) : join [x] sep = x := by simp [join]
end Go.Proofs.YtaokeaiehjgbnaaDoor
