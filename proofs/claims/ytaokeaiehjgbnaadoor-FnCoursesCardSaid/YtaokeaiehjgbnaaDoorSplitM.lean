/- The words of a text, as the reference parts it and as Go's library does: plain laws; the short texts of plans. Nothing here speaks of the program. -/
import Derived.Test.YtaokeaiehjgbnaaDoorDecM
import Derived.Test.YtaokeaiehjgbnaaDoorGaWord
import Derived.Lib.Split
import Derived.Lib.IndexBytes
import Derived.Lib.Join
import Derived.Lib.SplitLaws
namespace Go.Proofs.YtaokeaiehjgbnaaDoor
open Go.Lib
set_option linter.unusedSimpArgs false
set_option linter.unusedVariables false
set_option linter.unnecessarySimpa false

theorem idx_split (b : UInt8) : ∀ l : List UInt8, (indexByte l b = -1 ∧ ∀ x ∈ l, x ≠ b) ∨ ∃ p r, l = p ++ b :: r ∧ (∀ x ∈ p, x ≠ b) ∧ indexByte l b = (p.length : Int)
  | [] => .inl ⟨rfl, by simp⟩
  | c :: l => by
    by_cases h : c = b
    · subst h
      exact .inr ⟨[], l, rfl, by simp, by simp [indexByte]⟩
    · have hb : (c == b) = false := by simp [h]
      rcases idx_split b l with ⟨h1, h2⟩ | ⟨p, r, rfl, h2, h3⟩
      · refine .inl ⟨by simp [indexByte, hb, h1], fun x hx => ?_⟩
        rcases List.mem_cons.1 hx with rfl | hx
        · exact h
        · exact h2 x hx
      · refine .inr ⟨c :: p, r, rfl, fun x hx => ?_, ?_⟩
        · rcases List.mem_cons.1 hx with rfl | hx
          · exact h
          · exact h2 x hx
        · have hn : ((p.length : Int) == -1) = false := by first | (simp; done) | (simp; omega)
          simp [indexByte, hb, h3, hn]
theorem splitK_spl (b : UInt8) : ∀ (k : Nat) (l : List UInt8), (splL b l).length ≤ k + 1 → splitK [b] 0 k l = splL b l
  | 0, l, h => by
    rcases idx_split b l with ⟨_, h2⟩ | ⟨p, r, rfl, h2, _⟩
    · rw [splL_none b l h2]; rfl
    · rw [splL_at b p r h2, List.length_cons] at h
      have := List.length_pos_iff.2 (splL_ne b r)
      omega
  | k + 1, l, h => by
    unfold splitK
    rw [index_one]
    rcases idx_split b l with ⟨h1, h2⟩ | ⟨p, r, rfl, h2, h3⟩
    · rw [h1, splL_none b l h2]; rfl
    · rw [splL_at b p r h2, List.length_cons] at h
      rw [h3, if_neg (by first | (simp; done) | (simp; omega)), splL_at b p r h2]
      have e1 : ((p.length : Int)).toNat = p.length := by omega
      rw [e1, Nat.add_zero, List.take_left' rfl, List.length_singleton, show p.length + 1 = (p ++ [b]).length by simp, show p ++ b :: r = (p ++ [b]) ++ r by simp, List.drop_left' rfl, splitK_spl b k r (by omega)]
theorem splitK_long (b : UInt8) : ∀ (k : Nat) (l : List UInt8), k + 1 < (splL b l).length → (splitK [b] 0 k l).length = k + 1
  | 0, l, h => rfl
  | k + 1, l, h => by
    unfold splitK
    rw [index_one]
    rcases idx_split b l with ⟨h1, h2⟩ | ⟨p, r, rfl, h2, h3⟩
    · rw [splL_none b l h2] at h; simp at h
    · rw [splL_at b p r h2, List.length_cons] at h
      rw [h3, if_neg (by first | (simp; done) | (simp; omega))]
      have e1 : ((p.length : Int)).toNat = p.length := by omega
      rw [e1, List.length_cons, List.length_singleton, show p.length + 1 = (p ++ [b]).length by simp, show p ++ b :: r = (p ++ [b]) ++ r by simp, List.drop_left' rfl, splitK_long b k r (by omega)]
theorem splL_len (b : UInt8) : ∀ l : List UInt8, (splL b l).length ≤ l.length + 1
  | [] => by simp [splL]
  | c :: r => by
    have ih := splL_len b r
    unfold splL
    split
    · first | (simp; done) | (simp; omega)
    · split
      · simp
      · rename_i y t h
        rw [h] at ih
        simp at ih ⊢; omega
theorem splL_count (b : UInt8) : ∀ l : List UInt8, (splL b l).length = l.count b + 1
  | [] => by simp [splL]
  | c :: r => by
    have ih := splL_count b r
    unfold splL
    by_cases h : c = b
    · subst h
      rw [if_pos rfl, List.length_cons, ih, List.count_cons_self]
    · rw [if_neg h, List.count_cons_of_ne h]
      split
      · rename_i h2
        exact absurd h2 (splL_ne b r)
      · rename_i y t h2
        rw [h2] at ih
        simpa using ih
theorem splitK_mem (b : UInt8) : ∀ (k : Nat) (l x : List UInt8), x ∈ splitK [b] 0 k l → x.length ≤ l.length
  | 0, l, x, h => by
    simp [splitK] at h
    rw [h]
    exact Nat.le_refl _
  | k + 1, l, x, h => by
    unfold splitK at h
    split at h
    · simp at h
      rw [h]
      exact Nat.le_refl _
    · rcases List.mem_cons.1 h with rfl | h
      · exact List.length_take_le' _ _
      · have := splitK_mem b k _ x h
        rw [List.length_drop] at this
        omega
/-- the words, joined, are the text -/
theorem join_splL (b : UInt8) : ∀ l : List UInt8, join (splL b l) [b] = l
  | [] => by simp [splL, join]
  | c :: r => by
    have ih := join_splL b r
    have hne := splL_ne b r
    unfold splL
    split
    · rename_i h
      subst h
      unfold join at ih ⊢
      cases hs : splL c r with
      | nil => exact absurd hs hne
      | cons y t =>
        rw [hs] at ih
        rw [List.intercalate_cons_cons, List.nil_append, ih]; rfl
    · cases hs : splL b r with
      | nil => exact absurd hs hne
      | cons y t =>
        rw [hs] at ih
        dsimp only
        unfold join at ih ⊢
        cases t with
        | nil => simpa using ih
        | cons z u =>
          rw [List.intercalate_cons_cons] at ih ⊢
          rw [← ih]; simp
/-! ### words that end in a letter and begin with a number -/
def lastW (w : List UInt8) : UInt8 := w.getLastD 0
theorem word_parts {w : List UInt8} (h : w ≠ []) : w.dropLast ++ [lastW w] = w := by
  unfold lastW
  rw [List.getLastD_eq_getLast?, List.getLast?_eq_some_getLast h, Option.getD_some]
  exact List.dropLast_concat_getLast h
def okW (w : List UInt8) : Bool := rdB w.dropLast
theorem okW_ne {w : List UInt8} (h : okW w = true) : w ≠ [] := by
  intro e
  subst e
  have := (rdB_iff.1 h).1
  simp [magL] at this
/-- the short text of numbers and letters -/
def runT (xs : List Int) (ts : List UInt8) : List UInt8 := join (List.zipWith (fun x t => itoa x ++ [t]) xs ts) [32]
theorem run_read {ws : List (List UInt8)} (h : ws.all okW = true) : runT (ws.map fun w => rdV w.dropLast) (ws.map lastW) = join ws [32] := by
  unfold runT
  congr 1
  induction ws with
  | nil => rfl
  | cons w ws ih =>
    simp only [List.all_cons, Bool.and_eq_true] at h
    simp only [List.map_cons, List.zipWith_cons_cons]
    rw [ih h.2, (rdB_iff.1 h.1).2.2.2, word_parts (okW_ne h.1)]
end Go.Proofs.YtaokeaiehjgbnaaDoor
