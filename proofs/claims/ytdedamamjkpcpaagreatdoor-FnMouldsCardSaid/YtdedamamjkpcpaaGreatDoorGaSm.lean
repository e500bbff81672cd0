/- A group of texts, one behind the other: SplitM, ReadM. -/
import Derived.Test.YtdedamamjkpcpaaGreatDoorGaDm
import Derived.Test.YtdedamamjkpcpaaGreatDoorGaWord
import Derived.Lib.Split
import Derived.Lib.IndexBytes
import Derived.Lib.Join
import Derived.Lib.SplitLaws
import Derived.Test.YtdedamamjkpcpaaGreatDoorGaMath
/- The words of a text, as the reference parts it and as Go's library does: plain laws; the short texts of plans. Nothing here speaks of the program. -/
namespace Go.Proofs.YtdedamamjkpcpaaGreatDoor
open Go.Lib
set_option linter.unusedSimpArgs false
set_option linter.unusedVariables false
set_option linter.unnecessarySimpa false

theorem idx_split (b : UInt8) : ∀ l : List UInt8, (indexByte l b = -1 ∧ ∀ x ∈ l, x ≠ b) ∨ ∃ p r, l = p ++ b :: r ∧ (∀ x ∈ p, x ≠ b) ∧ indexByte l b = (p.length : Int)
  | [] => .inl ⟨rfl, by simp⟩
  | c :: l => by
    by_cases h : c = b
    · subst h
      exact .inr ⟨[], l, rfl, by simp, by simp [indexByte]⟩
    · have hb : (c == b) = false := by simp [h]
      rcases idx_split b l with ⟨h1, h2⟩ | ⟨p, r, rfl, h2, h3⟩
      · refine .inl ⟨by simp [indexByte, hb, h1], fun x hx => ?_⟩
        rcases List.mem_cons.1 hx with rfl | hx
        · exact h
        · exact h2 x hx
      · refine .inr ⟨c :: p, r, rfl, fun x hx => ?_, ?_⟩
        · rcases List.mem_cons.1 hx with rfl | hx
          · exact h
          · exact h2 x hx
        · have hn : ((p.length : Int) == -1) = false := by first | (simp; done) | (simp; omega)
          simp [indexByte, hb, h3, hn]
theorem splitK_spl (b : UInt8) : ∀ (k : Nat) (l : List UInt8), (splL b l).length ≤ k + 1 → splitK [b] 0 k l = splL b l
  | 0, l, h => by
    rcases idx_split b l with ⟨_, h2⟩ | ⟨p, r, rfl, h2, _⟩
    · rw [splL_none b l h2]; rfl
    · rw [splL_at b p r h2, List.length_cons] at h
      have := List.length_pos_iff.2 (splL_ne b r)
      omega
  | k + 1, l, h => by
    unfold splitK
    rw [index_one]
    rcases idx_split b l with ⟨h1, h2⟩ | ⟨p, r, rfl, h2, h3⟩
    · rw [h1, splL_none b l h2]; rfl
    · rw [splL_at b p r h2, List.length_cons] at h
      rw [h3, if_neg (by first | (simp; done) | (simp; omega)), splL_at b p r h2]
      have e1 : ((p.length : Int)).toNat = p.length := by omega
      rw [e1, Nat.add_zero, List.take_left' rfl, List.length_singleton, show p.length + 1 = (p ++ [b]).length by simp, show p ++ b :: r = (p ++ [b]) ++ r by simp, List.drop_left' rfl, splitK_spl b k r (by omega)]
theorem splitK_long (b : UInt8) : ∀ (k : Nat) (l : List UInt8), k + 1 < (splL b l).length → (splitK [b] 0 k l).length = k + 1
  | 0, l, h => rfl
  | k + 1, l, h => by
    unfold splitK
    rw [index_one]
    rcases idx_split b l with ⟨h1, h2⟩ | ⟨p, r, rfl, h2, h3⟩
    · rw [splL_none b l h2] at h; simp at h
    · rw [splL_at b p r h2, List.length_cons] at h
      rw [h3, if_neg (by first | (simp; done) | (simp; omega))]
      have e1 : ((p.length : Int)).toNat = p.length := by omega
      rw [e1, List.length_cons, List.length_singleton, show p.length + 1 = (p ++ [b]).length by simp, show p ++ b :: r = (p ++ [b]) ++ r by simp, List.drop_left' rfl, splitK_long b k r (by omega)]
theorem splL_len (b : UInt8) : ∀ l : List UInt8, (splL b l).length ≤ l.length + 1
  | [] => by simp [splL]
  | c :: r => by
    have ih := splL_len b r
    unfold splL
    split
    · first | (simp; done) | (simp; omega)
    · split
      · simp
      · rename_i y t h
        rw [h] at ih
        simp at ih ⊢; omega
theorem splL_count (b : UInt8) : ∀ l : List UInt8, (splL b l).length = l.count b + 1
  | [] => by simp [splL]
  | c :: r => by
    have ih := splL_count b r
    unfold splL
    by_cases h : c = b
    · subst h
      rw [if_pos rfl, List.length_cons, ih, List.count_cons_self]
    · rw [if_neg h, List.count_cons_of_ne h]
      split
      · rename_i h2
        exact absurd h2 (splL_ne b r)
      · rename_i y t h2
        rw [h2] at ih
        simpa using ih
theorem splitK_mem (b : UInt8) : ∀ (k : Nat) (l x : List UInt8), x ∈ splitK [b] 0 k l → x.length ≤ l.length
  | 0, l, x, h => by
    simp [splitK] at h
    rw [h]
    exact Nat.le_refl _
  | k + 1, l, x, h => by
    unfold splitK at h
    split at h
    · simp at h
      rw [h]
      exact Nat.le_refl _
    · rcases List.mem_cons.1 h with rfl | h
      · exact List.length_take_le' _ _
      · have := splitK_mem b k _ x h
        rw [List.length_drop] at this
        omega
/-- the words, joined, are the text -/
theorem join_splL (b : UInt8) : ∀ l : List UInt8, join (splL b l) [b] = l
  | [] => by simp [splL, join]
  | c :: r => by
    have ih := join_splL b r
    have hne := splL_ne b r
    unfold splL
    split
    · rename_i h
      subst h
      unfold join at ih ⊢
      cases hs : splL c r with
      | nil => exact absurd hs hne
      | cons y t =>
        rw [hs] at ih
        rw [List.intercalate_cons_cons, List.nil_append, ih]; rfl
    · cases hs : splL b r with
      | nil => exact absurd hs hne
      | cons y t =>
        rw [hs] at ih
        dsimp only
        unfold join at ih ⊢
        cases t with
        | nil => simpa using ih
        | cons z u =>
          rw [List.intercalate_cons_cons] at ih ⊢
          rw [← ih]; simp
/-! ### words that end in a letter and begin with a number -/
def lastW (w : List UInt8) : UInt8 := w.getLastD 0
theorem word_parts {w : List UInt8} (h : w ≠ []) : w.dropLast ++ [lastW w] = w := by
  unfold lastW
  rw [List.getLastD_eq_getLast?, List.getLast?_eq_some_getLast h, Option.getD_some]
  exact List.dropLast_concat_getLast h
def okW (w : List UInt8) : Bool := rdB w.dropLast
theorem okW_ne {w : List UInt8} (h : okW w = true) : w ≠ [] := by
  intro e
  subst e
  have := (rdB_iff.1 h).1
  simp [magL] at this
/-- the short text of numbers and letters -/
def runT (xs : List Int) (ts : List UInt8) : List UInt8 := join (List.zipWith (fun x t => itoa x ++ [t]) xs ts) [32]
theorem run_read {ws : List (List UInt8)} (h : ws.all okW = true) : runT (ws.map fun w => rdV w.dropLast) (ws.map lastW) = join ws [32] := by
  unfold runT
  congr 1
  induction ws with
  | nil => rfl
  | cons w ws ih =>
    simp only [List.all_cons, Bool.and_eq_true] at h
    simp only [List.map_cons, List.zipWith_cons_cons]
    rw [ih h.2, (rdB_iff.1 h.1).2.2.2, word_parts (okW_ne h.1)]
end Go.Proofs.YtdedamamjkpcpaaGreatDoor

/- What the short text of a course, and the text of a plan, are read back as: plain laws. Nothing here speaks of the program. -/
namespace Go.Proofs.YtdedamamjkpcpaaGreatDoor
open Go.Lib
set_option linter.unusedSimpArgs false
set_option linter.unusedVariables false
set_option linter.unnecessarySimpa false

/-- the number ahead of a word's letter -/
def valW (w : List UInt8) : Int := rdV w.dropLast
/-- a word that may stand behind n letters -/
def rrW (w : List UInt8) (n : Nat) : Bool := okW w && (decide (1 ≤ valW w) && (decide (valW w ≤ 60) && decide ((n : Int) + valW w ≤ 60)))
theorem rrW_iff {w : List UInt8} {n : Nat} : rrW w n = true ↔ okW w = true ∧ 1 ≤ valW w ∧ valW w ≤ 60 ∧ (n : Int) + valW w ≤ 60 := by unfold rrW; simp
def rrF : List (List UInt8) → List UInt8 → Option (List UInt8)
  | [], acc => some acc
  | w :: ws, acc => if rrW w acc.length = true then rrF ws (acc ++ List.replicate (valW w).toNat (lastW w)) else none
theorem rrF_good {w : List UInt8} {ws : List (List UInt8)} {acc : List UInt8} (h : rrW w acc.length = true) : rrF (w :: ws) acc = rrF ws (acc ++ List.replicate (valW w).toNat (lastW w)) := if_pos h
theorem rrF_bad {w : List UInt8} {ws : List (List UInt8)} {acc : List UInt8} (h : ¬ rrW w acc.length = true) : rrF (w :: ws) acc = none := if_neg h
theorem rrF_len : ∀ (ws : List (List UInt8)) (acc out : List UInt8), acc.length ≤ 60 → rrF ws acc = some out → out.length ≤ 60
  | [], acc, out, h, e => by cases e; exact h
  | w :: ws, acc, out, h, e => by
    by_cases hw : rrW w acc.length = true
    · rw [rrF_good hw] at e
      have := rrW_iff.1 hw
      exact rrF_len ws _ out (by rw [List.length_append, List.length_replicate]; omega) e
    · rw [rrF_bad hw] at e; cases e
theorem rrF_ge : ∀ (ws : List (List UInt8)) (acc out : List UInt8), rrF ws acc = some out → acc.length + ws.length ≤ out.length
  | [], acc, out, e => by cases e; exact Nat.le_refl _
  | w :: ws, acc, out, e => by
    by_cases hw : rrW w acc.length = true
    · rw [rrF_good hw] at e
      have h := rrW_iff.1 hw
      have := rrF_ge ws _ out e
      rw [List.length_append, List.length_replicate] at this
      rw [List.length_cons]
      omega
    · rw [rrF_bad hw] at e; cases e
theorem rr_at {XS : List (List UInt8)} {k : Nat} (hk : k < XS.length) (acc : List UInt8) : rrF (XS.drop k) acc = rrF (XS.getD k [] :: XS.drop (k + 1)) acc := by
  rw [List.drop_eq_getElem_cons hk, List.getD_eq_getElem?_getD, List.getElem?_eq_getElem hk]; rfl
/-- .. and what the whole text is read back as -/
def rrR (l : List UInt8) : Option (List UInt8) := match rrF (splL 32 l) [] with
  | none => none
  | some out => if validC out = true ∧ join (runs out) [32] = l then some out else none
theorem rrR_none {l : List UInt8} (h : rrF (splL 32 l) [] = none) : rrR l = none := by unfold rrR; rw [h]
theorem rrR_some {l out : List UInt8} (h : rrF (splL 32 l) [] = some out) (h1 : validC out = true) (h2 : join (runs out) [32] = l) : rrR l = some out := by unfold rrR; rw [h]; exact if_pos ⟨h1, h2⟩
theorem rrR_bad {l out : List UInt8} (h : rrF (splL 32 l) [] = some out) (h1 : ¬ (validC out = true ∧ join (runs out) [32] = l)) : rrR l = none := by unfold rrR; rw [h]; exact if_neg h1
theorem rr_ne {l out : List UInt8} (h : rrF (splL 32 l) [] = some out) : l ≠ [] := by
  rintro rfl
  rw [show splL 32 ([] : List UInt8) = [[]] from rfl, rrF_bad (by rw [rrW_iff]; intro h; exact okW_ne h.1 rfl)] at h
  cases h
/-! ### a course's short text is read back as the course -/
theorem splL_free (b : UInt8) : ∀ ws : List (List UInt8), ws ≠ [] → (∀ w ∈ ws, ∀ x ∈ w, x ≠ b) → splL b (join ws [b]) = ws
  | [], h, _ => absurd rfl h
  | [w], _, h => by
    rw [join_one, splL_none b w (h w (by simp))]
  | w :: v :: r, _, h => by
    have ih := splL_free b (v :: r) (by simp) (fun x hx => h x (List.mem_cons_of_mem _ hx))
    unfold join at ih ⊢
    rw [List.intercalate_cons_cons, List.append_assoc, List.singleton_append, splL_at b w _ (h w (by simp)), ih]
theorem itoa_free (u : Nat) : ∀ x ∈ itoa (u : Int), x ≠ 32 := by
  intro x hx
  rw [itoa_nonneg] at hx
  have := (List.all_eq_true.1 (decDigits_all u).1) x hx
  have := isDg_iff.1 this
  rintro rfl
  exact absurd this.1 (by decide)
theorem dropLast_snoc1 (l : List UInt8) (c : UInt8) : (l ++ [c]).dropLast = l := List.dropLast_concat
theorem lastW_snoc (l : List UInt8) (c : UInt8) : lastW (l ++ [c]) = c := by
  unfold lastW
  rw [List.getLastD_eq_getLast?, List.getLast?_concat]; rfl
theorem rr_word {u n : Nat} {c : UInt8} (h : n + u + 1 ≤ 60) : rrW (itoa ((u + 1 : Nat) : Int) ++ [c]) n = true ∧ valW (itoa ((u + 1 : Nat) : Int) ++ [c]) = ((u + 1 : Nat) : Int) ∧ lastW (itoa ((u + 1 : Nat) : Int) ++ [c]) = c := by
  obtain ⟨r1, r2⟩ := rd_itoa (n := ((u + 1 : Nat) : Int)) (by omega) (by omega)
  have hv : valW (itoa ((u + 1 : Nat) : Int) ++ [c]) = ((u + 1 : Nat) : Int) := by unfold valW; rw [dropLast_snoc1, r2]
  refine ⟨rrW_iff.2 ⟨by unfold okW; rw [dropLast_snoc1, r1], ?_, ?_, ?_⟩, hv, lastW_snoc _ _⟩ <;> rw [hv] <;> omega
theorem runN_le (c : UInt8) : ∀ l : List UInt8, runN c l ≤ l.length ∧ l.take (runN c l) = List.replicate (runN c l) c
  | [] => ⟨Nat.le_refl _, rfl⟩
  | x :: r => by
    have ih := runN_le c r
    unfold runN
    split
    · rename_i h
      subst h
      refine ⟨by simp; exact ih.1, ?_⟩
      rw [List.take_succ_cons, ih.2, List.replicate_succ]
    · exact ⟨Nat.zero_le _, rfl⟩
theorem rr_runsF : ∀ (f : Nat) (l acc : List UInt8), l.length ≤ f → acc.length + l.length ≤ 60 → rrF (runsF f l) acc = some (acc ++ l)
  | 0, l, acc, h, _ => by
    rw [List.eq_nil_of_length_eq_zero (Nat.le_zero.1 h), List.append_nil]; rfl
  | f + 1, [], acc, _, _ => by rw [List.append_nil]; rfl
  | f + 1, c :: r, acc, h, h2 => by
    obtain ⟨n1, n2⟩ := runN_le c r
    rw [List.length_cons] at h h2
    obtain ⟨g1, g2, g3⟩ := rr_word (u := runN c r) (n := acc.length) (c := c) (by omega)
    show rrF ((itoa ((runN c r + 1 : Nat) : Int) ++ [c]) :: runsF f (r.drop (runN c r))) acc = _
    rw [rrF_good g1, g2, g3, rr_runsF f _ _ (by rw [List.length_drop]; omega) (by rw [List.length_append, List.length_replicate, List.length_drop]; omega)]
    congr 1
    rw [List.append_assoc]
    congr 1
    have e1 : ((runN c r + 1 : Nat) : Int).toNat = runN c r + 1 := by omega
    rw [e1, List.replicate_succ, ← n2, List.cons_append, List.take_append_drop]
theorem runsF_free : ∀ (f : Nat) (l : List UInt8), (∀ x ∈ l, x ≠ 32) → ∀ w ∈ runsF f l, ∀ x ∈ w, x ≠ 32
  | 0, l, _, w, hw, _, _ => by cases hw
  | f + 1, [], _, w, hw, _, _ => by cases hw
  | f + 1, c :: r, h, w, hw, x, hx => by
    rcases List.mem_cons.1 hw with rfl | hw
    · rcases List.mem_append.1 hx with hx | hx
      · exact itoa_free _ x hx
      · rw [List.mem_singleton.1 hx]; exact h c (by simp)
    · exact runsF_free f _ (fun y hy => h y (List.mem_cons_of_mem _ (List.mem_of_mem_drop hy))) w hw x hx
theorem rr_course {l : List UInt8} (hl : l.length ≤ 60) (hne : l ≠ []) (hf : ∀ x ∈ l, x ≠ 32) (hv : validC l = true) : rrR (join (runs l) [32]) = some l := by
  refine rrR_some (out := l) ?_ hv rfl
  have h1 : runs l ≠ [] := by
    cases l with
    | nil => exact absurd rfl hne
    | cons c r => rw [runs_cons]; simp
  rw [splL_free 32 (runs l) h1 (runsF_free _ _ hf)]
  exact rr_runsF _ l [] (Nat.le_refl _) (by simpa using hl)
theorem runsF_len : ∀ (f : Nat) (l : List UInt8), (runsF f l).length ≤ l.length
  | 0, l => Nat.zero_le _
  | f + 1, [] => Nat.le_refl _
  | f + 1, c :: r => by
    have := runsF_len f (r.drop (runN c r))
    rw [List.length_drop] at this
    show (_ :: runsF f (r.drop (runN c r))).length ≤ _
    rw [List.length_cons, List.length_cons]; omega
theorem runs_len (l : List UInt8) : (runs l).length ≤ l.length := runsF_len _ l
theorem runsF_short : ∀ (f : Nat) (l : List UInt8), l.length ≤ 60 → ∀ w ∈ runsF f l, w.length ≤ 21
  | 0, l, _, w, hw => by cases hw
  | f + 1, [], _, w, hw => by cases hw
  | f + 1, c :: r, h, w, hw => by
    rw [List.length_cons] at h
    rcases List.mem_cons.1 hw with rfl | hw
    · have h1 := (runN_le c r).1
      rw [List.length_append, List.length_singleton, itoa_natP, if_neg (by omega)]
      have := decP_len (u := runN c r + 1) (by omega)
      omega
    · exact runsF_short f _ (by rw [List.length_drop]; omega) w hw
theorem runs_short (l : List UInt8) (h : l.length ≤ 60) : ∀ w ∈ runs l, w.length ≤ 21 := runsF_short _ l h
end Go.Proofs.YtdedamamjkpcpaaGreatDoor
