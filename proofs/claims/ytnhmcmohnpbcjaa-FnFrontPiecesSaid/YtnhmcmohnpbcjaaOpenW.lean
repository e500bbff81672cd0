/- Plain laws: a front from the other side, and an opening more. Nothing here speaks of the program. -/
import Derived.Test.YtnhmcmohnpbcjaaMirF
import Derived.Test.YtnhmcmohnpbcjaaFrontW
namespace Go.Proofs.Ytnhmcmohnpbcjaa
open Go.RowKit
set_option linter.unusedSimpArgs false
set_option linter.unusedVariables false
set_option linter.unnecessarySimpa false

theorem putO_perm (os : List Opn) (x : Opn) : (putO os x).Perm (x :: os) := by
  unfold putO
  refine List.perm_middle.trans ?_
  rw [List.take_append_drop]
theorem insTo_perm (os : List Opn) : ∀ k, k ≤ os.length → (insTo os k).Perm (os.take k)
  | 0, _ => by simp [insTo]
  | k + 1, h => by
    have hk : k < os.length := by omega
    rw [insTo_succ hk, List.take_succ_eq_append_getElem hk, getD_lt hk]
    refine (putO_perm _ _).trans ?_
    refine ((insTo_perm os k (by omega)).cons _).trans ?_
    exact (List.perm_append_singleton _ _).symm
theorem mirF_perm (L : Int) (os : List Opn) : (mirF L os).Perm (mirL L os) := by
  have h := insTo_perm (mirL L os) os.length (by rw [mirL_len]; exact Nat.le_refl _)
  rwa [List.take_of_length_le (by rw [mirL_len]; exact Nat.le_refl _)] at h
theorem ovl_mir (L : Int) (a b : Opn) : ovl (mirO L a) (mirO L b) = ovl a b := by
  rw [Bool.eq_iff_iff, ovl_iff, ovl_iff]
  unfold mirO
  dsimp only
  omega
/-- the mirrored openings, put in order, are in order and apart -/
theorem insTo_wfo {L C : Int} {os : List Opn} (h : WFO os) (h2 : ∀ o ∈ os, isOpn L C o = true) : ∀ k, k ≤ os.length → WFO (insTo (mirL L os) k) ∧ ∀ o ∈ insTo (mirL L os) k, isOpn L C o = true
  | 0, _ => by
    have e : insTo (mirL L os) 0 = [] := rfl
    rw [e]
    exact ⟨List.Pairwise.nil, by simp⟩
  | k + 1, hk => by
    have hk' : k < os.length := by omega
    obtain ⟨i1, i2⟩ := insTo_wfo h h2 k (by omega)
    rw [insTo_succ (by rw [mirL_len]; exact hk'), mirL_at L hk', getD_lt hk']
    refine putO_wfo i1 i2 (mirO_opn (h2 _ (List.getElem_mem hk'))) ?_
    unfold hitO
    rw [List.any_eq_false]
    intro p hp
    have hm := (insTo_perm (mirL L os) k (by rw [mirL_len]; omega)).mem_iff.1 hp
    obtain ⟨i, hi, rfl⟩ := List.mem_take_iff_getElem.1 hm
    have hi2 : i < os.length := by have := hi; rw [mirL_len] at this; omega
    have e : (mirL L os)[i]'(by rw [mirL_len]; exact hi2) = mirO L os[i] := by simp [mirL]
    rw [e, ovl_mir]
    unfold WFO at h
    rw [List.pairwise_iff_getElem] at h
    rw [(h i k hi2 hk' (by omega)).2]
    simp
theorem mirF_wfo {L C : Int} {os : List Opn} (h : validF L C os = true) : WFO (mirF L os) ∧ ∀ o ∈ mirF L os, isOpn L C o = true := by
  obtain ⟨w1, w2⟩ := wfo_of (validF_bd h).2.2.2
  exact insTo_wfo w1 w2 os.length (Nat.le_refl _)
theorem mirF_valid {L C : Int} {os : List Opn} (h : validF L C os = true) : validF L C (mirF L os) = true := by
  obtain ⟨⟨l1, l2⟩, ⟨c1, c2⟩, n8, hok⟩ := validF_bd h
  obtain ⟨w1, w2⟩ := mirF_wfo h
  unfold validF
  simp only [Bool.and_eq_true, decide_eq_true_eq, inB_iff]
  exact ⟨⟨l1, l2⟩, ⟨c1, c2⟩, by rw [mirF_len]; exact n8, okTo_of w1 w2⟩
theorem mirF_twice {L C : Int} {os : List Opn} (h : validF L C os = true) : mirF L (mirF L os) = os := by
  have hp : (mirF L (mirF L os)).Perm os := by
    refine (mirF_perm L _).trans ?_
    unfold mirL
    refine ((mirF_perm L os).map (mirO L)).trans ?_
    unfold mirL
    rw [List.map_map]
    have e : (mirO L ∘ mirO L) = id := by
      funext o
      unfold mirO
      simp only [Function.comp, id]
      congr 1 <;> omega
    rw [e, List.map_id]
  refine List.Perm.eq_of_pairwise (le := fun a b => befB a b = true) ?_ ((mirF_wfo (mirF_valid h)).1.imp (fun h => h.1)) ((wfo_of (validF_bd h).2.2.2).1.imp (fun h => h.1)) hp
  intro a b _ _ h1 h2
  rw [befB_iff] at h1 h2
  omega
theorem opnAt_mir (L : Int) (os : List Opn) (a c : Int) : opnAt (mirF L os) a c = opnAt os (L - 1 - a) c := by
  unfold opnAt
  rw [(mirF_perm L os).any_eq]
  unfold mirL
  rw [List.any_map]
  congr 1
  funext o
  unfold mirO
  simp only [Function.comp]
  rw [Bool.eq_iff_iff]
  simp only [Bool.and_eq_true, inB_iff]
  omega
/-- the line from the other side -/
theorem lineB_mir {N : Nat} {os : List Opn} {c : Int} {a : Nat} (h : a < N) : (lineB N (mirF N os) c).getD a 0 = (lineB N os c).getD (N - 1 - a) 0 := by
  rw [lineB_at h, lineB_at (by omega), opnAt_mir, show (N : Int) - 1 - (a : Int) = ((N - 1 - a : Nat) : Int) by omega]
theorem sum_perm_int {l1 l2 : List Int} (h : l1.Perm l2) : l1.sum = l2.sum := by
  induction h with
  | nil => rfl
  | cons x _ ih => simp [ih]
  | swap x y l => simp; omega
  | trans _ _ i1 i2 => rw [i1, i2]
/-- an opening takes its own area -/
theorem sol_put {L C : Int} {os : List Opn} {x : Opn} (h : addC L C os x = 0) : solN L C os - solN L C (putO os x) = areaO x := by
  have hv := (addC_valid h).1
  have hv2 := putO_valid h
  unfold solN
  rw [if_pos hv, if_pos hv2, solTo_sum _ _ _ _ (Nat.le_refl _), solTo_sum _ _ _ _ (Nat.le_refl _), List.take_of_length_le (Nat.le_refl _), List.take_of_length_le (Nat.le_refl _), sum_perm_int ((putO_perm os x).map areaO), List.map_cons, List.sum_cons]
  omega
theorem addC_cases {L C : Int} {os : List Opn} {x : Opn} (h : validF L C os = true) (hx : isOpn L C x = true) : addC L C os x = 0 ∨ addC L C os x = 9 ∨ addC L C os x = 5 := by
  unfold addC
  rw [if_pos h, if_pos hx]
  split
  · exact .inr (.inl rfl)
  · split
    · exact .inl rfl
    · exact .inr (.inr rfl)
theorem linesT_mir {N : Nat} {C : Int} {os : List Opn} : ∀ j, (linesT N C (mirF N os) j).length = (linesT N C os j).length := fun j => by rw [linesT_len, linesT_len]
end Go.Proofs.Ytnhmcmohnpbcjaa
