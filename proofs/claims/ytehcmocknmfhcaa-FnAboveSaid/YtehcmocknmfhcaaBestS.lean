/- The reference's best course above another one: the walk. -/
import Derived.Test.YtehcmocknmfhcaaBestS0
import Derived.Test.YtehcmocknmfhcaaCount
import Derived.Deep.RegionHeld3
import Derived.Deep.DeepCutAuto
import Derived.IntWalk
namespace Go.Proofs.Ytehcmocknmfhcaa
open Go.RowKit
set_option linter.unusedSimpArgs false
set_option linter.unusedVariables false
set_option linter.unnecessarySimpa false

def cS : Option Rw → Int | none => -1 | some r => r.c
def pS : Option Rw → Int | none => 0 | some r => r.p
def tS : Option Rw → ByteArray | none => ByteArray.empty | some r => mkS r.t
/-- a course from a place on, as the reference holds it -/
def cellsS (o : Option Rw) : List Value := [.int .i64 (cS o), .int .i64 (pS o), .string (tS o)]
def z3 : List Value := [.int .i64 0, .int .i64 0, .string ByteArray.empty]
theorem cellsS_len (o : Option Rw) : (cellsS o).length = 3 := rfl
/-- the best of the first k letters -/
def nowS (ok : Int → Bool) (L : Int) (d k : Nat) : Option Rw := (order5.take k).foldl (fun now b => pickBy ltS now (cand ok L (d + 1) (rowsT ok L d) b)) none
theorem nowS_zero (ok : Int → Bool) (L : Int) (d : Nat) : nowS ok L d 0 = none := rfl
theorem nowS_succ (ok : Int → Bool) (L : Int) (d k : Nat) (hk : k < 5) : nowS ok L d (k + 1) = pickBy ltS (nowS ok L d k) (cand ok L (d + 1) (rowsT ok L d) (order5.getD k 0)) := by
  unfold nowS
  rw [List.take_succ_eq_append_getElem (show k < order5.length from hk), List.foldl_append, List.getD_eq_getElem?_getD, List.getElem?_eq_getElem (show k < order5.length from hk)]
  rfl
theorem nowS_five (ok : Int → Bool) (L : Int) (d : Nat) : nowS ok L d 5 = best ok L (d + 1) := rfl
theorem nowS_good (ok : Int → Bool) (L : Int) (d k : Nat) (hk : k ≤ 5) : ∀ r, nowS ok L d k = some r → Good (d + 1) r := by
  have hb : ∀ d', d' ≤ d → ∀ r, best ok L d' = some r → Good d' r := fun d' _ => best_good ok L d'
  induction k with
  | zero => intro r h; rw [nowS_zero] at h; cases h
  | succ k ih =>
    intro r h
    rw [nowS_succ ok L d k (by omega)] at h
    rcases pickBy_from h with h | h
    · exact ih (by omega) r h
    · have hk5 : k = 0 ∨ k = 1 ∨ k = 2 ∨ k = 3 ∨ k = 4 := by omega
      rcases hk5 with rfl | rfl | rfl | rfl | rfl
      · exact cand_good hb qB_S (by decide) h
      · exact cand_good hb qB_H (by decide) h
      · exact cand_good hb qB_T (by decide) h
      · exact cand_good hb qB_B (by decide) h
      · exact cand_good hb qB_C (by decide) h
theorem ord_q (k : Nat) (hk : k < 5) : ∃ q : Nat, 1 ≤ q ∧ q ≤ 4 ∧ qB (order5.getD k 0) = q := by
  have hk5 : k = 0 ∨ k = 1 ∨ k = 2 ∨ k = 3 ∨ k = 4 := by omega
  rcases hk5 with rfl | rfl | rfl | rfl | rfl
  · exact ⟨4, by omega, by omega, qB_S⟩
  · exact ⟨2, by omega, by omega, qB_H⟩
  · exact ⟨3, by omega, by omega, qB_T⟩
  · exact ⟨2, by omega, by omega, qB_B⟩
  · exact ⟨1, by omega, by omega, qB_C⟩
def lessO (a : Rw) : Option Rw → Bool
  | none => true
  | some b => ltS a b
theorem pick_less (a : Rw) (now : Option Rw) : pickBy ltS now (some a) = if lessO a now then some a else now := by
  cases now with
  | none => rfl
  | some b => rfl
theorem mkS_toList (l : List UInt8) : (mkS l).toList = l := by rw [ByteArray.toList_eq]; rfl
theorem lessG_cells (a : Rw) (now : Option Rw) (ha : 0 ≤ a.c) (hb : ∀ b, now = some b → 0 ≤ b.c) : lessG a.c a.p (mkS a.t) (cS now) (pS now) (tS now) = lessO a now := by
  cases now with
  | none => unfold lessG; rw [if_pos (Or.inr (by decide))]; simp [lessO, ha, cS]
  | some b =>
    have := hb b rfl
    have h2 : ¬ (a.c < 0 ∨ cS (some b) < 0) := by simp only [cS]; omega
    unfold lessG
    rw [if_neg h2]
    simp only [cS, pS, tS, lessO, ltS, mkS_toList]
    rfl
/-- a letter cut out of the order, ahead of a text -/
theorem extract_one (M : ByteArray) (k : Nat) (h : k < M.size) : M.extract k (k + 1) = mkS [M[k]] := by
  apply ByteArray.ext
  apply Array.ext'
  have h' : k < M.data.toList.length := by simpa using h
  simp only [ByteArray.data_extract, Array.toList_extract, List.extract_eq_take_drop, mkS]
  rw [show k + 1 - k = 1 by omega, List.drop_eq_getElem_cons h']
  rfl
abbrev TC (w : World) (g o : Nat) (a b c : Value) : Prop := w.cell? ⟨g, o, none⟩ = some a ∧ w.cell? ⟨g, o + 1, none⟩ = some b ∧ w.cell? ⟨g, o + 2, none⟩ = some c
theorem TC.ext {w w' : World} {g o : Nat} {a b c : Value} (h : TC w g o a b c) (e : Ext w w') : TC w' g o a b c := ⟨e.cell h.1, e.cell h.2.1, e.cell h.2.2⟩
theorem keepTC {w2 W W' : World} {g o : Nat} {a b c : Value} (h : TC W g o a b c ∧ Ext w2 W) (e : Ext W W') : TC W' g o a b c ∧ Ext w2 W' := ⟨h.1.ext e, h.2.trans e⟩
end Go.Proofs.Ytehcmocknmfhcaa
