/- The laws' marks over rows of texts, and the count of what came in. -/
import Derived.Test.YtnhmcmohnpbcjaaStrs
namespace Go.Proofs.Ytnhmcmohnpbcjaa
open Go.RowKit
set_option linter.unusedSimpArgs false
set_option linter.unusedVariables false
set_option linter.unnecessarySimpa false

/-- the texts of the marks k, k+1, .. -/
def markSs (k : Int) (n : Nat) : List ByteArray := (marks k n).map mtx
theorem markSs_length (k : Int) (n : Nat) : (markSs k n).length = n := by simp [markSs, marks_length]
theorem markSs_get (k : Int) (n i : Nat) (h : i < n) : (markSs k n)[i]? = some (mtx (k + i)) := by simp [markSs, marks_get n k i h]
theorem mdig_len (k : Nat) : ∀ (acc : List UInt8), (mdig k acc).length ≤ k + acc.length := by
  induction k using Nat.strongRecOn with
  | ind k ih =>
    intro acc
    rw [mdig]
    split
    · omega
    · have := ih (k / 10) (by omega) (UInt8.ofNat (48 + k % 10) :: acc)
      simp only [List.length_cons] at this
      omega
theorem mtx_size (k : Int) (h : k ≤ 4000000000) : (mtx k).size ≤ 9223372036854775807 := by
  unfold mtx
  split
  · rw [mkS_size]; decide
  · rw [mkS_size]
    have := mdig_len k.toNat []
    simp at this ⊢
    omega
theorem markedS (k : Int) (xs : List ByteArray) (n j : Nat) (hx : xs.length = n) (hj : j < n) :
    ((markSs k j).map Value.string ++ (xs.drop j).map Value.string).set j (.string (mtx (k + j))) = (markSs k (j + 1)).map Value.string ++ (xs.drop (j + 1)).map Value.string := by
  apply List.ext_getElem?
  intro i
  have hl : ((markSs k j).map Value.string).length = j := by simp [markSs_length]
  have hl2 : ((markSs k (j + 1)).map Value.string).length = j + 1 := by simp [markSs_length]
  rcases Nat.lt_trichotomy i j with h | h | h
  · rw [List.getElem?_set_ne (by omega), List.getElem?_append_left (by omega), List.getElem?_append_left (by omega), List.getElem?_map, List.getElem?_map, markSs_get _ _ _ h, markSs_get _ _ _ (by omega)]
  · subst h
    rw [List.getElem?_set_self (by simp [markSs_length]; omega), List.getElem?_append_left (by omega), List.getElem?_map, markSs_get _ _ _ (by omega)]
    rfl
  · rw [List.getElem?_set_ne (by omega), List.getElem?_append_right (by omega), List.getElem?_append_right (by omega), hl, hl2, List.getElem?_map, List.getElem?_map, List.getElem?_drop, List.getElem?_drop]
    congr 2
    omega
/-- Marks have been written into the row v of the call's own, and nothing else that was there has changed. -/
def RetMarkS (base : Nat) (v : Value) (k : Int) (n : Nat) (w : World) (e : Ending) (w' : World) : Prop :=
  e = .returned (.int .i64 (k + n)) ∧ OwnStrs w' base v (markSs k n) ∧ w.grownBy w' v.ownBlock
theorem grown_ext_by {a b c : World} {row : Option Nat} (h : a.grownBy b row) (e : Ext b c) : a.grownBy c row :=
  ⟨e.os.trans h.os, e.tape.trans h.tape, e.output.trans h.output, Nat.le_trans h.size e.size, fun i hi hne => (Below.block e i (Nat.lt_of_lt_of_le hi h.size)).trans (h.block i hi hne)⟩
theorem grown_set_by {w wr : World} {g j : Nat} (h : w.grownBy wr (some g)) (v : Value) : w.grownBy (wr.setCell ⟨g, j, none⟩ v) (some g) :=
  ⟨h.os, h.tape, h.output, Nat.le_trans h.size (by simp [World.setCell]), fun i hi hne => (Below.heap_setCell _ _ _ _ (fun e => hne (by rw [e]))).trans (h.block i hi hne)⟩
set_option maxHeartbeats 800000 in
theorem l_markStringS (base : Nat) (ao : Option Addr) (n c : Nat) (k : Int) (xs : List ByteArray) (w : World) (hl : xs.length = n) (hx : OwnStrs w base (.slice ao n c) xs) (hn : n ≤ 1000000000) (k1 : 0 ≤ k) (k2 : k ≤ 1000000000) :
    Calls Try.prog 26 #[.slice ao n c, .int .i64 k] w (RetMarkS base (.slice ao n c) k n w) := by
  subst hl
  have hxl : xs.length = xs.length := rfl
  generalize hn' : xs.length = n at *
  go_enter Try.func26, Try.ntmps26
  go_wp2
  go_loopw [1, 5] (fun q i wr => ∃ j : Nat, j ≤ n ∧ i = .int .i64 j ∧ q = .int .i64 (k + j) ∧ wr.ownsRow base 9 1 (.slice ao n c) n ((markSs k j).map Value.string ++ (xs.drop j).map Value.string) ∧ w.grownBy wr (Value.slice ao n c).ownBlock) (fun _ i _ => n - (intOf i).toNat)
  case atStart => exact ⟨0, Nat.zero_le _, rfl, by simp, by simpa [markSs, marks, hn'] using hx.1, World.grownBy.refl _ _⟩
  case round =>
    obtain ⟨j, hj, rfl, rfl, ho, hg⟩ := hrel
    by_cases hlt : j < n
    · obtain ⟨g, rfl⟩ : ∃ g, ao = some ⟨g, 0, none⟩ := by
        rcases ho.2 with ⟨h, _⟩ | ⟨g, cap, cur, h, _⟩
        · simp at h; omega
        · simp at h; exact ⟨g, h.1⟩
      go_wp2_with fail
      refine (l_markText _ (by omega) (by omega) _).mono ?_
      rintro e w1 ⟨rfl, e1⟩
      have ho1 := ownsRow_ext ho e1
      have hg1 : w.grownBy w1 (some g) := grown_ext_by hg e1
      clear ho hg e1
      have hcell := ho1.cellAt j (by omega)
      have hfr := ho1.frozenAt j
      obtain ⟨u0, hu0⟩ : ∃ u0, ((markSs k j).map Value.string ++ (xs.drop j).map Value.string)[j]? = some u0 := ⟨_, List.getElem?_eq_getElem (by simp [markSs_length]; omega)⟩
      rw [hu0] at hcell
      clear hu0
      have hst := (ho1.stored j (.string (mtx (k + j)))).1
      rw [markedS k xs n j hn' hlt] at hst
      have hgg : w.grownBy (w1.setCell ⟨g, j, none⟩ (.string (mtx (k + j)))) (some g) := grown_set_by hg1 _
      go_wp2
      go_roundw
      case rel => exact ⟨j + 1, by omega, by go_num, by go_num, hst, hgg⟩
      case measure => simp [intOf]; omega
    · go_wp2
      go_ret
      obtain rfl : j = n := by omega
      refine ⟨rfl, ⟨?_, fun x hx => ?_⟩, hg⟩
      · rw [markSs_length]
        simpa [List.drop_of_length_le (show xs.length ≤ j by omega)] using ho
      · obtain ⟨y, hy, rfl⟩ := List.mem_map.1 hx
        have := marks_mem hy
        exact mtx_size _ (by omega)
abbrev OneC (w : World) (b o : Nat) (v : Value) : Prop := w.cell? ⟨b, o, none⟩ = some v
theorem keepOE {w2 W W' : World} {b o : Nat} {v : Value} (h : OneC W b o v ∧ Ext w2 W) (e : Ext W W') : OneC W' b o v ∧ Ext w2 W' := ⟨e.cell h.1, h.2.trans e⟩
theorem heldOE {w2 W : World} {b o : Nat} {v : Value} (h : OneC W b o v ∧ Ext w2 W) : Ext w2 W := h.2
set_option maxHeartbeats 800000 in
theorem l_heldStringS (ao : Option Addr) (n c : Nat) (k : Int) (w : World) (hx : Strs w ao n (markSs k n)) (hn : n ≤ 1000000000) (k1 : 0 ≤ k) (k2 : k ≤ 1000000000) :
    Calls Try.prog 27 #[.slice ao n c, .int .i64 k] w (RetE (.int .i64 (k + n)) w) := by
  obtain ⟨hxl, hxm, hxc, hxi⟩ := hx
  go_enter Try.func27, Try.ntmps27
  go_wp2
  go_loopw [1, 5] (fun q i wr => ∃ j : Nat, j ≤ n ∧ i = .int .i64 j ∧ q = .int .i64 (k + j) ∧ Ext w wr) (fun _ i _ => n - (intOf i).toNat)
  case atStart => exact ⟨0, Nat.zero_le _, rfl, by simp, Ext.refl _⟩
  case round =>
    obtain ⟨j, hj, rfl, rfl, er⟩ := hrel
    by_cases hlt : j < n
    · obtain ⟨b, off, rfl, hc⟩ := hxc j hlt
      rw [List.getD_eq_getElem?_getD, markSs_get k n j hlt, Option.getD_some] at hc
      have K : OneC wr b (off + j) (.string (mtx (k + j))) := er.cell hc
      have hM := fun W => l_markText (k + j) (by omega) (by omega) W
      obtain ⟨t, ht⟩ : ∃ t, mtx (k + j) = t := ⟨_, rfl⟩
      rw [ht] at hM K
      have HM := Lib.hid hM
      clear hM hc hxc ht
      go_wp2
      go_region_held3 (fun W => OneC W b (off + j) (.string t) ∧ Ext wr W) (first | exact ⟨K, (Ext.refl _).drew⟩ | exact keepOE (by assumption) (by assumption)) (first | (go_at_call 69; refine (HM.out _).mono ?_; rintro e w' ⟨rfl, e'⟩))
      have hfin := er.trans (heldOE (by assumption))
      go_wp2
      go_roundw
      case rel => exact ⟨j + 1, by omega, by go_num, by go_num, hfin⟩
      case measure => simp [intOf]; omega
    · go_wp2
      go_ret
      obtain rfl : j = n := by omega
      exact RetE.mk rfl er
end Go.Proofs.Ytnhmcmohnpbcjaa
