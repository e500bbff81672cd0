/- Words for rows of bytes: what a text's bytes in memory read as, one that the call made by appending; back to a text. Reversing in place. -/
import Derived.Test.YtaokeaiehjgbnaaDoorLawInts
import Derived.Test.YtaokeaiehjgbnaaDoorCourse
namespace Go.Proofs.YtaokeaiehjgbnaaDoor
open Go.RowKit
set_option linter.unusedSimpArgs false
set_option linter.unusedVariables false
set_option linter.unnecessarySimpa false

/-- the text of some bytes; the walk does not look inside -/
def mkS (l : List UInt8) : ByteArray := ⟨l.toArray⟩
theorem bts_mkS (l : List UInt8) : bts (mkS l) = l := by simp [bts, mkS]
theorem mkS_bts (s : ByteArray) : mkS (bts s) = s := by cases s; simp [bts, mkS]
theorem mkS_size (l : List UInt8) : (mkS l).size = l.length := by rw [← bts_length, bts_mkS]
def u8V (b : UInt8) : Value := .int .u8 (b.toNat : Int)

theorem ne_off {g i j : Nat} (h : i ≠ j) : (⟨g, i, none⟩ : Addr) ≠ ⟨g, j, none⟩ := fun e => h (by simpa using e)

/-- the row has been turned round, and nothing else has changed -/
def Turned (g n : Nat) (l : List UInt8) (w : World) (e : Ending) (w' : World) : Prop :=
  e = .returned (.tuple #[]) ∧ (∀ m, m < n → w'.cell? ⟨g, m, none⟩ = some (.int .u8 ((l.getD (n - 1 - m) 0).toNat : Int))) ∧ ∀ W, Ext W w → W.heap.size ≤ g → Ext W w'
/-- what stands at place m when k places at either end have been exchanged -/
def revAt (l : List UInt8) (n k m : Nat) : UInt8 := if m < k ∨ n - k ≤ m then l.getD (n - 1 - m) 0 else l.getD m 0
set_option maxHeartbeats 1000000 in
theorem f_Reverse_u8 (g n c : Nat) (l : List UInt8) (w : World) (hn : n ≤ 1000000) (hc : ∀ m, m < n → w.cell? ⟨g, m, none⟩ = some (.int .u8 ((l.getD m 0).toNat : Int)))
    (hf : ∀ m, m < n → w.frozen? ⟨g, m, none⟩ = false) :
    Calls Tryd.prog 53 #[.slice (some ⟨g, 0, none⟩) n c] w
      (Turned g n l w) := by
  go_enter Tryd.func53, Tryd.ntmps53
  go_wp2
  go_loopw [2, 3] (fun i j wr => ∃ k : Nat, 2 * k ≤ n + 1 ∧ i = .int .i64 k ∧ j = .int .i64 ((n : Int) - 1 - k) ∧ (∀ m, m < n → wr.cell? ⟨g, m, none⟩ = some (.int .u8 ((revAt l n k m).toNat : Int))) ∧ (∀ m, m < n → wr.frozen? ⟨g, m, none⟩ = false) ∧ (∀ W, Ext W w → W.heap.size ≤ g → Ext W wr)) (fun i _ _ => n - (intOf i).toNat)
  case atStart =>
    refine ⟨0, by omega, rfl, by simp, fun m hm => ?_, hf, fun W h _ => h⟩
    rw [hc m hm]
    simp only [revAt, show ¬ (m < 0 ∨ n - 0 ≤ m) by omega, if_false]
  case round =>
    obtain ⟨k, hk, rfl, rfl, hcr, hfr, her⟩ := hrel
    clear hc hf
    by_cases hlt : (k : Int) < (n : Int) - 1 - k
    · have t1 : ((n : Int) - 1 - k).toNat = n - 1 - k := by omega
      have a1 := hcr k (by omega)
      have a2 := hcr (n - 1 - k) (by omega)
      have f1 := hfr k (by omega)
      have f2 := hfr (n - 1 - k) (by omega)
      obtain ⟨x, hx⟩ : ∃ x, revAt l n k k = x := ⟨_, rfl⟩
      obtain ⟨y, hy⟩ : ∃ y, revAt l n k (n - 1 - k) = y := ⟨_, rfl⟩
      rw [hx] at a1
      rw [hy] at a2
      have HC := Lib.hid hcr
      have HF := Lib.hid hfr
      have HX := Lib.hid hx
      have HY := Lib.hid hy
      have HE := Lib.hid her
      clear hcr hfr hx hy her
      have hne : ¬ k = n - 1 - k := by omega
      go_wp2
      go_region
      go_wp2
      go_roundw
      case rel =>
        have c1 : ∀ m, m < n → ((wr.setCell ⟨g, k, none⟩ (.int .u8 (y.toNat : Int))).setCell ⟨g, n - 1 - k, none⟩ (.int .u8 (x.toNat : Int))).cell? ⟨g, m, none⟩ = some (.int .u8 ((revAt l n (k + 1) m).toNat : Int)) := by
          intro m hm
          have hy := HY.out
          have hx := HX.out
          have hcm := HC.out m hm
          unfold revAt at hy hx hcm ⊢
          by_cases e1 : m = n - 1 - k
          · subst e1
            rw [if_pos (by omega), show n - 1 - (n - 1 - k) = k by omega]
            rw [if_neg (by omega)] at hx
            rw [World.cell?_setCell_same _ _ _ ((World.cell?_setCell_other _ _ _ _ (ne_off (by omega))).trans a2), hx]
          · rw [World.cell?_setCell_other _ _ _ _ (ne_off (by omega))]
            by_cases e2 : m = k
            · subst e2
              rw [if_pos (by omega)]
              rw [if_neg (by omega)] at hy
              rw [World.cell?_setCell_same _ _ _ a1, hy]
            · rw [World.cell?_setCell_other _ _ _ _ (ne_off (by omega)), hcm]
              by_cases e3 : m < k ∨ n - k ≤ m
              · rw [if_pos e3, if_pos (by omega)]
              · rw [if_neg e3, if_neg (by omega)]
        refine ⟨k + 1, by omega, by go_num, by go_num, c1, fun m hm => ?_, fun W h h2 => ?_⟩
        · simpa using HF.out m hm
        · exact (((HE.out W h h2).setCell h2 _).setCell h2 _).drew
      case measure => simp [intOf]; omega
    · go_wp2
      go_end0
      refine ⟨rfl, fun m hm => ?_, her⟩
      rw [hcr m hm]
      unfold revAt
      by_cases e : m < k ∨ n - k ≤ m
      · rw [if_pos e]
      · rw [if_neg e, show n - 1 - m = m by omega]

theorem rev_at (l : List UInt8) (n : Nat) (hl : l.length = n) (j : Nat) (hj : j < l.reverse.length) : l.reverse[j] = l.getD (n - 1 - j) 0 := by
  subst hl
  rw [List.length_reverse] at hj
  rw [List.getElem_reverse, List.getD_eq_getElem?_getD, List.getElem?_eq_getElem (by omega)]
  rfl
def mirC (l : List UInt8) : List UInt8 := if validC l then l.reverse else []
/-- a text and a code are handed back -/
def RetSC (l : List UInt8) (c : Int) (w : World) (e : Ending) (w' : World) : Prop := e = .returned (.tuple #[.string (mkS l), .int .i64 c]) ∧ Ext w w'
theorem RetSC.mk {s : ByteArray} {l : List UInt8} {c c' : Int} {w w' : World} (h : s = mkS l) (hc : c' = c) (e : Ext w w') : RetSC l c w (.returned (.tuple #[.string s, .int .i64 c'])) w' := ⟨by rw [h, hc], e⟩
theorem bytesRow_at (s : ByteArray) (cap m : Nat) (hm : m < s.size) : (bytesRow s cap)[m]? = some (.int .u8 (((bts s).getD m 0).toNat : Int)) := by
  unfold bytesRow bts
  rw [Array.getElem?_append_left (by simpa using hm)]
  simp [List.getD_eq_getElem?_getD, hm]
set_option maxHeartbeats 400000 in
theorem i_MirrorCourse (s : ByteArray) (hs : s.size ≤ 9223372036854775807) (w : World) : Calls Tryd.prog 25 #[.string s] w (RetSC (mirC (bts s)) (sel (validC (bts s)) 0 1) w) := by
  by_cases g : validC (bts s) = true
  · have ⟨h1, h2, _, _⟩ := validC_bd g
    rw [bts_length] at h1 h2
    have eL : Hid (mirC (bts s) = (bts s).reverse) := if_pos g
    have eC : Hid (sel (validC (bts s)) 0 1 = 0) := sel_t g _ _
    have hcv := fun w => run_bytes_of_string (P := Tryd.prog) w 9 38 5 s Tryd.underlying9 Tryd.underlying38 Tryd.underlying5
    go_enter Tryd.func25, Tryd.ntmps25
    go_wp2_with (go_at_call 44; refine (i_ValidCourse _ hs _).mono ?_; rw [g]; rintro e w' ⟨rfl, rfl⟩)
    clear hcv
    refine (f_Reverse_u8 w.heap.size s.size _ (bts s) _ (by omega) (fun m hm => ?_) (fun m hm => ?_)).mono ?_
    · rw [← bytesRow_at s (grownCap w s.size 0 5) m hm]
      exact World.cell?_alloc_mark w.drew _ _ _ m
    · have hsz : s.size ≤ (bytesRow s (grownCap w s.size 0 5)).size := by unfold bytesRow; simp
      have hb : (w.drew.alloc (.cells (bytesRow s (grownCap w s.size 0 5)) 5 ((bytesRow s (grownCap w s.size 0 5)).size, (bytesRow s (grownCap w s.size 0 5)).size + 1))).heap[w.heap.size]? = some (.cells (bytesRow s (grownCap w s.size 0 5)) 5 ((bytesRow s (grownCap w s.size 0 5)).size, (bytesRow s (grownCap w s.size 0 5)).size + 1)) := heap_alloc_new w.drew _
      have hfz : ∀ X : World, X.heap[w.heap.size]? = some (.cells (bytesRow s (grownCap w s.size 0 5)) 5 ((bytesRow s (grownCap w s.size 0 5)).size, (bytesRow s (grownCap w s.size 0 5)).size + 1)) → X.frozen? ⟨w.heap.size, m, none⟩ = false := by
        intro X hX
        simp only [World.frozen?, hX]
        simp; omega
      exact hfz _ hb
    · rintro e w1 ⟨rfl, hcell, hext⟩
      have e1 : Ext w w1 := hext w (((Ext.refl w).drew).alloc _) (Nat.le_refl _)
      have hl : (bts s).reverse.length = s.size := by rw [List.length_reverse, bts_length]
      have hback := run_convert_bytes_back (P := Tryd.prog) w1 38 9 5 ⟨w.heap.size, 0, none⟩ (grownCap w s.size 0 5) (bts s).reverse Tryd.underlying38 Tryd.underlying5 Tryd.underlying9 (by
        intro j hj
        rw [hl] at hj
        rw [Addr.add_lit, Nat.zero_add, hcell j hj, rev_at (bts s) s.size (bts_length s)])
      rw [hl] at hback
      clear hcell hext hl
      go_wp2
      go_ret2
      exact RetSC.mk (by rw [eL.out]; rfl) eC.out.symm e1
  · have eL : Hid (mirC (bts s) = []) := if_neg g
    have eC : Hid (sel (validC (bts s)) 0 1 = 1) := sel_f g _ _
    rw [Bool.not_eq_true] at g
    go_enter Tryd.func25, Tryd.ntmps25
    go_wp2_with (go_at_call 44; refine (i_ValidCourse _ hs _).mono ?_; rw [g]; rintro e w' ⟨rfl, rfl⟩)
    go_ret2
    exact RetSC.mk (by rw [eL.out]; rfl) eC.out.symm (Ext.refl _)
end Go.Proofs.YtaokeaiehjgbnaaDoor
