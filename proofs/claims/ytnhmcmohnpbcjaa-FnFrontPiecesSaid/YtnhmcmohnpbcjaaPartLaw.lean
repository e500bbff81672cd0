/- The laws' helpers over parts, and the marks on openings. -/
import Derived.Test.YtnhmcmohnpbcjaaGaFn
import Derived.Test.YtnhmcmohnpbcjaaGaFl
import Derived.Test.YtnhmcmohnpbcjaaCls
import Derived.Test.YtnhmcmohnpbcjaaGaStrs
namespace Go.Proofs.Ytnhmcmohnpbcjaa
open Go.RowKit
set_option linter.unusedSimpArgs false
set_option linter.unusedVariables false
set_option linter.unnecessarySimpa false

/-- The slice of n parts at ao reads, in w, as ps. -/
def PartsAt (w : World) (ao : Option Addr) (n : Nat) (ps : List (Int × Int)) : Prop := ps.length = n ∧ ∀ k, k < n → ∃ g, ao = some ⟨g, 0, none⟩ ∧ w.cell? ⟨g, k * 2, none⟩ = some (.int .i64 (ps.getD k (0, 0)).1) ∧ w.cell? ⟨g, k * 2 + 1, none⟩ = some (.int .i64 (ps.getD k (0, 0)).2)
theorem PartsAt.ext {w w' : World} {ao : Option Addr} {n : Nat} {ps : List (Int × Int)} (h : PartsAt w ao n ps) (e : Ext w w') : PartsAt w' ao n ps := ⟨h.1, fun k hk => let ⟨g, h1, h2, h3⟩ := h.2 k hk; ⟨g, h1, e.cell h2, e.cell h3⟩⟩
theorem OwnParts.parts {w : World} {base n c : Nat} {ao : Option Addr} {ps : List (Int × Int)} (h : OwnParts w base (.slice ao n c) ps) : PartsAt w ao n ps := ⟨h.len, fun k hk => h.at hk⟩
theorem OwnParts.blk {w : World} {base n c : Nat} {ao : Option Addr} {ps : List (Int × Int)} (h : OwnParts w base (.slice ao n c) ps) : ∀ k, (Value.slice ao n c).ownBlock = some k → base ≤ k ∧ k < w.heap.size := World.ownsRow.lt h
theorem OwnParts.apart {w w' : World} {base : Nat} {v : Value} {ps : List (Int × Int)} {row : Option Nat} (h : OwnParts w base v ps) (hg : w.grownBy w' row) (hne : ∀ k k', v.ownBlock = some k → row = some k' → k ≠ k') : OwnParts w' base v ps := by
  refine World.ownsRow.kept h hg ?_
  cases hv : v.ownBlock with
  | none => exact .inl rfl
  | some k =>
    right
    cases hr : row with
    | none => simp
    | some k' => exact fun e => hne k k' hv hr (Option.some.inj e)
def mkP (k : Int) (n : Nat) : List (Int × Int) := (List.range n).map fun (i : Nat) => (k + 2 * (i : Int), k + 2 * (i : Int) + 1)
theorem mkP_len (k : Int) (n : Nat) : (mkP k n).length = n := by simp [mkP]
theorem mkP_at (k : Int) (n i : Nat) (h : i < n) : (mkP k n).getD i (0, 0) = (k + 2 * i, k + 2 * i + 1) := by
  rw [List.getD_eq_getElem?_getD, mkP, List.getElem?_map, List.getElem?_range h]; rfl
theorem mkP_succ (k : Int) (n : Nat) : mkP k (n + 1) = mkP k n ++ [(k + 2 * n, k + 2 * n + 1)] := by simp [mkP, List.range_succ]
theorem mkP_set (k : Int) (ps : List (Int × Int)) (j : Nat) (hj : j < ps.length) : ((mkP k j ++ ps.drop j).map partC).set j (partC (k + 2 * j, k + 2 * j + 1)) = (mkP k (j + 1) ++ ps.drop (j + 1)).map partC := by
  rw [← List.map_set, List.set_append_right _ _ (by rw [mkP_len]; omega), mkP_len, Nat.sub_self, List.drop_eq_getElem_cons hj, List.set_cons_zero, mkP_succ, List.append_assoc]
  rfl
theorem OwnRecs.parts {w : World} {base : Nat} {v : Value} {ps : List (Int × Int)} (h : OwnRecs 51 2 w base v (ps.map partC)) : OwnParts w base v ps := by
  have := h.1
  rwa [List.length_map, ← List.flatMap_def] at this
theorem OwnOpens.recs {w : World} {base : Nat} {v : Value} {os : List Opn} (h : OwnOpens w base v os) : OwnRecs 34 4 w base v (os.map opnC) := by
  refine ⟨?_, fun r hr => by obtain ⟨o, _, rfl⟩ := List.mem_map.1 hr; rfl⟩
  rw [List.length_map, ← List.flatMap_def]
  exact h.1
theorem four_list {l : List Value} (h : l.length = 4) : ∃ a b c d, l = [a, b, c, d] := by
  match l, h with
  | [a, b, c, d], _ => exact ⟨a, b, c, d, rfl⟩
def RetMarkO (v : Value) (k : Int) (n : Nat) (w : World) (e : Ending) (w' : World) : Prop := e = .returned (.int .i64 (k + 4 * n)) ∧ w.grownBy w' v.ownBlock
set_option maxHeartbeats 1600000 in
theorem l_markOpeningS (base : Nat) (ao : Option Addr) (n c : Nat) (k : Int) (rs : List (List Value)) (w : World) (hx : OwnRecs 34 4 w base (.slice ao n c) rs) (hn : n ≤ 10000000) (k1 : 0 ≤ k) (k2 : k ≤ 1000000000) :
    Calls Try.prog 61 #[.slice ao n c, .int .i64 k] w (RetMarkO (.slice ao n c) k n w) := by
  have HX := Lib.hid hx
  clear hx
  go_enter Try.func61, Try.ntmps61
  go_wp2
  go_loopw [1, 5] (fun q i wr => ∃ (j : Nat) (rs : List (List Value)), j ≤ n ∧ i = .int .i64 j ∧ q = .int .i64 (k + 4 * j) ∧ Hid (OwnRecs 34 4 wr base (.slice ao n c) rs) ∧ Hid (w.grownBy wr (Value.slice ao n c).ownBlock)) (fun _ i _ => n - (intOf i).toNat)
  case atStart => exact ⟨0, rs, Nat.zero_le _, rfl, by simp, HX, Lib.hid (World.grownBy.refl _ _)⟩
  case round =>
    obtain ⟨j, rs, hj, rfl, rfl, HO, HG⟩ := hrel
    by_cases hlt : j < n
    · obtain ⟨g, rfl⟩ : ∃ g, ao = some ⟨g, 0, none⟩ := by
        rcases HO.out.1.2 with ⟨h, _⟩ | ⟨g, cap, cur, h, _⟩
        · simp at h; omega
        · simp at h; exact ⟨g, h.1⟩
      have hl := HO.out.len
      obtain ⟨a, b, d, e, hr⟩ := four_list (flat_split rs HO.out.2 j (by omega)).2.2
      obtain ⟨r0, f0⟩ := HO.out.reads j 0 hlt (by omega) a (by rw [hr]; rfl)
      obtain ⟨r1, f1⟩ := HO.out.reads j 1 hlt (by omega) b (by rw [hr]; rfl)
      obtain ⟨r2, f2⟩ := HO.out.reads j 2 hlt (by omega) d (by rw [hr]; rfl)
      obtain ⟨r3, f3⟩ := HO.out.reads j 3 hlt (by omega) e (by rw [hr]; rfl)
      rw [Nat.add_zero] at r0 f0
      have h0 := HO.out.put j 0 hlt (by omega) (.int .i64 (k + 4 * j))
      rw [Nat.add_zero] at h0
      have h1 := h0.put j 1 hlt (by omega) (.int .i64 (k + 4 * j + 1))
      have h2 := h1.put j 2 hlt (by omega) (.int .i64 (k + 4 * j + 1 + 1))
      have h3 := h2.put j 3 hlt (by omega) (.int .i64 (k + 4 * j + 1 + 1 + 1))
      have HP := Lib.hid h3
      have HGG : Hid (w.grownBy ((((wr.setCell ⟨g, j * 4, none⟩ (.int .i64 (k + 4 * j))).setCell ⟨g, j * 4 + 1, none⟩ (.int .i64 (k + 4 * j + 1))).setCell ⟨g, j * 4 + 2, none⟩ (.int .i64 (k + 4 * j + 1 + 1))).setCell ⟨g, j * 4 + 3, none⟩ (.int .i64 (k + 4 * j + 1 + 1 + 1))) (some g)) := Lib.hid (grown_set_by (grown_set_by (grown_set_by (grown_set_by HG.out _) _) _) _)
      clear hr hl h0 h1 h2 h3
      go_wp2
      go_roundw
      case rel => first | exact ⟨j + 1, _, by omega, by go_num, by go_num, HP, HGG⟩ | ((repeat apply Exists.intro); exact ⟨⟨j + 1, _, by omega, by go_num, by go_num, HP, HGG⟩, rfl⟩)
      case measure => (simp [intOf] <;> omega)
    · obtain rfl : j = n := by omega
      go_wp2
      go_ret
      exact ⟨rfl, HG.out⟩
theorem l_markFront (base : Nat) (L C : Int) (ao : Option Addr) (n c : Nat) (k : Int) (os : List Opn) (w : World) (hx : OwnOpens w base (.slice ao n c) os) (hn : n ≤ 10000000) (k1 : 0 ≤ k) (k2 : k ≤ 1000000000) :
    Calls Try.prog 16 #[.agg #[.int .i64 L, .int .i64 C, .slice ao n c], .int .i64 k] w (RetMarkO (.slice ao n c) k n w) := by
  have e1 : Ext w (w.alloc (.cells #[.int .i64 L, .int .i64 C, .slice ao n c] 30)) := (Ext.refl w).alloc _
  have HG : Hid (∀ w' row, (w.alloc (.cells #[.int .i64 L, .int .i64 C, .slice ao n c] 30)).grownBy w' row → w.grownBy w' row) := Lib.hid (fun w' row h => ⟨h.os, h.tape, h.output, by have := h.size; simp at this; omega, fun i hi hne => by rw [h.block i (by simp; omega) hne, Below.heap_alloc w _ i hi]⟩)
  have HM := Lib.hid (l_markOpeningS base ao n c k _ _ (hx.ext e1).recs hn k1 k2)
  clear hx e1
  go_enter Try.func16, Try.ntmps16
  go_wp2_with (go_at_call 61; refine HM.out.mono ?_; rintro e w1 ⟨rfl, g1⟩; have HG1 := Lib.hid g1; clear g1)
  go_ret
  exact ⟨rfl, HG.out _ _ HG1.out⟩
end Go.Proofs.Ytnhmcmohnpbcjaa
