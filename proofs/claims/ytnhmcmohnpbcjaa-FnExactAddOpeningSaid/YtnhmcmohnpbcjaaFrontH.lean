/- Contracts: a front is marked, and the marks are looked for. -/
import Derived.Test.YtnhmcmohnpbcjaaSortO
namespace Go.Proofs.Ytnhmcmohnpbcjaa
open Go.RowKit
set_option linter.unusedSimpArgs false
set_option linter.unusedVariables false
set_option linter.unnecessarySimpa false

/-- n openings whose numbers are k, k + 1, .. -/
def mkOp (k : Int) (i : Nat) : Opn := ⟨k + 4 * i, k + 4 * i + 1, k + 4 * i + 1 + 1, k + 4 * i + 1 + 1 + 1⟩
def mkO (k : Int) (n : Nat) : List Opn := (List.range n).map (mkOp k)
theorem mkO_len (k : Int) (n : Nat) : (mkO k n).length = n := by simp [mkO]
theorem mkO_at (k : Int) (n i : Nat) (h : i < n) : (mkO k n).getD i default = mkOp k i := by
  rw [List.getD_eq_getElem?_getD, mkO, List.getElem?_map, List.getElem?_range h]; rfl
theorem mkO_succ (k : Int) (n : Nat) : mkO k (n + 1) = mkO k n ++ [mkOp k n] := by simp [mkO, List.range_succ]
theorem mkO_set (k : Int) (os : List Opn) (j : Nat) (hj : j < os.length) : (mkO k j ++ os.drop j).set j (mkOp k j) = mkO k (j + 1) ++ os.drop (j + 1) := by
  rw [List.set_append_right _ _ (by rw [mkO_len]; omega), mkO_len, Nat.sub_self, List.drop_eq_getElem_cons hj, List.set_cons_zero, mkO_succ, List.append_assoc]
  rfl
theorem mkOp_ok {k : Int} {i : Nat} (h1 : 0 ≤ k) (h2 : k ≤ 1000000000) (h3 : i ≤ 10000000) : (mkOp k i).ok := by
  unfold mkOp Opn.ok IsI64
  dsimp only
  omega
theorem OwnOpens.apart {w w' : World} {base : Nat} {v : Value} {os : List Opn} {row : Option Nat} (h : OwnOpens w base v os) (hg : w.grownBy w' row) (hne : ∀ k k', v.ownBlock = some k → row = some k' → k ≠ k') : OwnOpens w' base v os := by
  refine ⟨World.ownsRow.kept h.1 hg ?_, h.2⟩
  cases hv : v.ownBlock with
  | none => exact .inl rfl
  | some k =>
    right
    cases hr : row with
    | none => simp
    | some k' => exact fun e => hne k k' hv hr (Option.some.inj e)
def RetMarkOs (base : Nat) (v : Value) (k : Int) (n : Nat) (w : World) (e : Ending) (w' : World) : Prop := e = .returned (.int .i64 (k + 4 * n)) ∧ OwnOpens w' base v (mkO k n) ∧ w.grownBy w' v.ownBlock
set_option maxHeartbeats 1600000 in
theorem l_markOpens (base : Nat) (ao : Option Addr) (n c : Nat) (k : Int) (os : List Opn) (w : World) (hx : OwnOpens w base (.slice ao n c) os) (hn : n ≤ 10000000) (k1 : 0 ≤ k) (k2 : k ≤ 1000000000) :
    Calls Try.prog 61 #[.slice ao n c, .int .i64 k] w (RetMarkOs base (.slice ao n c) k n w) := by
  have HL : Hid (os.length = n) := Lib.hid (by have := hx.recs4.len; rwa [List.length_map] at this)
  have HX := Lib.hid hx
  clear hx
  go_enter Try.func61, Try.ntmps61
  go_wp2
  go_loopw [1, 5] (fun q i wr => ∃ j : Nat, j ≤ n ∧ i = .int .i64 j ∧ q = .int .i64 (k + 4 * j) ∧ Hid (OwnOpens wr base (.slice ao n c) (mkO k j ++ os.drop j)) ∧ Hid (w.grownBy wr (Value.slice ao n c).ownBlock)) (fun _ i _ => n - (intOf i).toNat)
  case atStart => exact ⟨0, Nat.zero_le _, rfl, by simp, Lib.hid (by simpa [mkO] using HX.out), Lib.hid (World.grownBy.refl _ _)⟩
  case round =>
    obtain ⟨j, hj, rfl, rfl, HO, HG⟩ := hrel
    by_cases hlt : j < n
    · obtain ⟨g, rfl⟩ : ∃ g, ao = some ⟨g, 0, none⟩ := by
        rcases HO.out.1.2 with ⟨h, _⟩ | ⟨g, cap, cur, h, _⟩
        · simp at h; omega
        · simp at h; exact ⟨g, h.1⟩
      obtain ⟨⟨r0, r1, r2, r3⟩, f0, f1, f2, f3⟩ := HO.out.read4 j hlt
      have h3 := HO.out.put4 j hlt (mkOp k j) (mkOp_ok k1 k2 (by omega))
      rw [mkO_set k os j (by have := HL.out; omega)] at h3
      have HP := Lib.hid h3
      have HGG : Hid (w.grownBy ((((wr.setCell ⟨g, j * 4, none⟩ (.int .i64 (k + 4 * j))).setCell ⟨g, j * 4 + 1, none⟩ (.int .i64 (k + 4 * j + 1))).setCell ⟨g, j * 4 + 2, none⟩ (.int .i64 (k + 4 * j + 1 + 1))).setCell ⟨g, j * 4 + 3, none⟩ (.int .i64 (k + 4 * j + 1 + 1 + 1))) (some g)) := Lib.hid (grown_set_by (grown_set_by (grown_set_by (grown_set_by HG.out _) _) _) _)
      clear h3
      go_wp2
      go_roundw
      case rel => first | exact ⟨j + 1, by omega, by go_num, by go_num, HP, HGG⟩ | ((repeat apply Exists.intro); exact ⟨⟨j + 1, by omega, by go_num, by go_num, HP, HGG⟩, rfl⟩)
      case measure => (simp [intOf] <;> omega)
    · obtain rfl : j = n := by omega
      have HF : Hid (OwnOpens wr base (.slice ao j c) (mkO k j)) := Lib.hid (by
        have h := HO.out
        rwa [List.drop_of_length_le (by have := HL.out; omega), List.append_nil] at h)
      go_wp2
      go_ret
      exact ⟨rfl, HF.out, HG.out⟩
theorem l_markFrontS (base : Nat) (L C : Int) (ao : Option Addr) (n c : Nat) (k : Int) (os : List Opn) (w : World) (hx : OwnOpens w base (.slice ao n c) os) (hn : n ≤ 10000000) (k1 : 0 ≤ k) (k2 : k ≤ 1000000000) :
    Calls Try.prog 16 #[.agg #[.int .i64 L, .int .i64 C, .slice ao n c], .int .i64 k] w (RetMarkOs base (.slice ao n c) k n w) := by
  have e1 : Ext w (w.alloc (.cells #[.int .i64 L, .int .i64 C, .slice ao n c] 30)) := (Ext.refl w).alloc _
  have HG : Hid (∀ w' row, (w.alloc (.cells #[.int .i64 L, .int .i64 C, .slice ao n c] 30)).grownBy w' row → w.grownBy w' row) := Lib.hid (fun w' row h => ⟨h.os, h.tape, h.output, by have := h.size; simp at this; omega, fun i hi hne => by rw [h.block i (by simp; omega) hne, Below.heap_alloc w _ i hi]⟩)
  have HM := Lib.hid (l_markOpens base ao n c k os _ (hx.ext e1) hn k1 k2)
  clear hx e1
  go_enter Try.func16, Try.ntmps16
  go_wp2_with (go_at_call 61; refine HM.out.mono ?_; rintro e w1 ⟨rfl, o1, g1⟩; have HG1 := Lib.hid g1; have HO1 := Lib.hid o1; clear g1 o1)
  go_ret
  exact ⟨rfl, HO1.out, HG.out _ _ HG1.out⟩
set_option maxHeartbeats 1600000 in
theorem l_heldOpeningS (ao : Option Addr) (n c : Nat) (k : Int) (w : World) (hx : Opens w ao n (mkO k n)) (hn : n ≤ 10000000) (k1 : 0 ≤ k) (k2 : k ≤ 1000000000) :
    Calls Try.prog 62 #[.slice ao n c, .int .i64 k] w (RetV (.int .i64 (k + 4 * n)) w) := by
  have HX := Lib.hid hx
  clear hx
  go_enter Try.func62, Try.ntmps62
  go_wp2
  go_loop [1, 5] (fun q i => ∃ j : Nat, j ≤ n ∧ i = .int .i64 j ∧ q = .int .i64 (k + 4 * j)) (fun _ i => n - (intOf i).toNat)
  case atStart => exact ⟨0, Nat.zero_le _, rfl, by simp⟩
  case round =>
    obtain ⟨j, hj, rfl, rfl⟩ := hrel
    by_cases hlt : j < n
    · obtain ⟨b, off, rfl, c0, c1, c2, c3⟩ := HX.out.2.2.1 j hlt
      rw [mkO_at k n j hlt] at c0 c1 c2 c3
      simp only [mkOp] at c0 c1 c2 c3
      have t1 : ((k + 4 * (j : Int)) != (k + 4 * (j : Int))) = false := by simp
      have t2 : ((k + 4 * (j : Int) + 1) != (k + 4 * (j : Int) + 1)) = false := by simp
      have t3 : ((k + 4 * (j : Int) + 1 + 1) != (k + 4 * (j : Int) + 1 + 1)) = false := by simp
      have t4 : ((k + 4 * (j : Int) + 1 + 1 + 1) != (k + 4 * (j : Int) + 1 + 1 + 1)) = false := by simp
      go_wp2
      go_round
      case rel => exact ⟨j + 1, by omega, by go_num, by go_num⟩
      case measure => (simp [intOf] <;> omega)
    · obtain rfl : j = n := by omega
      go_wp2
      go_ret
      exact RetV.mk rfl
theorem l_heldFront (L C : Int) (ao : Option Addr) (n c : Nat) (k : Int) (w : World) (hx : Opens w ao n (mkO k n)) (hn : n ≤ 10000000) (k1 : 0 ≤ k) (k2 : k ≤ 1000000000) :
    Calls Try.prog 17 #[.agg #[.int .i64 L, .int .i64 C, .slice ao n c], .int .i64 k] w (RetE (.int .i64 (k + 4 * n)) w) := by
  have HE : Hid (Ext w (w.alloc (.cells #[.int .i64 L, .int .i64 C, .slice ao n c] 30))) := Lib.hid ((Ext.refl w).alloc _)
  have HM := Lib.hid (l_heldOpeningS ao n c k _ (hx.ext HE.out) hn k1 k2)
  clear hx
  go_enter Try.func17, Try.ntmps17
  go_wp2_with (go_at_call 62; refine HM.out.mono ?_; rintro e w1 ⟨rfl, rfl⟩)
  go_ret
  exact RetE.mk rfl HE.out
end Go.Proofs.Ytnhmcmohnpbcjaa
