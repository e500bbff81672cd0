/- Contracts of small functions over slices of integers: a search by a closure, 'outside', 'rises'. -/
import Derived.Test.YtaokeaiehjgbnaaGreatDoorLawInts
import Derived.Test.YtaokeaiehjgbnaaGreatDoorGauge
import Derived.Shelf.Abstract
namespace Go.Proofs.YtaokeaiehjgbnaaGreatDoor
open Go.RowKit
set_option linter.unusedSimpArgs false
set_option linter.unusedVariables false
set_option linter.unnecessarySimpa false

theorem i_outside_1 (x a b : Int) (p q : Addr) (w : World) (hp : w.cell? p = some (.int .i64 a)) (hq : w.cell? q = some (.int .i64 b)) :
    Calls Tryz.prog 75 #[.int .i64 x, .pointer (some p), .pointer (some q)] w (RetV (.bool (!inB x a b)) w) := by
  go_enter Tryz.func75, Tryz.ntmps75
  go_wp2_with (go_at_call 54; refine (i_within _ _ _ _).mono ?_; rintro e w' ⟨rfl, rfl⟩)
  go_ret
  exact RetV.mk rfl
theorem f_IndexFunc_i64 (F : Nat) (caps : Array Value) (p : Int → Bool) (ao : Option Addr) (n c : Nat) (xs : List Int) (w : World) (hx : Ints w ao n xs)
    (eg : ∀ args w', (callFunc F args).run Tryz.prog w' = .ok (.enter F args) w')
    (hp : ∀ x w', Ext w w' → Calls Tryz.prog F (#[.int .i64 x] ++ caps) w' (RetE (.bool (p x)) w')) :
    Calls Tryz.prog 87 #[.slice ao n c, .func (.func F) #[] caps] w (fun e w' => (∃ i : Int, e = .returned (.int .i64 i) ∧ (decide (0 ≤ i)) = xs.any p) ∧ Ext w w') := by
  obtain ⟨hxl, hxm, hxc, hxi⟩ := hx
  go_enter Tryz.func87, Tryz.ntmps87
  go_wp2
  go_loopw [8] (fun i wr => ∃ k : Nat, k ≤ n ∧ i = .int .i64 k ∧ (xs.take k).any p = false ∧ Ext w wr) (fun i _ => n - (intOf i).toNat)
  case atStart => exact ⟨0, Nat.zero_le _, rfl, by simp, Ext.refl _⟩
  case round =>
    obtain ⟨k, hk, rfl, htk, er⟩ := hrel
    have HT := Lib.hid htk; clear htk
    by_cases hlt : k < n
    · obtain ⟨b, off, rfl, hc⟩ := hxc k hlt
      obtain ⟨x, hxk⟩ : ∃ x, xs.getD k 0 = x := ⟨_, rfl⟩
      have g1 := er.cell hc
      rw [hxk] at g1
      have hkx : k < xs.length := by omega
      rw [List.getD_eq_getElem?_getD, List.getElem?_eq_getElem hkx, Option.getD_some] at hxk
      have HX := Lib.hid hxk
      clear hc hxc hxk
      have HP := Lib.hid hp; clear hp
      by_cases hpx : p x = true
      · go_wp2_with (refine (HP.out x _ er).mono ?_; rw [hpx]; rintro e w1 ⟨rfl, e1⟩)
        go_ret
        refine ⟨⟨k, rfl, ?_⟩, er.trans e1⟩
        rw [show decide ((0 : Int) ≤ (k : Int)) = true from by simp, eq_comm, List.any_eq_true]
        exact ⟨x, by rw [← HX.out]; exact List.getElem_mem _, hpx⟩
      · rw [Bool.not_eq_true] at hpx
        go_wp2_with (refine (HP.out x _ er).mono ?_; rw [hpx]; rintro e w1 ⟨rfl, e1⟩)
        go_roundw
        case rel =>
          refine ⟨k + 1, by omega, by go_num, ?_, er.trans e1⟩
          rw [List.take_succ_eq_append_getElem hkx, List.any_append, HT.out, HX.out]
          simp [hpx]
        case measure => simp [intOf]; omega
    · go_wp2
      go_ret
      refine ⟨⟨-1, rfl, ?_⟩, er⟩
      have h := HT.out
      rw [List.take_of_length_le (by omega)] at h
      rw [h]; rfl
theorem f_ContainsFunc_i64 (F : Nat) (caps : Array Value) (p : Int → Bool) (ao : Option Addr) (n c : Nat) (xs : List Int) (w : World) (hx : Ints w ao n xs)
    (eg : ∀ args w', (callFunc F args).run Tryz.prog w' = .ok (.enter F args) w')
    (hp : ∀ x w', Ext w w' → Calls Tryz.prog F (#[.int .i64 x] ++ caps) w' (RetE (.bool (p x)) w')) :
    Calls Tryz.prog 74 #[.slice ao n c, .func (.func F) #[] caps] w (RetE (.bool (xs.any p)) w) := by
  have HI := Lib.hid (f_IndexFunc_i64 F caps p ao n c xs w hx eg hp)
  clear hp
  go_enter Tryz.func74, Tryz.ntmps74
  go_wp2_with (go_at_call 87; refine HI.out.mono ?_; rintro e w1 ⟨⟨i, rfl, hi⟩, e1⟩; have HJ := Lib.hid hi; clear hi)
  go_ret
  exact RetE.mk (bool_eq HJ.out) e1
theorem enters_outside1 : ∀ args w, (callFunc 75 args).run Tryz.prog w = .ok (.enter 75 args) w := enters_of Tryz.func75 (by kernel_rfl) rfl
theorem i_outside (ao : Option Addr) (n c : Nat) (a b : Int) (xs : List Int) (w : World) (hx : Ints w ao n xs) :
    Calls Tryz.prog 55 #[.slice ao n c, .int .i64 a, .int .i64 b] w (RetE (.bool (xs.any fun x => !inB x a b)) w) := by
  have e2 : Ext w ((w.alloc (.cells #[.int .i64 a] 2)).alloc (.cells #[.int .i64 b] 2)) := ((Ext.refl w).alloc _).alloc _
  go_enter Tryz.func55, Tryz.ntmps55
  go_wp2_with (go_at_call 74; refine (f_ContainsFunc_i64 75 _ (fun x => !inB x a b) ao n c xs _ (hx.ext e2) enters_outside1 ?_).mono ?_)
  · intro x w' e3
    refine (i_outside_1 x a b _ _ w' (e3.cell (by simp)) (e3.cell (by simp))).mono ?_
    rintro e w1 ⟨rfl, rfl⟩
    exact ⟨rfl, Ext.refl _⟩
  · rintro e w1 ⟨rfl, e1⟩
    go_wp2
    go_ret
    exact RetE.mk rfl (e2.trans e1)

/-- the first k numbers lie within bounds and rise -/
def risB (lo hi : Int) (xs : List Int) : Nat → Bool
  | 0 => true
  | k + 1 => risB lo hi xs k && (inB (xs.getD k 0) lo hi && (k == 0 || decide (xs.getD (k - 1) 0 < xs.getD k 0)))
/-- each of the first k numbers but the first is more than the one before it -/
def incB (xs : List Int) : Nat → Bool
  | 0 => true
  | k + 1 => incB xs k && (k == 0 || decide (xs.getD (k - 1) 0 < xs.getD k 0))
theorem risB_split (lo hi : Int) (xs : List Int) (k : Nat) (hk : k ≤ xs.length) : risB lo hi xs k = (!((xs.take k).any fun x => !inB x lo hi) && incB xs k) := by
  induction k with
  | zero => simp [risB, incB]
  | succ k ih =>
    rw [List.take_succ_eq_append_getElem (by omega), List.any_append, risB, incB, ih (by omega)]
    have : xs.getD k 0 = xs[k] := by simp [List.getD_eq_getElem?_getD, List.getElem?_eq_getElem (show k < xs.length by omega)]
    rw [this]
    cases h1 : (xs.take k).any (fun x => !inB x lo hi) <;> cases h2 : incB xs k <;> cases h3 : inB xs[k] lo hi <;> simp [h3]
theorem risB_le (lo hi : Int) (xs : List Int) {j k : Nat} (h : risB lo hi xs k = true) (hj : j ≤ k) : risB lo hi xs j = true := by
  induction k with
  | zero => obtain rfl : j = 0 := by omega
            exact h
  | succ k ih =>
    by_cases e : j = k + 1
    · subst e; exact h
    · simp only [risB, Bool.and_eq_true] at h
      exact ih h.1 (by omega)
theorem incB_le (xs : List Int) {j k : Nat} (h : incB xs k = true) (hj : j ≤ k) : incB xs j = true := by
  induction k with
  | zero => obtain rfl : j = 0 := by omega
            exact h
  | succ k ih =>
    by_cases e : j = k + 1
    · subst e; exact h
    · simp only [incB, Bool.and_eq_true] at h
      exact ih h.1 (by omega)
end Go.Proofs.YtaokeaiehjgbnaaGreatDoor
