/- A group of texts, one behind the other: A2At, A2. -/
import Derived.Test.YtnhmcmohnpbcjaaGaSrc
import Derived.Test.YtnhmcmohnpbcjaaGaDraw
/- Contracts: too many bytes; a number that depends on some bytes. -/
namespace Go.Proofs.Ytnhmcmohnpbcjaa
open Go.RowKit
set_option linter.unusedSimpArgs false
set_option linter.unusedVariables false
set_option linter.unnecessarySimpa false

/-- there are too many bytes -/
def longB (n m : Nat) : Bool := decide (3000 < n) || decide (3000 < m)
theorem l_a2Long (ao bo : Option Addr) (n m c d : Nat) (w : World) (hn : n ≤ 9223372036854775807) (hm : m ≤ 9223372036854775807) : Calls Try.prog 18 #[.slice ao n c, .slice bo m d] w (RetV (.bool (longB n m)) w) := by
  by_cases h1 : 3000 < n
  · have h1' : (3000 : Int) < (n : Int) := by omega
    have HV : Hid (longB n m = true) := Lib.hid (by simp [longB, h1])
    go_enter Try.func18, Try.ntmps18
    go_wp2
    go_ret
    exact RetV.mk (bool_eq HV.out.symm)
  · have h1' : ¬ (3000 : Int) < (n : Int) := by omega
    by_cases h2 : 3000 < m
    · have h2' : (3000 : Int) < (m : Int) := by omega
      have HV : Hid (longB n m = true) := Lib.hid (by simp [longB, h2])
      go_enter Try.func18, Try.ntmps18
      go_wp2
      go_ret
      exact RetV.mk (bool_eq HV.out.symm)
    · have h2' : ¬ (3000 : Int) < (m : Int) := by omega
      have HV : Hid (longB n m = false) := Lib.hid (by simp [longB, h1, h2])
      go_enter Try.func18, Try.ntmps18
      go_wp2
      go_ret
      exact RetV.mk (bool_eq HV.out.symm)
/-- a number from 0 to n - 1 -/
def RetAt (n : Int) (w : World) (e : Ending) (w' : World) : Prop := ∃ x : Int, 0 ≤ x ∧ x < n ∧ e = .returned (.int .i64 x) ∧ Ext w w'
set_option maxHeartbeats 800000 in
theorem l_a2At (ao : Option Addr) (n c : Nat) (bs : List UInt8) (k : Nat) (m : Int) (w : World) (hb : U8s w ao n bs) (hm : 1 ≤ m) (hm2 : m ≤ 1000000) : Calls Try.prog 40 #[.slice ao n c, .int .i64 k, .int .i64 m] w (RetAt m w) := by
  have hn := hb.2.1
  by_cases h : k < n
  · obtain ⟨b, off, rfl, hc⟩ := hb.2.2 k h
    have hx0 : (bs.getD k 0).toNat < 256 := (bs.getD k 0).toNat_lt
    obtain ⟨x, hx⟩ : ∃ x, (bs.getD k 0).toNat = x := ⟨_, rfl⟩
    rw [hx] at hc hx0
    have h' : (k : Int) < (n : Int) := by omega
    have h'' : ¬ (n : Int) ≤ (k : Int) := by omega
    have hm' : ¬ m < 1 := by omega
    have hm0 : ¬ m = 0 := by omega
    have hmp : (0 : Int) < m := by omega
    have H1 : Hid (0 ≤ (x : Int) % m ∧ (x : Int) % m < m) := Lib.hid ⟨Int.emod_nonneg _ hm0, Int.emod_lt_of_pos _ hmp⟩
    clear hx hb
    go_enter Try.func40, Try.ntmps40
    go_wp2
    (try go_quiet (fail))
    (try go_wp2)
    go_ret
    exact ⟨_, H1.out.1, H1.out.2, rfl, by first | exact Ext.refl _ | exact (Ext.refl _).drewN _⟩
  · have h'' : (n : Int) ≤ (k : Int) := by omega
    clear hb
    go_enter Try.func40, Try.ntmps40
    go_wp2
    go_ret
    exact ⟨0, by omega, by omega, rfl, Ext.refl _⟩
end Go.Proofs.Ytnhmcmohnpbcjaa

/- Contracts: a length and a course that are drawn off some bytes. -/
namespace Go.Proofs.Ytnhmcmohnpbcjaa
open Go.RowKit
set_option linter.unusedSimpArgs false
set_option linter.unusedVariables false
set_option linter.unnecessarySimpa false

theorem ext_of_src {w w' : World} {g : Nat} (h : w.grownBy w' (some g)) {W : World} (e : Ext W w) (hg : W.heap.size ≤ g) : Ext W w' := e.grown h (fun k hk => by cases hk; exact hg)
end Go.Proofs.Ytnhmcmohnpbcjaa
