/- A group of texts, one behind the other: A2At, A2. -/
import Derived.Test.YtaokeaiehjgbnaaDoorGaSrc
import Derived.Test.YtaokeaiehjgbnaaDoorGaDraw
/- Contracts: too many bytes; a number that depends on some bytes. -/
namespace Go.Proofs.YtaokeaiehjgbnaaDoor
open Go.RowKit
set_option linter.unusedSimpArgs false
set_option linter.unusedVariables false
set_option linter.unnecessarySimpa false

/-- there are too many bytes -/
def longB (n m : Nat) : Bool := decide (3000 < n) || decide (3000 < m)
theorem l_a2Long (ao bo : Option Addr) (n m c d : Nat) (w : World) (hn : n ≤ 9223372036854775807) (hm : m ≤ 9223372036854775807) : Calls Tryd.prog 21 #[.slice ao n c, .slice bo m d] w (RetV (.bool (longB n m)) w) := by
  by_cases h1 : 3000 < n
  · have h1' : (3000 : Int) < (n : Int) := by omega
    have HV : Hid (longB n m = true) := Lib.hid (by simp [longB, h1])
    go_enter Tryd.func21, Tryd.ntmps21
    go_wp2
    go_ret
    exact RetV.mk (bool_eq HV.out.symm)
  · have h1' : ¬ (3000 : Int) < (n : Int) := by omega
    by_cases h2 : 3000 < m
    · have h2' : (3000 : Int) < (m : Int) := by omega
      have HV : Hid (longB n m = true) := Lib.hid (by simp [longB, h2])
      go_enter Tryd.func21, Tryd.ntmps21
      go_wp2
      go_ret
      exact RetV.mk (bool_eq HV.out.symm)
    · have h2' : ¬ (3000 : Int) < (m : Int) := by omega
      have HV : Hid (longB n m = false) := Lib.hid (by simp [longB, h1, h2])
      go_enter Tryd.func21, Tryd.ntmps21
      go_wp2
      go_ret
      exact RetV.mk (bool_eq HV.out.symm)
end Go.Proofs.YtaokeaiehjgbnaaDoor

/- Contracts: a length and a course that are drawn off some bytes. -/
namespace Go.Proofs.YtaokeaiehjgbnaaDoor
open Go.RowKit
set_option linter.unusedSimpArgs false
set_option linter.unusedVariables false
set_option linter.unnecessarySimpa false

theorem ext_of_src {w w' : World} {g : Nat} (h : w.grownBy w' (some g)) {W : World} (e : Ext W w) (hg : W.heap.size ≤ g) : Ext W w' := e.grown h (fun k hk => by cases hk; exact hg)
def RetLen (w : World) (e : Ending) (w' : World) : Prop := ∃ L : Nat, 1 ≤ L ∧ L ≤ 40 ∧ e = .returned (.int .i64 L) ∧ Ext w w'
set_option maxHeartbeats 800000 in
theorem s_A2Length (ao : Option Addr) (n c : Nat) (bs : List UInt8) (w : World) (hb : U8s w ao n bs) : Calls Tryd.prog 22 #[.slice ao n c] w (RetLen w) := by
  have H1 := Lib.hid (fun W (h : SrcAt W w.heap.size ao n c ⟨0, 0⟩) (e : Ext w W) => s_pick w.heap.size ao n c bs ⟨0, 0⟩ 40 W h (hb.ext e) w e hb (Nat.le_refl _) ⟨by decide, by decide⟩ (by decide))
  have hbd := pickV_bd bs ⟨0, 0⟩ 40
  obtain ⟨v, hv⟩ : ∃ v, pickV bs ⟨0, 0⟩ 40 = v := ⟨_, rfl⟩
  rw [hv] at H1 hbd
  obtain ⟨v1, v2⟩ := hbd
  have v3 := v2 (by omega)
  clear hv hb v2
  go_enter Tryd.func22, Tryd.ntmps22
  go_wp2_with fail
  refine (s_l00From ao n c w).mono ?_
  rintro e w1 ⟨rfl, s1, e1, z1⟩
  have HS1 := Lib.hid s1
  have HE1 := Lib.hid e1
  clear s1 e1 z1
  go_wp2_with fail
  refine (H1.out _ HS1.out HE1.out).mono ?_
  rintro e w2 ⟨rfl, s2, g2⟩
  have HE2 := Lib.hid (ext_of_src g2 HE1.out (Nat.le_refl _))
  clear s2 g2
  go_wp2
  go_ret
  refine ⟨(1 + v).toNat, by omega, by omega, ?_, HE2.out⟩
  exact congrArg (fun z => Ending.returned (Value.int .i64 z)) (show 1 + v = (((1 + v).toNat : Nat) : Int) by omega)
def RetCrsD (L : Nat) (w : World) (e : Ending) (w' : World) : Prop := ∃ l, e = .returned (.string (mkS l)) ∧ l.all isPc = true ∧ qSum l = (L : Int) ∧ Ext w w'
set_option maxHeartbeats 800000 in
theorem s_A2Course (ao : Option Addr) (n c : Nat) (bs : List UInt8) (L : Nat) (w : World) (hb : U8s w ao n bs) (h1 : 1 ≤ L) (h2 : L ≤ 40) : Calls Tryd.prog 23 #[.slice ao n c, .int .i64 L] w (RetCrsD L w) := by
  have H1 := Lib.hid (fun W (h : SrcAt W w.heap.size ao n c ⟨0, 0⟩) (e : Ext w W) => s_l06Draw w.heap.size ao n c bs ⟨0, 0⟩ L W h w e hb (Nat.le_refl _) 0 (by decide) ⟨by decide, by decide⟩ h1 h2)
  clear hb
  go_enter Tryd.func23, Tryd.ntmps23
  go_wp2_with fail
  refine (s_l00From ao n c w).mono ?_
  rintro e w1 ⟨rfl, s1, e1, z1⟩
  have HS1 := Lib.hid s1
  have HE1 := Lib.hid e1
  clear s1 e1 z1
  go_wp2_with fail
  refine (H1.out _ HS1.out HE1.out).mono ?_
  rintro e w2 ⟨l, st', rfl, hl1, hl2, _, s2, g2⟩
  have HE2 := Lib.hid (ext_of_src g2 HE1.out (Nat.le_refl _))
  have HL1 := Lib.hid hl1
  have HL2 := Lib.hid hl2
  clear s2 g2 hl1 hl2
  go_wp2
  go_ret
  exact ⟨l, rfl, HL1.out, HL2.out, HE2.out⟩
end Go.Proofs.YtaokeaiehjgbnaaDoor
