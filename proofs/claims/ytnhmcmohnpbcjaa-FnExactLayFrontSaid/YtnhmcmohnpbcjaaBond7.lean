/- Contracts: a wall that is laid by a bond: both sides; marks in a bond. -/
import Derived.Test.YtnhmcmohnpbcjaaBond6
namespace Go.Proofs.Ytnhmcmohnpbcjaa
open Go.RowKit
set_option linter.unusedSimpArgs false
set_option linter.unusedVariables false
set_option linter.unnecessarySimpa false

/-- the row has been written, and nothing else that was there -/
def RetMarked (v : Value) (r : Int) (w : World) (e : Ending) (w' : World) : Prop := e = .returned (.int .i64 r) ∧ w.grownBy w' v.ownBlock
theorem two_of_len {l : List Value} (h : l.length = 2) : ∃ a b, l = [a, b] := by
  match l, h with
  | [x, y], _ => exact ⟨x, y, rfl⟩
set_option maxHeartbeats 800000 in
theorem l_markCourseS (base : Nat) (ao : Option Addr) (n c : Nat) (k : Int) (cs : List Crs) (w : World) (hx : OwnCrss w base (.slice ao n c) cs) (hn : n ≤ 100000000) (k1 : 0 ≤ k) (k2 : k ≤ 100000000) :
    Calls Try.prog 82 #[.slice ao n c, .int .i64 k] w (RetMarked (.slice ao n c) (k + 2 * n) w) := by
  have HX := Lib.hid hx.1
  clear hx
  go_enter Try.func82, Try.ntmps82
  go_wp2
  go_loopw [1, 5] (fun q i wr => ∃ (j : Nat) (rs : List (List Value)), j ≤ n ∧ i = .int .i64 j ∧ q = .int .i64 (k + 2 * j) ∧ Hid (OwnRecs 151 2 wr base (.slice ao n c) rs) ∧ Hid (w.grownBy wr (Value.slice ao n c).ownBlock)) (fun _ i _ => n - (intOf i).toNat)
  case atStart => exact ⟨0, _, Nat.zero_le _, rfl, by simp, HX, Lib.hid (World.grownBy.refl _ _)⟩
  case round =>
    obtain ⟨j, rs, hj, rfl, rfl, HO, HG⟩ := hrel
    by_cases hlt : j < n
    · obtain ⟨g, rfl⟩ : ∃ g, ao = some ⟨g, 0, none⟩ := by
        rcases HO.out.1.2 with ⟨h, _⟩ | ⟨g, cap, cur, h, _⟩
        · simp at h; omega
        · simp at h; exact ⟨g, h.1⟩
      go_wp2_with fail
      refine (l_markText _ (by omega) (by omega) _).mono ?_
      rintro e w1 ⟨rfl, e1⟩
      have HO1 := Lib.hid (HO.out.ext e1)
      have HG1 : Hid (w.grownBy w1 (some g)) := Lib.hid (grown_ext_by HG.out e1)
      clear e1
      obtain ⟨a, b, hab⟩ := two_of_len (flat_split rs HO1.out.2 j (by rw [HO1.out.len]; exact hlt)).2.2
      obtain ⟨d0, d1, f0, f1⟩ := HO1.out.reads2 j hlt hab
      have HP1 := Lib.hid (HO1.out.put j 0 hlt (by omega) (.string (mtx (k + 2 * j))))
      have HG2 : Hid (w.grownBy (w1.setCell ⟨g, j * 2, none⟩ (.string (mtx (k + 2 * j)))) (some g)) := Lib.hid (grown_set_by HG1.out _)
      rw [Nat.add_zero] at HP1
      clear hab
      go_wp2_with fail
      refine (l_markText _ (by omega) (by omega) _).mono ?_
      rintro e w2 ⟨rfl, e2⟩
      have HO2 := Lib.hid (HP1.out.ext e2)
      have HG3 : Hid (w.grownBy w2 (some g)) := Lib.hid (grown_ext_by HG2.out e2)
      clear e2 d0 d1 f0 f1
      obtain ⟨a2, b2, hab2⟩ := two_of_len (flat_split _ HO2.out.2 j (by rw [HO2.out.len]; exact hlt)).2.2
      obtain ⟨d0, d1, f0, f1⟩ := HO2.out.reads2 j hlt hab2
      clear hab2
      go_wp2
      go_roundw
      case rel => exact ⟨j + 1, _, by omega, by go_num, by go_num, Lib.hid (HO2.out.put j 1 hlt (by omega) _), Lib.hid (grown_set_by HG3.out _)⟩
      case measure => simp [intOf]; omega
    · obtain rfl : j = n := by omega
      go_wp2
      go_ret
      exact ⟨rfl, HG.out⟩
theorem grown_alloc_by {w w' : World} {o : Obj} {row : Option Nat} (h : (w.alloc o).grownBy w' row) : w.grownBy w' row :=
  (World.grownBy_alloc w o row).trans h
set_option maxHeartbeats 800000 in
theorem l_markBond (base : Nat) (nm : ByteArray) (ao : Option Addr) (n c : Nat) (k : Int) (cs : List Crs) (w : World) (hx : OwnCrss w base (.slice ao n c) cs) (hn : n ≤ 100000000) (k1 : 0 ≤ k) (k2 : k ≤ 100000000) :
    Calls Try.prog 38 #[.agg #[.string nm, .slice ao n c], .int .i64 k] w (RetMarked (.slice ao n c) (k + 2 * n) w) := by
  have HX := Lib.hid (hx.ext ((Ext.refl w).alloc (.cells #[.string nm, .slice ao n c] 66)))
  clear hx
  go_enter Try.func38, Try.ntmps38
  go_wp2_with (go_at_call 82; refine (l_markCourseS base _ _ _ _ cs _ HX.out hn k1 k2).mono ?_; rintro e w1 ⟨rfl, g1⟩; have HG := Lib.hid (grown_alloc_by g1); clear g1)
  go_ret
  exact ⟨rfl, HG.out⟩
/-- the letters of all courses of a wall -/
def wallF (cs : List Crs) : Nat → Nat → UInt8 := fun k => ltrAt cs (k : Int)
def layAll (F : Nat → Nat → UInt8) (u : Int) (m : Nat) : List ByteArray := (List.range m).map fun k => mkS (layT (F k) u)
def layFit (F : Nat → Nat → UInt8) (u : Int) (m : Nat) : Bool := (List.range m).all fun k => decide ((layT (F k) u).length ≤ 60)
theorem layAll_succ (F : Nat → Nat → UInt8) (u : Int) (m : Nat) : layAll F u (m + 1) = layAll F u m ++ [mkS (layT (F m) u)] := by unfold layAll; rw [List.range_succ, List.map_append]; rfl
theorem layAll_len (F : Nat → Nat → UInt8) (u : Int) (m : Nat) : (layAll F u m).length = m := by simp [layAll]
theorem layFit_succ {F : Nat → Nat → UInt8} {u : Int} {m : Nat} (h : layFit F u m = true) (h2 : ¬ 60 < (layT (F m) u).length) : layFit F u (m + 1) = true := by
  unfold layFit at *; rw [List.range_succ, List.all_append, h]; simp; omega
theorem layFit_no {F : Nat → Nat → UInt8} {u : Int} {m k : Nat} (hk : k < m) (h2 : 60 < (layT (F k) u).length) : layFit F u m = false := by
  unfold layFit; rw [List.all_eq_false]; exact ⟨k, List.mem_range.2 hk, by simp; omega⟩
def lwC (nm : List UInt8) (cs : List Crs) (u m : Int) : Int := if bondB nm cs = true then (if inB u 1 200 = true ∧ inB m 1 40 = true then (if layFit (wallF cs) u m.toNat = true then 0 else 5) else 2) else 1
def lwL (nm : List UInt8) (cs : List Crs) (u m : Int) : List ByteArray := if lwC nm cs u m = 0 then layAll (wallF cs) u m.toNat else []
theorem lwL_len (nm : List UInt8) (cs : List Crs) (u m : Int) : (lwL nm cs u m).length ≤ 40 := by
  unfold lwL
  split
  · rename_i h
    unfold lwC at h
    split at h
    · split at h
      · rename_i h2
        have := inB_iff.1 h2.2
        rw [layAll_len]; omega
      · omega
    · omega
  · simp
end Go.Proofs.Ytnhmcmohnpbcjaa
