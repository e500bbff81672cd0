/- What FnWalls needs of walls, with no program in sight; the sum of a row. -/
import Derived.Test.YtehcmocknmfhcaaWallD
import Derived.Test.YtehcmocknmfhcaaClash
import Derived.Test.YtehcmocknmfhcaaCount
namespace Go.Proofs.Ytehcmocknmfhcaa
open Go.RowKit
set_option linter.unusedSimpArgs false
set_option linter.unusedVariables false
set_option linter.unnecessarySimpa false

theorem dist_comm (a b : Int) : dist a b = dist b a := by unfold dist; split <;> split <;> omega
theorem findK_none {lap : Int} : ∀ (l : List ByteArray) (k : Int), findK lap k l = none ↔ ∀ i, i + 1 < l.length → ∀ x ∈ perps (bts (l.getD i ByteArray.empty)), ∀ y ∈ perps (bts (l.getD (i + 1) ByteArray.empty)), ¬ dist x y < lap
  | [], k => by simp [findK]
  | [a], k => by simp [findK]
  | a :: b :: r, k => by
    have ih := findK_none (lap := lap) (b :: r) (k + 1)
    rw [findK]
    constructor
    · intro h
      cases hx : findXY lap (perps (bts b)) (perps (bts a)) with
      | some p => rw [hx] at h; simp at h
      | none =>
        rw [hx] at h
        intro i hi x hxm y hym
        cases i with
        | zero => exact findXY_none.1 hx x hxm y hym
        | succ i => exact ih.1 h i (by simpa using hi) x hxm y hym
    · intro h
      have h0 : findXY lap (perps (bts b)) (perps (bts a)) = none := findXY_none.2 (fun x hx y hy => h 0 (by simp) x hx y hy)
      rw [h0]
      exact ih.2 (fun i hi x hx y hy => h (i + 1) (by simpa using hi) x hx y hy)
theorem getD_rev (l : List ByteArray) (i : Nat) (h : i < l.length) : l.reverse.getD i ByteArray.empty = l.getD (l.length - 1 - i) ByteArray.empty := by
  rw [List.getD_eq_getElem?_getD, List.getD_eq_getElem?_getD, List.getElem?_reverse h]
theorem findK_rev1 {lap : Int} {l : List ByteArray} (k : Int) (h : findK lap k l = none) (j : Int) : findK lap j l.reverse = none := by
  rw [findK_none] at h ⊢
  intro i hi x hx y hy
  rw [List.length_reverse] at hi
  rw [getD_rev l i (by omega)] at hx
  rw [getD_rev l (i + 1) (by omega)] at hy
  rw [dist_comm]
  exact h (l.length - 1 - (i + 1)) (by omega) y hy x (by rw [show l.length - 1 - (i + 1) + 1 = l.length - 1 - i by omega]; exact hx)
theorem findK_rev (lap : Int) (l : List ByteArray) (k j : Int) : (findK lap j l.reverse).isNone = (findK lap k l).isNone := by
  rw [Bool.eq_iff_iff, Option.isNone_iff_eq_none, Option.isNone_iff_eq_none]
  constructor
  · intro h
    have h2 := findK_rev1 j h k
    rwa [List.reverse_reverse] at h2
  · intro h
    exact findK_rev1 k h j
theorem findK_lap {lap lap' : Int} {l : List ByteArray} (hl : lap ≤ lap') (k : Int) (h : findK lap' k l = none) : findK lap k l = none := by
  rw [findK_none] at h ⊢
  intro i hi x hx y hy h2
  exact h i hi x hx y hy (by omega)
theorem cutN_consW (b : UInt8) (l : List UInt8) : cutN (b :: l) = (if cutB b = true then 1 else 0) + cutN l := by
  simp only [cutN, List.countP_cons]
  split <;> simp <;> omega
/-- all pieces are counted, and the cut ones among them -/
theorem cnt5_sum : ∀ (l : List UInt8), l.all isPc = true → (cnt5 l).sum = l.length ∧ (cnt5 l).getD 2 0 + (cnt5 l).getD 3 0 + (cnt5 l).getD 4 0 = cutN l
  | [], _ => by simp [cnt5, order5, cutN]
  | b :: l, h => by
    rw [List.all_cons, Bool.and_eq_true] at h
    have ih := cnt5_sum l h.2
    rw [cutN_consW]
    rcases isPc_cases h.1 with rfl | rfl | rfl | rfl | rfl <;> simp [cnt5, order5, List.count_cons, cutB, cutI] at ih ⊢ <;> omega
theorem sum_bd {b : Int} : ∀ (l : List Int), (∀ x ∈ l, 0 ≤ x ∧ x ≤ b) → 0 ≤ l.sum ∧ l.sum ≤ b * l.length
  | [], _ => by simp
  | x :: l, h => by
    have h1 := h x (by simp)
    have ih := sum_bd l (fun y hy => h y (List.mem_cons_of_mem _ hy))
    rw [List.sum_cons, List.length_cons, Int.natCast_succ, Int.mul_add, Int.mul_one]
    omega
set_option maxHeartbeats 800000 in
theorem l_a2Sum (ao : Option Addr) (n c : Nat) (xs : List Int) (w : World) (hx : Ints w ao n xs) (hb : ∀ x ∈ xs, 0 ≤ x ∧ x ≤ 1000000) (hn : n ≤ 1000) :
    Calls Try.prog 32 #[.slice ao n c] w (RetE (.int .i64 xs.sum) w) := by
  obtain ⟨hxl, hxm, hxc, hxi⟩ := hx
  go_enter Try.func32, Try.ntmps32
  go_wp2
  go_loopw [3, 4] (fun q i wr => ∃ k : Nat, k ≤ n ∧ i = .int .i64 k ∧ q = .int .i64 (xs.take k).sum ∧ Ext w wr) (fun _ i _ => n - (intOf i).toNat)
  case atStart => exact ⟨0, Nat.zero_le _, rfl, by simp, Ext.refl _⟩
  case round =>
    obtain ⟨k, hk, rfl, rfl, er⟩ := hrel
    have hsb := sum_bd (xs.take k) (fun x hx => hb x (List.mem_of_mem_take hx))
    have hlt' : ((xs.take k).length : Int) ≤ k := by have := List.length_take_le k xs; omega
    have hs2 : (xs.take k).sum ≤ 1000000 * 1000 := by omega
    by_cases hlt : k < n
    · obtain ⟨b, off, rfl, hc⟩ := hxc k hlt
      have g1 := er.cell hc
      have hkx : k < xs.length := by omega
      obtain ⟨x, hxk⟩ : ∃ x, xs.getD k 0 = x := ⟨_, rfl⟩
      rw [hxk] at g1
      rw [List.getD_eq_getElem?_getD, List.getElem?_eq_getElem hkx, Option.getD_some] at hxk
      have hxb := hb x (by rw [← hxk]; exact List.getElem_mem _)
      have HSS : Hid ((xs.take (k + 1)).sum = (xs.take k).sum + x) := Lib.hid (by rw [List.take_succ_eq_append_getElem hkx, List.sum_append, hxk]; simp)
      obtain ⟨s, hs⟩ : ∃ s, (xs.take k).sum = s := ⟨_, rfl⟩
      rw [hs] at hsb hs2 HSS ⊢
      obtain ⟨s1, s2⟩ := hsb
      clear hc hxc hb hxk hs s2 hlt'
      go_wp2
      go_roundw
      case rel => exact ⟨k + 1, by omega, by go_num, by rw [HSS.out], er⟩
      case measure => simp [intOf]; omega
    · have HT : Hid (xs.take k = xs) := Lib.hid (List.take_of_length_le (by omega))
      go_wp2
      go_ret
      exact RetE.mk (int_eq (by rw [HT.out])) er
end Go.Proofs.Ytehcmocknmfhcaa
