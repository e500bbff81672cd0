/- What the law on walls of the best pair asks: lists that rise, a number in a list, a wall of two courses by turns. -/
import Derived.Test.YtciamgnfbhijlaaPairL
import Derived.Test.YtciamgnfbhijlaaPairI4
import Derived.Test.YtciamgnfbhijlaaA2At
import Derived.Test.YtciamgnfbhijlaaWallOf
namespace Go.Proofs.Ytciamgnfbhijlaa
open Go.RowKit
set_option linter.unusedSimpArgs false
set_option linter.unusedVariables false
set_option linter.unnecessarySimpa false

def hasI (y : Int) (xs : List Int) : Bool := decide (y ∈ xs)
set_option maxHeartbeats 800000 in
theorem l_a2Has (ao : Option Addr) (n c : Nat) (xs : List Int) (y : Int) (w : World) (hx : Ints w ao n xs) : Calls Try.prog 26 #[.slice ao n c, .int .i64 y] w (RetV (.bool (hasI y xs)) w) := by
  have hn := hx.2.1
  have HX := Lib.hid hx
  clear hx
  go_enter Try.func26, Try.ntmps26
  go_wp2
  go_loop [5] (fun i => ∃ k : Nat, k ≤ n ∧ i = .int .i64 k ∧ Hid (∀ j, j < k → xs.getD j 0 ≠ y)) (fun i => n - (intOf i).toNat)
  case atStart => exact ⟨0, Nat.zero_le _, rfl, Lib.hid (fun j hj => by omega)⟩
  case round =>
    obtain ⟨k, hk, rfl, HJ⟩ := hrel
    by_cases hlt : k < n
    · obtain ⟨b, off, hao, hc⟩ := HX.out.2.2.1 k hlt
      subst hao
      have hmem : xs.getD k 0 ∈ xs := by
        rw [List.getD_eq_getElem?_getD, List.getElem?_eq_getElem (by rw [HX.out.1]; exact hlt)]
        exact List.getElem_mem _
      have HM := Lib.hid hmem
      clear hmem
      obtain ⟨z, hz⟩ : ∃ z, xs.getD k 0 = z := ⟨_, rfl⟩
      rw [hz] at hc HM
      have HZ := Lib.hid hz
      clear hz
      have hi0 : (0 : Int) ≤ (k : Int) := by omega
      have hi1 : (k : Int) < (n : Int) := by omega
      by_cases he : z = y
      · subst he
        have HV : Hid (hasI z xs = true) := Lib.hid (by unfold hasI; simp [HM.out])
        go_wp2
        go_ret
        exact RetV.mk (bool_eq HV.out.symm)
      · have t1 : (z == y) = false := by simp [he]
        have HE := Lib.hid he
        clear he
        go_wp2
        go_round
        case rel => exact ⟨k + 1, by omega, by go_num, Lib.hid (fun j hj => by
          by_cases e : j = k
          · subst e; rw [HZ.out]; exact HE.out
          · exact HJ.out j (by omega))⟩
        case measure => simp [intOf]; omega
    · obtain rfl : k = n := by omega
      have HV : Hid (hasI y xs = false) := Lib.hid (by
        unfold hasI
        simp only [decide_eq_false_iff_not]
        intro h
        obtain ⟨j, hj, he⟩ := List.getElem_of_mem h
        have := HJ.out j (by rw [← HX.out.1]; exact hj)
        rw [List.getD_eq_getElem?_getD, List.getElem?_eq_getElem hj] at this
        exact this he)
      go_wp2
      go_ret
      exact RetV.mk (bool_eq HV.out.symm)
/-- the list rises, from 0 on, below m -/
def Rises (xs : List Int) (m : Int) : Prop := ∀ j, j < xs.length → 0 ≤ xs.getD j 0 ∧ xs.getD j 0 < m ∧ (0 < j → xs.getD (j - 1) 0 < xs.getD j 0)
set_option maxRecDepth 100000 in
set_option maxHeartbeats 1600000 in
theorem l_a2Rises (ao : Option Addr) (n c : Nat) (xs : List Int) (m : Int) (w : World) (hx : Ints w ao n xs) (hr : Rises xs m) : Calls Try.prog 25 #[.slice ao n c, .int .i64 m] w (RetE (.bool true) w) := by
  have hn := hx.2.1
  have HX := Lib.hid hx
  have HR := Lib.hid hr
  clear hx hr
  go_enter Try.func25, Try.ntmps25
  go_wp2
  go_loopw [5] (fun i wr => ∃ k : Nat, k ≤ n ∧ i = .int .i64 k ∧ Hid (Ext w wr)) (fun i _ => n - (intOf i).toNat)
  case atStart => exact ⟨0, Nat.zero_le _, rfl, Lib.hid (Ext.refl w)⟩
  case round =>
    obtain ⟨k, hk, rfl, HE⟩ := hrel
    by_cases hlt : k < n
    · obtain ⟨r1, r2, r3⟩ := HR.out k (by rw [HX.out.1]; exact hlt)
      by_cases hk0 : k = 0
      · subst hk0
        obtain ⟨b, off, hao, hc⟩ := (HX.out.ext HE.out).2.2.1 0 hlt
        subst hao
        obtain ⟨z, hz⟩ : ∃ z, xs.getD 0 0 = z := ⟨_, rfl⟩
        rw [hz, Nat.add_zero] at hc
        rw [hz] at r1 r2
        have t1 : decide (z < 0) = false := by simp; omega
        have t2 : decide (m ≤ z) = false := by simp; omega
        have hi1 : (0 : Int) < (n : Int) := by omega
        clear hz r1 r2 r3
        go_wp2
        go_quiet (fail)
        go_wp2
        go_roundw
        case rel => exact ⟨1, by omega, by go_num, Lib.hid (HE.out.drewN _)⟩
        case measure => simp [intOf]; omega
      · obtain ⟨b, off, hao, hc⟩ := (HX.out.ext HE.out).2.2.1 k hlt
        obtain ⟨b', off', hao', hc'⟩ := (HX.out.ext HE.out).2.2.1 (k - 1) (by omega)
        subst hao
        have hbb := Option.some.inj hao'
        simp only [Addr.mk.injEq, and_true] at hbb
        obtain ⟨rfl, rfl⟩ := hbb
        obtain ⟨z, hz⟩ : ∃ z, xs.getD k 0 = z := ⟨_, rfl⟩
        obtain ⟨z', hz'⟩ : ∃ z', xs.getD (k - 1) 0 = z' := ⟨_, rfl⟩
        have r4 := r3 (by omega)
        rw [hz] at hc r1 r2 r4
        rw [hz'] at hc' r4
        have t1 : decide (z < 0) = false := by simp; omega
        have t2 : decide (m ≤ z) = false := by simp; omega
        have t3 : decide (z ≤ z') = false := by simp; omega
        have hi0 : (0 : Int) ≤ (k : Int) := by omega
        have hi1 : (k : Int) < (n : Int) := by omega
        have hi2 : (0 : Int) < (k : Int) := by omega
        have hi3 : ((k : Int) - 1).toNat = k - 1 := by omega
        have hi4 : (1 : Int) ≤ (k : Int) := by omega
        have t4 : decide (0 < k) = true := by simp; omega
        have hw1 : IntKind.i64.wrap ((k : Int) - 1) = (k : Int) - 1 := IntWalk.i64_in _ (by omega)
        clear hz hz' r1 r2 r3 r4 hao' hk0
        go_wp2
        go_quiet (fail)
        go_wp2
        go_roundw
        case rel => exact ⟨k + 1, by omega, by go_num, Lib.hid (HE.out.drewN _)⟩
        case measure => simp [intOf]; omega
    · go_wp2
      go_ret
      exact RetE.mk rfl HE.out
theorem noCut_at (lap : Int) : ∀ (n j : Nat), j < (noCut lap n).length → 1 ≤ (noCut lap n).getD j 0 ∧ (noCut lap n).getD j 0 ≤ n ∧ (0 < j → (noCut lap n).getD (j - 1) 0 < (noCut lap n).getD j 0)
  | 0, j, h => by simp [noCut] at h
  | n + 1, j, h => by
    have ih := noCut_at lap n
    unfold noCut at h ⊢
    by_cases hc : cutO (pairO ((n : Int) + 1) lap) = 0
    · rw [if_pos hc] at h ⊢
      simp only [List.length_append, List.length_cons, List.length_nil] at h
      by_cases hj : j < (noCut lap n).length
      · have h1 := ih j hj
        have e : ∀ i, i < (noCut lap n).length → (noCut lap n ++ [(n : Int) + 1]).getD i 0 = (noCut lap n).getD i 0 := fun i hi => by
          rw [List.getD_eq_getElem?_getD, List.getD_eq_getElem?_getD, List.getElem?_append_left hi]
        rw [e j hj, e (j - 1) (by omega)]
        exact ⟨h1.1, by omega, h1.2.2⟩
      · have hj2 : j = (noCut lap n).length := by omega
        have e1 : (noCut lap n ++ [(n : Int) + 1]).getD j 0 = (n : Int) + 1 := by
          rw [List.getD_eq_getElem?_getD, List.getElem?_append_right (by omega), hj2, Nat.sub_self]; rfl
        rw [e1]
        refine ⟨by omega, by omega, fun h0 => ?_⟩
        have h1 := ih (j - 1) (by omega)
        rw [List.getD_eq_getElem?_getD, List.getElem?_append_left (by omega), ← List.getD_eq_getElem?_getD]
        omega
    · rw [if_neg hc, List.append_nil] at h ⊢
      have h1 := ih j h
      exact ⟨h1.1, by omega, h1.2.2⟩
theorem noCut_rises (lap : Int) (n : Nat) : Rises (noCut lap n) ((n : Int) + 1) := fun j hj => by
  have h := noCut_at lap n j hj
  exact ⟨by omega, by omega, h.2.2⟩
theorem noCut_has (lap : Int) (n : Nat) : hasI ((n : Int) + 1) (noCut lap (n + 1)) = decide (cutO (pairO ((n : Int) + 1) lap) = 0) := by
  have hold : ¬ ((n : Int) + 1) ∈ noCut lap n := fun h => by
    obtain ⟨j, hj, he⟩ := List.getElem_of_mem h
    have := noCut_at lap n j hj
    rw [List.getD_eq_getElem?_getD, List.getElem?_eq_getElem hj, Option.getD_some, he] at this
    omega
  unfold hasI noCut
  by_cases hc : cutO (pairO ((n : Int) + 1) lap) = 0
  · rw [if_pos hc]; simp [hc]
  · rw [if_neg hc]; simp [hc, hold]
/-! ### a wall of two courses by turns -/
theorem none_two {lap : Int} {a b : ByteArray} (h : (findK lap 0 [a, b]).isNone = true) : findXY lap (perps (bts b)) (perps (bts a)) = none := by
  unfold findK at h
  cases e : findXY lap (perps (bts b)) (perps (bts a)) with
  | none => rfl
  | some x => rw [e] at h; cases h
theorem none_swap {lap : Int} {a b : ByteArray} (h : (findK lap 0 [a, b]).isNone = true) : (findK lap 0 [b, a]).isNone = true := by
  rw [pair_none] at h ⊢
  intro y hy
  unfold farB at h ⊢
  rw [List.all_eq_true]
  intro x hx
  have h1 := List.all_eq_true.1 (h x hx) y hy
  rw [dist_comm']
  exact h1
theorem none_five {lap : Int} {a b : ByteArray} (h : (findK lap 0 [a, b]).isNone = true) : (findK lap 0 [a, b, a, b, a]).isNone = true := by
  have h1 := none_two h
  have h2 := none_two (none_swap h)
  simp [findK, h1, h2]
theorem wall_five {a b : List UInt8} {L : Nat} (ha : a.all isPc = true) (hqa : qSum a = L) (hb : b.all isPc = true) (hqb : qSum b = L) (h1 : 1 ≤ L) (h2 : L ≤ 40) (lap : Int) (hl1 : 1 ≤ lap) (hl2 : lap ≤ 4) :
    wcode [mkS a, mkS b, mkS a, mkS b, mkS a] lap = 0 ∧ Small [mkS a, mkS b, mkS a, mkS b, mkS a] ∧ wofC (mkS a) (mkS b) 5 = 0 ∧ wofL (mkS a) (mkS b) 5 = [mkS a, mkS b, mkS a, mkS b, mkS a] := by
  have va := valid_len ha hqa h1 h2
  have vb := valid_len hb hqb h1 h2
  have hc : wofC (mkS a) (mkS b) 5 = 0 := by
    unfold wofC lenS
    rw [bts_mkS, bts_mkS, va.1, vb.1, hqa, hqb]
    simp [inB]
  refine ⟨?_, ?_, hc, ?_⟩
  · unfold wcode validW
    rw [show inB lap 1 4 = true by simp [inB]; omega]
    have e : headL [mkS a, mkS b, mkS a, mkS b, mkS a] = (L : Int) := by
      show qSum (bts (mkS a)) = _
      rw [bts_mkS, hqa]
    have b1 : badC (L : Int) (mkS a) = false := by unfold badC lenS; rw [bts_mkS, va.1, hqa]; simp
    have b2 : badC (L : Int) (mkS b) = false := by unfold badC lenS; rw [bts_mkS, vb.1, hqb]; simp
    rw [e]
    simp only [List.any_cons, List.any_nil, b1, b2, Bool.or_false, Bool.not_false, Bool.and_true]
    rfl
  · intro s hs
    simp only [List.mem_cons, List.not_mem_nil, or_false] at hs
    rcases hs with rfl | rfl | rfl | rfl | rfl <;> (rw [mkS_size]; omega)
  · unfold wofL
    rw [if_pos hc]
    rfl
end Go.Proofs.Ytciamgnfbhijlaa
