/- Contracts of the reference's small functions for the best pair of courses. -/
import Derived.Test.YtciamgnfbhijlaaPairV
import Derived.Test.YtciamgnfbhijlaaChg
import Derived.Test.YtciamgnfbhijlaaBestS0
import Derived.Test.YtciamgnfbhijlaaCount
namespace Go.Proofs.Ytciamgnfbhijlaa
open Go.RowKit
set_option linter.unusedSimpArgs false
set_option linter.unusedVariables false
set_option linter.unnecessarySimpa false

/-- the search's block -/
def SBox (g : Nat) (L lap : Int) (vt vd : Value) (W : World) : Prop := W.heap[g]? = some (.cells #[.int .i64 L, .int .i64 lap, vt, vd] 80 (0, 0))
def RetDr (v : Value) (w : World) (e : Ending) (w' : World) : Prop := e = .returned v ∧ ∃ k, w' = w.drewN k
theorem RetDr.mk {v v' : Value} {w : World} (h : v' = v) (k : Nat) : RetDr v w (.returned v') (w.drewN k) := ⟨by rw [h], k, rfl⟩
set_option maxHeartbeats 2000000 in
theorem s_free (g : Nat) (L lap : Int) (vt vd : Value) (p q : Int) (w : World) (hb : SBox g L lap vt vd w) (p0 : 0 ≤ p) (p1 : p ≤ 1000) (q0 : 0 ≤ q) (q1 : q ≤ 1000) :
    Calls Try.prog 70 #[.pointer (some ⟨g, 0, none⟩), .int .i64 p, .int .i64 q] w (RetDr (.bool (freeB L lap p q)) w) := by
  obtain ⟨c0, c1, c2, c3, _⟩ := four_cells hb
  clear hb
  have HS := Lib.hid (fun W => s_l02Size p q (by omega) (by omega) (by omega) (by omega) W)
  by_cases h1 : p = 0
  · have t1 : (p == 0) = true := by simp [h1]
    have HV : Hid (freeB L lap p q = true) := Lib.hid (by simp [freeB, h1])
    clear h1
    go_enter Try.func70, Try.ntmps70
    go_wp2
    go_quiet (fail)
    go_wp2
    go_ret
    exact RetDr.mk (bool_eq HV.out.symm) _
  · have t1 : (p == 0) = false := by simp [h1]
    by_cases h2 : q = 0
    · have t2 : (q == 0) = true := by simp [h2]
      have HV : Hid (freeB L lap p q = true) := Lib.hid (by simp [freeB, h2])
      clear h1 h2
      go_enter Try.func70, Try.ntmps70
      go_wp2
      go_quiet (fail)
      go_wp2
      go_ret
      exact RetDr.mk (bool_eq HV.out.symm) _
    · have t2 : (q == 0) = false := by simp [h2]
      by_cases h3 : p = L
      · have t3 : (p == L) = true := by simp [h3]
        have HV : Hid (freeB L lap p q = true) := Lib.hid (by simp [freeB, h3])
        clear h1 h2 h3
        go_enter Try.func70, Try.ntmps70
        go_wp2
        go_quiet (fail)
        go_wp2
        go_ret
        exact RetDr.mk (bool_eq HV.out.symm) _
      · have t3 : (p == L) = false := by simp [h3]
        by_cases h4 : q = L
        · have t4 : (q == L) = true := by simp [h4]
          have HV : Hid (freeB L lap p q = true) := Lib.hid (by simp [freeB, h4])
          clear h1 h2 h3 h4
          go_enter Try.func70, Try.ntmps70
          go_wp2
          go_quiet (fail)
          go_wp2
          go_ret
          exact RetDr.mk (bool_eq HV.out.symm) _
        · have t4 : (q == L) = false := by simp [h4]
          have HV : Hid (freeB L lap p q = decide (lap ≤ dist p q)) := Lib.hid (by simp [freeB, h1, h2, h3, h4])
          have hw : IntKind.i64.wrap (p - q) = p - q := IntWalk.i64_in _ (by omega)
          obtain ⟨d, hd⟩ : ∃ d, dist p q = d := ⟨_, rfl⟩
          rw [hd] at HS HV
          clear h1 h2 h3 h4 hd
          go_enter Try.func70, Try.ntmps70
          go_wp2
          go_quiet ((go_at_call 61; exact quiet_retv (HS.out _)))
          go_wp2
          go_ret
          exact RetDr.mk (bool_eq HV.out.symm) _
/-- better, as the reference tells it of cells -/
def befG (c p : Int) (lo hi : ByteArray) (c' p' : Int) (lo' hi' : ByteArray) : Bool :=
  if c < 0 ∨ c' < 0 then decide (0 ≤ c) && decide (c' < 0) else if c = c' then (if p = p' then (if lo = lo' then Op.bytesLess hi.toList hi'.toList else Op.bytesLess lo.toList lo'.toList) else decide (p < p')) else decide (c < c')
theorem mkS_list (l : List UInt8) : (mkS l).toList = l := by rw [ByteArray.toList_eq]; rfl
theorem mkS_inj {a b : List UInt8} (h : mkS a = mkS b) : a = b := by have := congrArg bts h; rwa [bts_mkS, bts_mkS] at this
theorem befG_eq (a a' : Option PR) (h : ∀ x, a = some x → 0 ≤ pcN x) (h' : ∀ x, a' = some x → 0 ≤ pcN x) : befG (cutO a) (numO a) (lowO a) (highO a) (cutO a') (numO a') (lowO a') (highO a') = beforeB a a' := by
  cases a with
  | none =>
    unfold befG
    rw [if_pos (Or.inl (by decide))]
    simp [beforeB, cutO]
  | some x =>
    have hx := h x rfl
    cases a' with
    | none =>
      unfold befG
      rw [if_pos (Or.inr (by decide))]
      simp [beforeB, cutO, hx]
    | some y =>
      have hy := h' y rfl
      unfold befG
      rw [if_neg (by simp only [cutO]; omega)]
      unfold beforeB ltP cutO numO lowO highO
      dsimp only
      have e : (mkS x.1 = mkS y.1) = (x.1 = y.1) := propext ⟨mkS_inj, fun h => by rw [h]⟩
      simp only [mkS_list, e]
set_option maxHeartbeats 3000000 in
theorem s_l08Before (c p : Int) (lo hi : ByteArray) (c' p' : Int) (lo' hi' : ByteArray) (w : World) :
    Calls Try.prog 71 #[.agg #[.int .i64 c, .int .i64 p, .string lo, .string hi], .agg #[.int .i64 c', .int .i64 p', .string lo', .string hi']] w (RetE (.bool (befG c p lo hi c' p' lo' hi')) w) := by
  have HE := Lib.hid (((Ext.refl w).alloc (.cells #[.int .i64 c, .int .i64 p, .string lo, .string hi] 48)).alloc (.cells #[.int .i64 c', .int .i64 p', .string lo', .string hi'] 48))
  by_cases h1 : c < 0
  · have HV : Hid (befG c p lo hi c' p' lo' hi' = false) := Lib.hid (by unfold befG; rw [if_pos (Or.inl h1)]; simp; omega)
    go_enter Try.func71, Try.ntmps71
    go_wp2
    go_ret
    exact RetE.mk (bool_eq HV.out.symm) HE.out
  · by_cases h2 : c' < 0
    · have HV : Hid (befG c p lo hi c' p' lo' hi' = true) := Lib.hid (by unfold befG; rw [if_pos (Or.inr h2)]; simp; omega)
      go_enter Try.func71, Try.ntmps71
      go_wp2
      go_ret
      exact RetE.mk (bool_eq HV.out.symm) HE.out
    · have HL : Hid (befG c p lo hi c' p' lo' hi' = if c = c' then (if p = p' then (if lo = lo' then Op.bytesLess hi.toList hi'.toList else Op.bytesLess lo.toList lo'.toList) else decide (p < p')) else decide (c < c')) := Lib.hid (by unfold befG; rw [if_neg (by omega)])
      by_cases h3 : c = c'
      · subst h3
        by_cases h4 : p = p'
        · subst h4
          by_cases h5 : lo = lo'
          · subst h5
            obtain ⟨u, hu⟩ : ∃ u, Op.bytesLess hi.toList hi'.toList = u := ⟨_, rfl⟩
            have HV : Hid (befG c p lo hi c p lo hi' = u) := Lib.hid (by rw [HL.out, if_pos rfl, if_pos rfl, if_pos rfl, hu])
            clear HL
            go_enter Try.func71, Try.ntmps71
            go_wp2
            go_ret
            exact RetE.mk (bool_eq HV.out.symm) HE.out
          · have t : (lo.toList != lo'.toList) = true := by rw [bne, toList_ne h5]; rfl
            have t' : (lo.toList == lo'.toList) = false := toList_ne h5
            obtain ⟨u, hu⟩ : ∃ u, Op.bytesLess lo.toList lo'.toList = u := ⟨_, rfl⟩
            have HV : Hid (befG c p lo hi c p lo' hi' = u) := Lib.hid (by rw [HL.out, if_pos rfl, if_pos rfl, if_neg h5, hu])
            clear HL
            go_enter Try.func71, Try.ntmps71
            go_wp2
            go_ret
            exact RetE.mk (bool_eq HV.out.symm) HE.out
        · have HV : Hid (befG c p lo hi c p' lo' hi' = decide (p < p')) := Lib.hid (by rw [HL.out, if_pos rfl, if_neg h4])
          have t : (p != p') = true := by simp [h4]
          clear HL
          go_enter Try.func71, Try.ntmps71
          go_wp2
          go_ret
          exact RetE.mk (bool_eq HV.out.symm) HE.out
      · have HV : Hid (befG c p lo hi c' p' lo' hi' = decide (c < c')) := Lib.hid (by rw [HL.out, if_neg h3])
        have t : (c != c') = true := by simp [h3]
        clear HL
        go_enter Try.func71, Try.ntmps71
        go_wp2
        go_ret
        exact RetE.mk (bool_eq HV.out.symm) HE.out
end Go.Proofs.Ytciamgnfbhijlaa
