/- What the law on courses above another one says of the least course. No program in sight. -/
import Derived.Test.YtciamgnfbhijlaaBestLaw
import Derived.Test.YtciamgnfbhijlaaClash
namespace Go.Proofs.Ytciamgnfbhijlaa
open Go.RowKit
set_option linter.unusedSimpArgs false
set_option linter.unusedVariables false
set_option linter.unnecessarySimpa false

/-- the perpends of a course from a place on, without the end -/
theorem perpF_shift : ∀ (l : List UInt8) (a : Int), perpF a l = (perpF 0 l).map (a + ·)
  | [], _ => rfl
  | [_], _ => rfl
  | x :: y :: r, a => by
    rw [perpF, perpF, perpF_shift (y :: r) (a + qB x), perpF_shift (y :: r) (0 + qB x), List.map_cons, List.map_map]
    rw [Int.zero_add]
    congr 1
    apply List.map_congr_left
    intro z _
    simp only [Function.comp]
    omega
theorem perpTo_cons (x : UInt8) (l : List UInt8) (k : Nat) : perpTo (x :: l) (k + 1) = qB x :: (perpTo l k).map (qB x + ·) := by
  induction k with
  | zero => simp [perpTo, qSum_cons, qSum_nil]
  | succ k ih =>
    rw [perpTo, ih, perpTo, List.map_append, List.take_succ_cons, qSum_cons]
    rfl
theorem perpF_perps : ∀ (l : List UInt8), perpF 0 l = perps l
  | [] => rfl
  | [_] => rfl
  | x :: y :: r => by
    have ih := perpF_perps (y :: r)
    rw [perpF, perpF_shift, ih, Int.zero_add]
    show qB x :: (perpTo (y :: r) r.length).map (qB x + ·) = perpTo (x :: y :: r) (r.length + 1)
    rw [perpTo_cons]
/-- what is best stands at allowed perpends -/
theorem cand_from {ok : Int → Bool} {L : Int} {d q : Nat} {b : UInt8} {r : Rw} (hq : qB b = q) (h1 : 1 ≤ q) (h : cand ok L (d + 1) (rowsT ok L d) b = some r) :
    ∃ r0, best ok L (d + 1 - q) = some r0 ∧ r = ahead b r0 ∧ (q < d + 1 → ok (L - (d + 1 : Nat) + q) = true) ∧ q ≤ d + 1 := by
  rw [cand_eq ok L d q b hq h1] at h
  split at h
  · cases h
  · split at h
    · cases h
    · rename_i h2 r0 h3
      split at h
      · cases h
      · rename_i h4
        refine ⟨r0, h3, (Option.some.inj h).symm, fun h5 => ?_, by omega⟩
        cases h6 : ok (L - ((d + 1 : Nat) : Int) + q) with
        | true => rfl
        | false => exact absurd ⟨h5, h6⟩ h4
theorem step_from {ok : Int → Bool} {L : Int} {d : Nat} {r : Rw} (h : best ok L (d + 1) = some r) : ∃ b, isPc b = true ∧ cand ok L (d + 1) (rowsT ok L d) b = some r := by
  rw [best_succ] at h
  unfold stepS stepS.order5L at h
  simp only [List.foldl] at h
  rcases pickBy_from h with h | h
  · rcases pickBy_from h with h | h
    · rcases pickBy_from h with h | h
      · rcases pickBy_from h with h | h
        · rcases pickBy_from h with h | h
          · cases h
          · exact ⟨83, by decide, h⟩
        · exact ⟨72, by decide, h⟩
      · exact ⟨84, by decide, h⟩
    · exact ⟨66, by decide, h⟩
  · exact ⟨67, by decide, h⟩
theorem best_ok (ok : Int → Bool) (L : Int) (d : Nat) : ∀ r, best ok L d = some r → ∀ y ∈ perpF (L - d) r.t, ok y = true := by
  induction d using Nat.strongRecOn with
  | ind d ih =>
    intro r hr y hy
    cases d with
    | zero =>
      rw [best_zero] at hr
      obtain rfl := Option.some.inj hr
      simp [perpF] at hy
    | succ d =>
      obtain ⟨b, hb, hc⟩ := step_from hr
      have hq1 : 1 ≤ qB b := by have := qB_bd b; unfold isPc at hb; simp at hb; omega
      obtain ⟨q, hq⟩ := Int.eq_ofNat_of_zero_le (show 0 ≤ qB b by omega)
      obtain ⟨r0, h1, rfl, h3, h4⟩ := cand_from hq (by omega) hc
      have hg := best_good _ _ _ r0 h1
      unfold ahead at hy
      dsimp only at hy
      cases ht : r0.t with
      | nil => rw [ht] at hy; simp [perpF] at hy
      | cons z l =>
        rw [ht, perpF, hq] at hy
        have hlt : q < d + 1 := by
          have h5 := hg.le
          rw [ht, List.length_cons] at h5
          omega
        rcases List.mem_cons.1 hy with rfl | hy
        · exact h3 hlt
        · have h6 := ih (d + 1 - q) (by omega) r0 h1 y
          rw [ht] at h6
          apply h6
          rwa [show L - ((d + 1 - q : Nat) : Int) = L - ((d + 1 : Nat) : Int) + (q : Int) by omega]
theorem dist_comm' (a b : Int) : dist a b = dist b a := by unfold dist; split <;> split <;> omega
theorem pair_none (lap : Int) (b o : ByteArray) : (findK lap 0 [b, o]).isNone = true ↔ ∀ y ∈ perps (bts o), farB lap (perps (bts b)) y = true := by
  have h : findK lap 0 [b, o] = match findXY lap (perps (bts o)) (perps (bts b)) with | some (x, y) => some (0, x, y) | none => none := by
    unfold findK
    cases findXY lap (perps (bts o)) (perps (bts b)) with
    | none => rfl
    | some p => obtain ⟨x, y⟩ := p; rfl
  rw [h]
  have h2 := findXY_none (lap := lap) (ys := perps (bts o)) (l := perps (bts b))
  cases h3 : findXY lap (perps (bts o)) (perps (bts b)) with
  | none =>
    have h4 := h2.1 h3
    refine ⟨fun _ y hy => ?_, fun _ => rfl⟩
    unfold farB
    rw [List.all_eq_true]
    intro x hx
    have := h4 x hx y hy
    simp; omega
  | some p =>
    refine ⟨fun h4 => by simp at h4, fun h4 => ?_⟩
    have h5 : findXY lap (perps (bts o)) (perps (bts b)) = none := h2.2 (fun x hx y hy => by
      have := h4 y hy
      unfold farB at this
      rw [List.all_eq_true] at this
      have := this x hx
      simp at this; omega)
    rw [h3] at h5
    cases h5
theorem valid_len {l : List UInt8} {L : Nat} (h : l.all isPc = true) (hq : qSum l = L) (h1 : 1 ≤ L) (h2 : L ≤ 40) : validC l = true ∧ l.length ≤ L := by
  have h3 : ∀ l : List UInt8, l.all isPc = true → (l.length : Int) ≤ qSum l := by
    intro l
    induction l with
    | nil => intro _; simp [qSum_nil]
    | cons a l ih =>
      intro h
      rw [List.all_cons, Bool.and_eq_true] at h
      have h1 := ih h.2
      have h2 : qB a ≠ 0 := by have := h.1; unfold isPc at this; simpa using this
      have := qB_bd a
      rw [qSum_cons, List.length_cons]
      omega
  have h3 := h3 l h
  have h4 : l ≠ [] := fun e => by rw [e, qSum_nil] at hq; omega
  have h5 : 0 < l.length := List.length_pos_iff.2 h4
  refine ⟨?_, by omega⟩
  unfold validC
  rw [h, show inB l.length 1 60 = true by simp [inB]; omega]
  simp; omega
/-- two courses of one length are a wall -/
theorem wall_two {a b : List UInt8} {L : Nat} (ha : a.all isPc = true) (hqa : qSum a = L) (hb : b.all isPc = true) (hqb : qSum b = L) (h1 : 1 ≤ L) (h2 : L ≤ 40) (lap : Int) (hl1 : 1 ≤ lap) (hl2 : lap ≤ 4) :
    wcode [mkS a, mkS b] lap = 0 ∧ Small [mkS a, mkS b] := by
  have va := valid_len ha hqa h1 h2
  have vb := valid_len hb hqb h1 h2
  refine ⟨?_, ?_⟩
  · unfold wcode validW
    rw [show inB lap 1 4 = true by simp [inB]; omega]
    have e : headL [mkS a, mkS b] = (L : Int) := by
      show qSum (bts (mkS a)) = _
      rw [bts_mkS, hqa]
    have b1 : badC (L : Int) (mkS a) = false := by unfold badC lenS; rw [bts_mkS, va.1, hqa]; simp
    have b2 : badC (L : Int) (mkS b) = false := by unfold badC lenS; rw [bts_mkS, vb.1, hqb]; simp
    rw [e]
    simp only [List.any_cons, List.any_nil, b1, b2, Bool.or_false, Bool.not_false, Bool.and_true]
    rfl
  · intro s hs
    simp only [List.mem_cons, List.not_mem_nil, or_false] at hs
    rcases hs with rfl | rfl
    · rw [mkS_size]; omega
    · rw [mkS_size]; omega
/-- the least course above another one, or none -/
theorem above_is {lb : List UInt8} {L : Nat} (hb : lb.all isPc = true) (hq : qSum lb = L) (h1 : 1 ≤ L) (h2 : L ≤ 40) (lap : Int) (hl1 : 1 ≤ lap) (hl2 : lap ≤ 4) :
    (askC (mkS lb) lap = 3 ∧ ∀ lo : List UInt8, lo.all isPc = true → qSum lo = L → (findK lap 0 [mkS lb, mkS lo]).isNone = false) ∨
    (askC (mkS lb) lap = 0 ∧ ∃ t : List UInt8, (askO (mkS lb) lap).t = t ∧ t.all isPc = true ∧ qSum t = L ∧ (askO (mkS lb) lap).c = cutN t ∧ (findK lap 0 [mkS lb, mkS t]).isNone = true ∧
      ∀ lo : List UInt8, lo.all isPc = true → qSum lo = L → (findK lap 0 [mkS lb, mkS lo]).isNone = true → cutN t ≤ cutN lo) := by
  have v := valid_len hb hq h1 h2
  have hlen : lenS (mkS lb) = (L : Int) := by unfold lenS; rw [bts_mkS, hq]
  have hA : askC (mkS lb) lap = if (best (farB lap (perps lb)) (L : Int) L).isSome = true then 0 else 3 := by
    unfold askC
    rw [bts_mkS, v.1, show inB lap 1 4 = true by simp [inB]; omega, hlen, Int.toNat_natCast]
    rw [if_pos rfl, if_pos rfl, if_neg (by omega)]
  have hle : ∀ lo : List UInt8, lo.all isPc = true → qSum lo = L → (findK lap 0 [mkS lb, mkS lo]).isNone = true → noWorse (best (farB lap (perps lb)) L L) (rowOf lo) := fun lo p q hn => by
    have h3 := (pair_none lap (mkS lb) (mkS lo)).1 hn
    rw [bts_mkS, bts_mkS] at h3
    refine best_le _ _ lo L p q (fun y hy => ?_)
    rw [Int.sub_self, perpF_perps] at hy
    exact h3 y hy
  cases hbst : best (farB lap (perps lb)) (L : Int) L with
  | none =>
    left
    rw [hbst] at hA
    refine ⟨hA, fun lo p q => ?_⟩
    cases h4 : (findK lap 0 [mkS lb, mkS lo]).isNone with
    | false => rfl
    | true =>
      obtain ⟨r, hr, _⟩ := hle lo p q h4
      rw [hbst] at hr
      cases hr
  | some r =>
    right
    rw [hbst] at hA
    have hA0 : askC (mkS lb) lap = 0 := hA
    have hg := best_good _ _ _ r hbst
    have hO : askO (mkS lb) lap = r := by
      unfold askO
      rw [if_pos hA0, bts_mkS, hlen, Int.toNat_natCast, hbst]
      rfl
    refine ⟨hA0, r.t, by rw [hO], hg.pc, hg.sum, by rw [hO, hg.cuts], ?_, fun lo p q hn => ?_⟩
    · rw [pair_none, bts_mkS, bts_mkS]
      intro y hy
      have := best_ok _ _ _ r hbst y
      rw [Int.sub_self, perpF_perps] at this
      exact this hy
    · obtain ⟨r2, hr2, hl⟩ := hle lo p q hn
      rw [hbst] at hr2
      obtain rfl := Option.some.inj hr2
      rw [← hg.cuts]
      rcases hl with h | h
      · exact Int.le_of_lt h
      · exact Int.le_of_eq h.1
end Go.Proofs.Ytciamgnfbhijlaa
