/- A group of texts, one behind the other: FrontQ, FrontN. -/
import Derived.Test.YtnhmcmohnpbcjaaFrontP
/- The parts of a course: the reference's side; the codes; both sides' PartsOf. -/
namespace Go.Proofs.Ytnhmcmohnpbcjaa
open Go.RowKit
set_option linter.unusedSimpArgs false
set_option linter.unusedVariables false
set_option linter.unnecessarySimpa false

theorem OwnParts.recs {w : World} {base : Nat} {v : Value} {ps : List (Int × Int)} (h : OwnParts w base v ps) : OwnRecs 51 2 w base v (ps.map partC) := by
  refine ⟨?_, partC_len ps⟩
  rw [List.length_map, ← List.flatMap_def]
  exact h
theorem OwnParts.at {w : World} {base n c : Nat} {ao : Option Addr} {ps : List (Int × Int)} (h : OwnParts w base (.slice ao n c) ps) {k : Nat} (hk : k < n) : ∃ g, ao = some ⟨g, 0, none⟩ ∧ w.cell? ⟨g, k * 2, none⟩ = some (.int .i64 (ps.getD k (0, 0)).1) ∧ w.cell? ⟨g, k * 2 + 1, none⟩ = some (.int .i64 (ps.getD k (0, 0)).2) := by
  have hl := h.len
  rcases h.2 with ⟨hv, h0⟩ | ⟨g, cap, cur, hv, _⟩
  · simp only [Value.slice.injEq] at hv; omega
  · simp only [Value.slice.injEq] at hv
    obtain ⟨rfl, _, rfl⟩ := hv
    have hr : (ps.map partC).getD k [] = [.int .i64 (ps.getD k (0, 0)).1, .int .i64 (ps.getD k (0, 0)).2] := by
      rw [List.getD_eq_getElem?_getD, List.getElem?_map, List.getElem?_eq_getElem (by omega), List.getD_eq_getElem?_getD, List.getElem?_eq_getElem (by omega)]
      rfl
    obtain ⟨r1, r2, _, _⟩ := h.recs.reads2 k hk hr
    exact ⟨g, rfl, r1, r2⟩
theorem wpList_append_part {W w0 w : World} {ops : Array Oper} {rest : List Oper} {o : Oper} {a : Act} {Q : Exit → Act → World → Prop} (hgd : o.guard = none) (s x : Operand)
    (ho : o.op = .call { callee := .builtin .append, args := #[s, x], argTypes := #[47, 47] })
    (v : Value) (ps : List (Int × Int)) (f y : Int) (hs : a.eval s = v) (hw : w = w0.alloc (.cells #[.int .i64 f, .int .i64 y] 51)) (hx : a.eval x = .slice (some ⟨w0.heap.size, 0, none⟩) 1 1)
    (hown : OwnParts w0 W.heap.size v ps) (e : Ext W w0) (hlen : ps.length ≤ 10000000)
    (h : ∀ v' w', OwnParts w' W.heap.size v' (ps ++ [(f, y)]) → Ext W w' → wpList Try.prog ops Q rest (a.put o.dst v') w') : wpList Try.prog ops Q (o :: rest) a w := by
  refine wpList_append_gen 47 51 (.agg #[.int .i64 0, .int .i64 0]) 2 16 Try.underlying47 info_part rfl (by decide) (by decide) hgd s x ho v ps.length (ps.flatMap partC) [.int .i64 f, .int .i64 y] hs hw hx rfl (two_one f y) hown e hlen ?_
  intro v' w' ho' e'
  refine h v' w' ?_ e'
  unfold OwnParts
  rw [List.flatMap_append, List.length_append]
  exact ho'
set_option maxHeartbeats 1600000 in
theorem s_l09Open (fb : Nat) (L C : Int) (ao : Option Addr) (n c : Nat) (os : List Opn) (a q : Int) (w : World) (hf : Three w fb (.int .i64 L) (.int .i64 C) (.slice ao n c)) (hx : Opens w ao n os) (hL : L ≤ 200) (hC : C ≤ 40) (hok : okTo L C os os.length = true) :
    Calls Try.prog 68 #[.pointer (some ⟨fb, 0, none⟩), .int .i64 a, .int .i64 q] w (RetE (.bool (opnAt os a q)) w) := by
  have hxl := hx.1
  have hxm := hx.2.1
  have HX := Lib.hid hx
  have HF := Lib.hid hf
  have HOK := Lib.hid (fun k (h : k < os.length) => isOpn_iff.1 (okTo_opn hok h))
  have HL := Lib.hid hxl
  have HA : Hid (opnAt os a q = (os.take n).any fun o => inB a o.fr (o.en - 1) && inB q o.lo (o.hi - 1)) := Lib.hid (by unfold opnAt; rw [List.take_of_length_le (by omega)])
  have HT : Hid (∀ k, k < n → (inB a (os.getD k default).fr ((os.getD k default).en - 1) && inB q (os.getD k default).lo ((os.getD k default).hi - 1)) = true → opnAt os a q = true) := Lib.hid (fun k hk h => by
    unfold opnAt
    rw [List.any_eq_true]
    exact ⟨_, opn_at (by omega), h⟩)
  have HN : Hid (∀ k, k < n → (inB a (os.getD k default).fr ((os.getD k default).en - 1) && inB q (os.getD k default).lo ((os.getD k default).hi - 1)) = false → ((os.take k).any fun o => inB a o.fr (o.en - 1) && inB q o.lo (o.hi - 1)) = false → ((os.take (k + 1)).any fun o => inB a o.fr (o.en - 1) && inB q o.lo (o.hi - 1)) = false) := Lib.hid (fun k hk h h2 => by
    have hkx : k < os.length := by omega
    rw [List.take_succ_eq_append_getElem hkx, List.any_append, h2]
    rw [List.getD_eq_getElem?_getD, List.getElem?_eq_getElem hkx, Option.getD_some] at h
    simp [h])
  clear hx hf hok hxl
  go_enter Try.func68, Try.ntmps68
  go_wp2
  go_loopw [7] (fun i wr => ∃ k : Nat, k ≤ n ∧ i = .int .i64 k ∧ Hid (((os.take k).any fun o => inB a o.fr (o.en - 1) && inB q o.lo (o.hi - 1)) = false) ∧ Ext w wr) (fun i _ => n - (intOf i).toNat)
  case atStart => exact ⟨0, Nat.zero_le _, rfl, Lib.hid (by simp), Ext.refl _⟩
  case round =>
    obtain ⟨k, hk, rfl, HNo, er⟩ := hrel
    obtain ⟨f0, f1, f2, f3⟩ := HF.out.ext er
    have HER := Lib.hid er
    by_cases hlt : k < n
    · obtain ⟨bb, off, rfl, d0, d1, d2, d3⟩ := (HX.out.ext er).2.2.1 k hlt
      have ho := HOK.out k (by have := HL.out; omega)
      have ht := HT.out k hlt
      have hn := HN.out k hlt
      obtain ⟨x, hxk⟩ : ∃ x, os.getD k default = x := ⟨_, rfl⟩
      rw [hxk] at d0 d1 d2 d3 ho ht hn
      obtain ⟨x1, x2, x3, x4⟩ := x
      have K : Four wr bb (off + k * 4) x1 x2 x3 x4 := ⟨d0, d1, d2, d3⟩
      obtain ⟨K0, K1, K2, K3⟩ := K
      have ho' : 0 ≤ x1 ∧ x1 < x2 ∧ x2 ≤ L ∧ 0 ≤ x3 ∧ x3 < x4 ∧ x4 ≤ C := ho
      have HTk : Hid ((inB a x1 (x2 - 1) && inB q x3 (x4 - 1)) = true → opnAt os a q = true) := Lib.hid ht
      have HNk : Hid ((inB a x1 (x2 - 1) && inB q x3 (x4 - 1)) = false → ((os.take (k + 1)).any fun o => inB a o.fr (o.en - 1) && inB q o.lo (o.hi - 1)) = false) := Lib.hid (fun h => hn h HNo.out)
      clear d0 d1 d2 d3 hxk ho ht hn er
      cases g1 : inB a x1 (x2 - 1) with
      | false =>
        have HNx := Lib.hid (HNk.out (by rw [g1]; rfl))
        go_wp2_with (go_at_call 86; refine (s_l00In _ _ _ _).mono ?_; rintro e w' ⟨rfl, rfl⟩)
        go_roundw
        case rel => first | exact ⟨k + 1, by omega, by go_num, HNx, HER.out.alloc _⟩ | ((repeat apply Exists.intro); exact ⟨⟨k + 1, by omega, by go_num, HNx, HER.out.alloc _⟩, rfl⟩)
        case measure => (simp [intOf] <;> omega)
      | true =>
        cases g2 : inB q x3 (x4 - 1) with
        | false =>
          have HNx := Lib.hid (HNk.out (by rw [g1, g2]; rfl))
          go_wp2_with (go_at_call 86; refine (s_l00In _ _ _ _).mono ?_; rintro e w' ⟨rfl, rfl⟩)
          go_roundw
          case rel => first | exact ⟨k + 1, by omega, by go_num, HNx, HER.out.alloc _⟩ | ((repeat apply Exists.intro); exact ⟨⟨k + 1, by omega, by go_num, HNx, HER.out.alloc _⟩, rfl⟩)
          case measure => (simp [intOf] <;> omega)
        | true =>
          have HV := Lib.hid (HTk.out (by rw [g1, g2]; rfl))
          go_wp2_with (go_at_call 86; refine (s_l00In _ _ _ _).mono ?_; rintro e w' ⟨rfl, rfl⟩)
          go_ret
          exact RetE.mk (bool_eq HV.out.symm) (HER.out.alloc _)
    · obtain rfl : k = n := by omega
      go_wp2
      go_ret
      exact RetE.mk (bool_eq (by rw [HA.out, HNo.out])) er
theorem scS_num (L : Int) (os : List Opn) (c : Int) : ∀ k, (scS L os c k).2.length ≤ k := by
  intro k
  induction k with
  | zero => exact Nat.le_refl _
  | succ k ih =>
    show (stepP L os c (scS L os c k) k).2.length ≤ _
    unfold stepP
    split
    · split
      · simp; omega
      · omega
    · split
      · simp only []; omega
      · omega
set_option maxRecDepth 100000 in
set_option maxHeartbeats 4000000 in
theorem s_l09Parts (fb : Nat) (L C : Int) (ao : Option Addr) (n c : Nat) (os : List Opn) (q : Int) (w : World) (hf : Three w fb (.int .i64 L) (.int .i64 C) (.slice ao n c)) (hx : Opens w ao n os) (hL0 : 1 ≤ L) (hL : L ≤ 200) (hC : C ≤ 40) (hok : okTo L C os os.length = true) :
    Calls Try.prog 75 #[.pointer (some ⟨fb, 0, none⟩), .int .i64 q] w (RetParts (partsI L q os) w) := by
  rw [← parts_agree (by omega) hok]
  obtain ⟨N, rfl⟩ : ∃ N : Nat, L = N := ⟨L.toNat, by omega⟩
  have HPA : Hid (partsS N q os = (scS N os q (N + 1)).2) := Lib.hid (by unfold partsS; rw [Int.toNat_natCast])
  have HStep : Hid (∀ k : Nat, scS N os q (k + 1) = stepP N os q (scS N os q k) k) := Lib.hid (fun k => rfl)
  have HNum := Lib.hid (fun k => scS_num N os q k)
  have HF := Lib.hid hf
  have HO := Lib.hid (fun W (e : Ext w W) a => s_l09Open fb N C ao n c os a q W (hf.ext e) (hx.ext e) hL hC hok)
  obtain ⟨f0, f1, f2, f3⟩ := id hf
  clear hf hx hok
  go_enter Try.func75, Try.ntmps75
  go_wp2
  go_loopw [5, 6, 7] (fun v f a wr => ∃ (k : Nat) (fI : Int) (ps : List (Int × Int)), k ≤ N + 1 ∧ a = .int .i64 k ∧ f = .int .i64 fI ∧ Hid (OwnParts wr w.heap.size v ps) ∧ Hid (scS N os q k = (fI, ps)) ∧ Ext w wr) (fun _ _ a _ => N + 1 - (intOf a).toNat)
  case atStart => exact ⟨0, -1, [], by omega, rfl, rfl, Lib.hid (OwnParts.empty (W := w) w.heap.size (Nat.le_refl _)), Lib.hid rfl, (Ext.refl w).alloc _⟩
  case round =>
    obtain ⟨k, fI, ps, hk, rfl, rfl, HW, HS, er⟩ := hrel
    clear f0 f1 f2 f3
    obtain ⟨f0, f1, f2, f3⟩ := HF.out.ext er
    have HER := Lib.hid er
    have hps : ps.length ≤ 10000000 := by have h := HNum.out k; rw [HS.out] at h; simp only [] at h; omega
    by_cases hkN : k ≤ N
    · have hst := HStep.out k
      rw [HS.out] at hst
      obtain ⟨ov, hov⟩ : ∃ v, openS N os q k = v := ⟨_, rfl⟩
      unfold stepP at hst
      rw [hov] at hst
      have HST := Lib.hid hst
      have HOp : Hid (k < N → ∀ W, Ext w W → Calls Try.prog 68 #[.pointer (some ⟨fb, 0, none⟩), .int .i64 (k : Int), .int .i64 q] W (RetE (.bool ov) W)) := Lib.hid (fun h W e => by
        have h2 := HO.out W e k
        rw [← openS_at os q N k (by omega), hov] at h2
        exact h2)
      have HNo : Hid (k = N → ov = true) := Lib.hid (fun h => by rw [← hov]; unfold openS; simp [h])
      clear hst hov
      obtain ⟨a5, n5, c5, rfl⟩ := owns_slice HW.out
      cases ov with
      | true =>
        by_cases hf0 : 0 ≤ fI
        · have HN : Hid (scS N os q (k + 1) = (-1, ps ++ [(fI, (k : Int))])) := Lib.hid (by rw [HST.out, if_pos rfl, if_pos hf0])
          by_cases hkl : k = N
          · subst hkl
            go_wp2_with (at_builtin; refine wpList_append_part (W := w) rfl (.tmp 35) (.tmp 39) rfl _ ps fI k rfl rfl rfl HW.out HER.out hps ?_; intro v' w2 ho2 e2; have HW2 := Lib.hid ho2; clear ho2)
            go_roundw
            case rel => first | exact ⟨k + 1, -1, _, by omega, by go_num, rfl, HW2, HN, e2⟩ | ((repeat apply Exists.intro); exact ⟨⟨k + 1, -1, _, by omega, by go_num, rfl, HW2, HN, e2⟩, rfl⟩)
            case measure => (simp [intOf] <;> omega)
          · have t : ((k : Int) == (N : Int)) = false := beq_eq_false_iff_ne.2 (by omega)
            have HOk := Lib.hid (HOp.out (by omega))
            go_wp2_with (first | (go_at_call 68; refine (HOk.out _ HER.out).mono ?_; rintro e w1 ⟨rfl, e1⟩) | (at_builtin; refine wpList_append_part (W := w) rfl (.tmp 35) (.tmp 39) rfl _ ps fI k rfl rfl rfl (HW.out.ext e1) (HER.out.trans e1) hps ?_; intro v' w2 ho2 e2; have HW2 := Lib.hid ho2; clear ho2))
            go_roundw
            case rel => first | exact ⟨k + 1, -1, _, by omega, by go_num, rfl, HW2, HN, e2⟩ | ((repeat apply Exists.intro); exact ⟨⟨k + 1, -1, _, by omega, by go_num, rfl, HW2, HN, e2⟩, rfl⟩)
            case measure => (simp [intOf] <;> omega)
        · have HN : Hid (scS N os q (k + 1) = (fI, ps)) := Lib.hid (by rw [HST.out, if_pos rfl, if_neg hf0])
          by_cases hkl : k = N
          · subst hkl
            go_wp2
            go_roundw
            case rel => first | exact ⟨k + 1, fI, _, by omega, by go_num, rfl, HW, HN, HER.out⟩ | ((repeat apply Exists.intro); exact ⟨⟨k + 1, fI, _, by omega, by go_num, rfl, HW, HN, HER.out⟩, rfl⟩)
            case measure => (simp [intOf] <;> omega)
          · have t : ((k : Int) == (N : Int)) = false := beq_eq_false_iff_ne.2 (by omega)
            have HOk := Lib.hid (HOp.out (by omega))
            go_wp2_with (first | (go_at_call 68; refine (HOk.out _ HER.out).mono ?_; rintro e w1 ⟨rfl, e1⟩))
            go_roundw
            case rel => first | exact ⟨k + 1, fI, _, by omega, by go_num, rfl, Lib.hid (HW.out.ext e1), HN, HER.out.trans e1⟩ | ((repeat apply Exists.intro); exact ⟨⟨k + 1, fI, _, by omega, by go_num, rfl, Lib.hid (HW.out.ext e1), HN, HER.out.trans e1⟩, rfl⟩)
            case measure => (simp [intOf] <;> omega)
      | false =>
        have hkl : k < N := by
          by_cases h : k = N
          · have := HNo.out h; cases this
          · omega
        have t : ((k : Int) == (N : Int)) = false := beq_eq_false_iff_ne.2 (by omega)
        have HOk := Lib.hid (HOp.out hkl)
        by_cases hf0 : fI < 0
        · have HN : Hid (scS N os q (k + 1) = ((k : Int), ps)) := Lib.hid (by rw [HST.out, if_neg (by simp), if_pos hf0])
          go_wp2_with (first | (go_at_call 68; refine (HOk.out _ HER.out).mono ?_; rintro e w1 ⟨rfl, e1⟩))
          go_roundw
          case rel => first | exact ⟨k + 1, (k : Int), _, by omega, by go_num, rfl, Lib.hid (HW.out.ext e1), HN, HER.out.trans e1⟩ | ((repeat apply Exists.intro); exact ⟨⟨k + 1, (k : Int), _, by omega, by go_num, rfl, Lib.hid (HW.out.ext e1), HN, HER.out.trans e1⟩, rfl⟩)
          case measure => (simp [intOf] <;> omega)
        · have HN : Hid (scS N os q (k + 1) = (fI, ps)) := Lib.hid (by rw [HST.out, if_neg (by simp), if_neg hf0])
          go_wp2_with (first | (go_at_call 68; refine (HOk.out _ HER.out).mono ?_; rintro e w1 ⟨rfl, e1⟩))
          go_roundw
          case rel => first | exact ⟨k + 1, fI, _, by omega, by go_num, rfl, Lib.hid (HW.out.ext e1), HN, HER.out.trans e1⟩ | ((repeat apply Exists.intro); exact ⟨⟨k + 1, fI, _, by omega, by go_num, rfl, Lib.hid (HW.out.ext e1), HN, HER.out.trans e1⟩, rfl⟩)
          case measure => (simp [intOf] <;> omega)
    · obtain rfl : k = N + 1 := by omega
      obtain ⟨a5, n5, c5, rfl⟩ := owns_slice HW.out
      go_wp2
      go_ret
      refine RetParts.of_own ?_ HER.out
      rw [HPA.out, HS.out]
      exact HW.out
def crC (L C q : Int) (os : List Opn) : Int := if validF L C os then (if inB q 0 (C - 1) then 0 else 2) else 1
theorem i_courseCode (L C : Int) (ao : Option Addr) (n c : Nat) (os : List Opn) (q : Int) (w : World) (hx : Opens w ao n os) (hnc : n ≤ c) :
    Calls Try.prog 67 #[.agg #[.int .i64 L, .int .i64 C, .slice ao n c], .int .i64 q] w (RetE (.int .i64 (crC L C q os)) w) := by
  have HE : Hid (Ext w (w.alloc (.cells #[.int .i64 L, .int .i64 C, .slice ao n c] 30))) := Lib.hid ((Ext.refl w).alloc _)
  have H1 := Lib.hid (fun W (e : Ext w W) => i_ValidFront L C ao n c os W (hx.ext e) hnc)
  have A : Three (w.alloc (.cells #[.int .i64 L, .int .i64 C, .slice ao n c] 30)) w.heap.size (.int .i64 L) (.int .i64 C) (.slice ao n c) := Three.new w _ _ _ _
  cases hv : validF L C os with
  | true =>
    obtain ⟨⟨l1, l2⟩, ⟨c1, c2⟩, n8, hok⟩ := validF_bd hv
    rw [hv] at H1
    cases hb : inB q 0 (C - 1) with
    | true =>
      have HV : Hid (crC L C q os = 0) := Lib.hid (by unfold crC; rw [hv, hb]; rfl)
      clear hv hok
      go_enter Try.func67, Try.ntmps67
      go_wp2_with (first | (go_at_call 51; refine (H1.out _ HE.out).mono ?_; rintro e w1 ⟨rfl, e1⟩; replace A := A.ext e1) | (go_at_call 79; refine (i_within _ _ _ _).mono ?_; rintro e w' ⟨rfl, rfl⟩))
      go_ret
      exact RetE.mk (int_eq HV.out.symm) (HE.out.trans e1)
    | false =>
      have HV : Hid (crC L C q os = 2) := Lib.hid (by unfold crC; rw [hv, hb]; rfl)
      clear hv hok
      go_enter Try.func67, Try.ntmps67
      go_wp2_with (first | (go_at_call 51; refine (H1.out _ HE.out).mono ?_; rintro e w1 ⟨rfl, e1⟩; replace A := A.ext e1) | (go_at_call 79; refine (i_within _ _ _ _).mono ?_; rintro e w' ⟨rfl, rfl⟩))
      go_ret
      exact RetE.mk (int_eq HV.out.symm) (HE.out.trans e1)
  | false =>
    have HV : Hid (crC L C q os = 1) := Lib.hid (by unfold crC; rw [hv]; rfl)
    rw [hv] at H1
    clear hv
    go_enter Try.func67, Try.ntmps67
    go_wp2_with (first | (go_at_call 51; refine (H1.out _ HE.out).mono ?_; rintro e w1 ⟨rfl, e1⟩; replace A := A.ext e1))
    go_ret
    exact RetE.mk (int_eq HV.out.symm) (HE.out.trans e1)
theorem s_l09Code (fb : Nat) (L C : Int) (ao : Option Addr) (n c : Nat) (os : List Opn) (q : Int) (w : World) (hf : Three w fb (.int .i64 L) (.int .i64 C) (.slice ao n c)) (hx : Opens w ao n os) :
    Calls Try.prog 74 #[.pointer (some ⟨fb, 0, none⟩), .int .i64 q] w (RetE (.int .i64 (crC L C q os)) w) := by
  have H1 := Lib.hid (s_l09Ok fb L C ao n c os w hf hx)
  have A := hf
  cases hv : validF L C os with
  | true =>
    obtain ⟨⟨l1, l2⟩, ⟨c1, c2⟩, n8, hok⟩ := validF_bd hv
    rw [hv] at H1
    cases hb : inB q 0 (C - 1) with
    | true =>
      have HV : Hid (crC L C q os = 0) := Lib.hid (by unfold crC; rw [hv, hb]; rfl)
      clear hv hok hx
      go_enter Try.func74, Try.ntmps74
      go_wp2_with (first | (go_at_call 46; refine (H1.out).mono ?_; rintro e w1 ⟨rfl, e1⟩; replace A := A.ext e1) | (go_at_call 86; refine (s_l00In _ _ _ _).mono ?_; rintro e w' ⟨rfl, rfl⟩))
      go_ret
      exact RetE.mk (int_eq HV.out.symm) e1
    | false =>
      have HV : Hid (crC L C q os = 2) := Lib.hid (by unfold crC; rw [hv, hb]; rfl)
      clear hv hok hx
      go_enter Try.func74, Try.ntmps74
      go_wp2_with (first | (go_at_call 46; refine (H1.out).mono ?_; rintro e w1 ⟨rfl, e1⟩; replace A := A.ext e1) | (go_at_call 86; refine (s_l00In _ _ _ _).mono ?_; rintro e w' ⟨rfl, rfl⟩))
      go_ret
      exact RetE.mk (int_eq HV.out.symm) e1
  | false =>
    have HV : Hid (crC L C q os = 1) := Lib.hid (by unfold crC; rw [hv]; rfl)
    rw [hv] at H1
    clear hv hx
    go_enter Try.func74, Try.ntmps74
    go_wp2_with (first | (go_at_call 46; refine (H1.out).mono ?_; rintro e w1 ⟨rfl, e1⟩; replace A := A.ext e1))
    go_ret
    exact RetE.mk (int_eq HV.out.symm) e1
def partsR (L C q : Int) (os : List Opn) : List (Int × Int) := if crC L C q os = 0 then partsI L q os else []
def RetPartsC (ps : List (Int × Int)) (k : Int) (w : World) (e : Ending) (w' : World) : Prop := ∃ ao cap, e = .returned (.tuple #[.slice ao ps.length cap, .int .i64 k]) ∧ OwnParts w' w.heap.size (.slice ao ps.length cap) ps ∧ Ext w w'
theorem RetPartsC.of_own {ps : List (Int × Int)} {k k' : Int} {w w' : World} {v : Value} (h : OwnParts w' w.heap.size v ps) (e : Ext w w') (hk : k' = k) : RetPartsC ps k w (.returned (.tuple #[v, .int .i64 k'])) w' := by
  obtain ⟨a, m, c, rfl⟩ := owns_slice h
  obtain rfl := h.len
  exact ⟨a, c, by rw [hk], h, e⟩
theorem crC_ok {L C q : Int} {os : List Opn} (h : crC L C q os = 0) : validF L C os = true ∧ 0 ≤ q ∧ q ≤ C - 1 := by
  unfold crC at h
  split at h
  · rename_i hv
    split at h
    · rename_i hb; exact ⟨hv, inB_iff.1 hb⟩
    · omega
  · omega
set_option maxHeartbeats 800000 in
theorem i_PartsOf (L C : Int) (ao : Option Addr) (n c : Nat) (os : List Opn) (q : Int) (w : World) (hx : Opens w ao n os) (hnc : n ≤ c) :
    Calls Try.prog 23 #[.agg #[.int .i64 L, .int .i64 C, .slice ao n c], .int .i64 q] w (RetPartsC (partsR L C q os) (crC L C q os) w) := by
  have HE : Hid (Ext w (w.alloc (.cells #[.int .i64 L, .int .i64 C, .slice ao n c] 30))) := Lib.hid ((Ext.refl w).alloc _)
  have H1 := Lib.hid (fun W (e : Ext w W) => i_courseCode L C ao n c os q W (hx.ext e) hnc)
  have A : Three (w.alloc (.cells #[.int .i64 L, .int .i64 C, .slice ao n c] 30)) w.heap.size (.int .i64 L) (.int .i64 C) (.slice ao n c) := Three.new w _ _ _ _
  by_cases h0 : crC L C q os = 0
  · have hv := crC_ok h0
    have hn8 := (validF_bd hv.1).2.2.1
    have hxl := hx.1
    have H2 := Lib.hid (fun W (e : Ext w W) => i_partsOf L C ao n c os q W (hx.ext e) (by omega))
    have HR : Hid (partsR L C q os = partsI L q os) := Lib.hid (by unfold partsR; rw [if_pos h0])
    have H0 := Lib.hid h0
    rw [h0] at H1
    clear h0 hv hx hxl
    go_enter Try.func23, Try.ntmps23
    go_wp2_with (first | (go_at_call 67; refine (H1.out _ HE.out).mono ?_; rintro e w1 ⟨rfl, e1⟩; replace A := A.ext e1) | (go_at_call 66; refine (H2.out _ (HE.out.trans e1)).mono ?_; rintro e w2 ⟨a2, c2, rfl, o2, e2⟩; have HO2 := Lib.hid o2; clear o2))
    go_ret2
    have E := HE.out.trans e1
    refine RetPartsC.of_own ?_ (E.trans e2) H0.out.symm
    rw [HR.out]
    exact HO2.out.mono E.size
  · have HR : Hid (partsR L C q os = []) := Lib.hid (by unfold partsR; rw [if_neg h0])
    obtain ⟨k, hk⟩ : ∃ k, crC L C q os = k := ⟨_, rfl⟩
    have HK := Lib.hid hk
    rw [hk] at H1
    have t : (k != 0) = true := by simp; omega
    clear h0 hk
    go_enter Try.func23, Try.ntmps23
    go_wp2_with (first | (go_at_call 67; refine (H1.out _ HE.out).mono ?_; rintro e w1 ⟨rfl, e1⟩; replace A := A.ext e1))
    go_ret2
    refine RetPartsC.of_own ?_ (HE.out.trans e1) HK.out.symm
    rw [HR.out]
    exact World.ownsRow_nil _ _ _ _
set_option maxHeartbeats 800000 in
theorem s_PartsOf (L C : Int) (ao : Option Addr) (n c : Nat) (os : List Opn) (q : Int) (w : World) (hx : Opens w ao n os) :
    Calls Try.prog 41 #[.agg #[.int .i64 L, .int .i64 C, .slice ao n c], .int .i64 q] w (RetPartsC (partsR L C q os) (crC L C q os) w) := by
  have HE : Hid (Ext w (w.alloc (.cells #[.int .i64 L, .int .i64 C, .slice ao n c] 30))) := Lib.hid ((Ext.refl w).alloc _)
  have A : Three (w.alloc (.cells #[.int .i64 L, .int .i64 C, .slice ao n c] 30)) w.heap.size (.int .i64 L) (.int .i64 C) (.slice ao n c) := Three.new w _ _ _ _
  have H1 := Lib.hid (s_l09Code w.heap.size L C ao n c os q _ A (hx.ext HE.out))
  by_cases h0 : crC L C q os = 0
  · have hv := crC_ok h0
    obtain ⟨⟨l1, l2⟩, ⟨c1, c2⟩, n8, hok⟩ := validF_bd hv.1
    have H2 := Lib.hid (fun W (e : Ext (w.alloc (.cells #[.int .i64 L, .int .i64 C, .slice ao n c] 30)) W) => s_l09Parts w.heap.size L C ao n c os q W (A.ext e) (hx.ext (HE.out.trans e)) l1 l2 c2 hok)
    have HR : Hid (partsR L C q os = partsI L q os) := Lib.hid (by unfold partsR; rw [if_pos h0])
    have H0 := Lib.hid h0
    rw [h0] at H1
    clear h0 hv hx hok
    go_enter Try.func41, Try.ntmps41
    go_wp2_with (first | (go_at_call 74; refine (H1.out).mono ?_; rintro e w1 ⟨rfl, e1⟩; replace A := A.ext e1) | (go_at_call 75; refine (H2.out _ e1).mono ?_; rintro e w2 ⟨a2, c2, rfl, o2, e2⟩; have HO2 := Lib.hid o2; clear o2))
    go_ret2
    have E := HE.out.trans e1
    refine RetPartsC.of_own ?_ (E.trans e2) H0.out.symm
    rw [HR.out]
    exact HO2.out.mono E.size
  · have HR : Hid (partsR L C q os = []) := Lib.hid (by unfold partsR; rw [if_neg h0])
    obtain ⟨k, hk⟩ : ∃ k, crC L C q os = k := ⟨_, rfl⟩
    have HK := Lib.hid hk
    rw [hk] at H1
    have t : (k != 0) = true := by simp; omega
    clear h0 hk
    go_enter Try.func41, Try.ntmps41
    go_wp2_with (first | (go_at_call 74; refine (H1.out).mono ?_; rintro e w1 ⟨rfl, e1⟩; replace A := A.ext e1))
    go_ret2
    refine RetPartsC.of_own ?_ (HE.out.trans e1) HK.out.symm
    rw [HR.out]
    exact World.ownsRow_nil _ _ _ _
end Go.Proofs.Ytnhmcmohnpbcjaa

/- The narrowest pier: both sides. -/
namespace Go.Proofs.Ytnhmcmohnpbcjaa
open Go.RowKit
set_option linter.unusedSimpArgs false
set_option linter.unusedVariables false
set_option linter.unnecessarySimpa false

def minP (best : Int) (p : Int × Int) : Int := if best < 0 ∨ p.2 - p.1 < best then p.2 - p.1 else best
def narTo (L : Int) (os : List Opn) : Nat → Int
  | 0 => -1
  | k + 1 => (partsI L k os).foldl minP (narTo L os k)
def narC (L C : Int) (os : List Opn) : Int := if validF L C os then (if narTo L os C.toNat < 0 then 3 else 0) else 1
def narN (L C : Int) (os : List Opn) : Int := if narC L C os = 0 then narTo L os C.toNat else 0
def narV (L C : Int) (os : List Opn) : Value := .tuple #[.int .i64 (narN L C os), .int .i64 (narC L C os)]
theorem narV_bad {L C k : Int} {os : List Opn} (h : narC L C os = k) (hk : k ≠ 0) : Value.tuple #[.int .i64 0, .int .i64 k] = narV L C os := by
  unfold narV narN
  rw [if_neg (by rw [h]; exact hk), h]
theorem narV_good {L C : Int} {os : List Opn} (h : narC L C os = 0) : Value.tuple #[.int .i64 (narTo L os C.toNat), .int .i64 0] = narV L C os := by
  unfold narV narN
  rw [if_pos h, h]
theorem gI_bd {L : Int} : ∀ (l : List Opn) (st : Int × List (Int × Int)), (∀ o ∈ l, 0 ≤ o.fr ∧ o.fr < o.en ∧ o.en ≤ L) → 0 ≤ st.1 ∧ (∀ p ∈ st.2, 0 ≤ p.1 ∧ p.1 < p.2 ∧ p.2 ≤ L) → 0 ≤ (l.foldl gI st).1 ∧ ∀ p ∈ (l.foldl gI st).2, 0 ≤ p.1 ∧ p.1 < p.2 ∧ p.2 ≤ L := by
  intro l
  induction l with
  | nil => intro st _ h; exact h
  | cons o r ih =>
    intro st hl h
    rw [List.foldl_cons]
    refine ih _ (fun x hx => hl x (List.mem_cons_of_mem _ hx)) ⟨?_, ?_⟩
    · have := hl o (List.mem_cons_self ..); unfold gI; simp only []; omega
    · intro p hp
      have ho := hl o (List.mem_cons_self ..)
      unfold gI addI at hp
      simp only [] at hp
      split at hp
      · rcases List.mem_append.1 hp with hp | hp
        · exact h.2 p hp
        · simp only [List.mem_singleton] at hp; subst hp; simp only []; omega
      · exact h.2 p hp
theorem parts_bd {L C c : Int} {os : List Opn} (h : okTo L C os os.length = true) : ∀ p ∈ partsI L c os, 0 ≤ p.1 ∧ p.1 < p.2 ∧ p.2 ≤ L := by
  have h1 := gI_bd (L := L) ((os.take os.length).filter (inC c)) (0, []) (fun o ho => by
    have := okTo_mem h (List.mem_of_mem_take (List.mem_filter.1 ho).1)
    omega) ⟨by decide, by simp⟩
  intro p hp
  unfold partsI addI at hp
  split at hp
  · rcases List.mem_append.1 hp with hp | hp
    · exact h1.2 p hp
    · simp only [List.mem_singleton] at hp
      subst hp
      simp only []
      have := h1.1
      unfold stI at *
      omega
  · exact h1.2 p hp
theorem minP_bd {L : Int} (hL : L ≤ 200) : ∀ (l : List (Int × Int)) (b : Int), (∀ p ∈ l, 0 ≤ p.1 ∧ p.1 < p.2 ∧ p.2 ≤ L) → -1 ≤ b ∧ b ≤ 200 → -1 ≤ l.foldl minP b ∧ l.foldl minP b ≤ 200 := by
  intro l
  induction l with
  | nil => intro b _ h; exact h
  | cons p r ih =>
    intro b hl h
    rw [List.foldl_cons]
    refine ih _ (fun x hx => hl x (List.mem_cons_of_mem _ hx)) ?_
    have := hl p (List.mem_cons_self ..)
    unfold minP
    split <;> omega
theorem narTo_bd {L C : Int} {os : List Opn} (hL : L ≤ 200) (h : okTo L C os os.length = true) (k : Nat) : -1 ≤ narTo L os k ∧ narTo L os k ≤ 200 := by
  induction k with
  | zero => unfold narTo; omega
  | succ k ih => exact minP_bd hL _ _ (parts_bd h) ih
theorem foldl_take_succ {α β : Type} (f : α → β → α) (a : α) (l : List β) (d : β) (k : Nat) (hk : k < l.length) : (l.take (k + 1)).foldl f a = f ((l.take k).foldl f a) (l.getD k d) := by
  rw [List.take_succ_eq_append_getElem hk, List.foldl_append, List.getD_eq_getElem?_getD, List.getElem?_eq_getElem hk]
  rfl
theorem partsI_len (L c : Int) (os : List Opn) : (partsI L c os).length ≤ os.length + 1 := by
  have := stI_num c os os.length
  unfold partsI addI
  split
  · simp; omega
  · omega
set_option maxRecDepth 100000 in
set_option maxHeartbeats 2000000 in
theorem i_NarrowestPier (L C : Int) (ao : Option Addr) (n c : Nat) (os : List Opn) (w : World) (hx : Opens w ao n os) (hnc : n ≤ c) :
    Calls Try.prog 22 #[.agg #[.int .i64 L, .int .i64 C, .slice ao n c]] w (RetE (narV L C os) w) := by
  have HE : Hid (Ext w (w.alloc (.cells #[.int .i64 L, .int .i64 C, .slice ao n c] 30))) := Lib.hid ((Ext.refl w).alloc _)
  have H1 := Lib.hid (fun W (e : Ext w W) => i_ValidFront L C ao n c os W (hx.ext e) hnc)
  have A : Three (w.alloc (.cells #[.int .i64 L, .int .i64 C, .slice ao n c] 30)) w.heap.size (.int .i64 L) (.int .i64 C) (.slice ao n c) := Three.new w _ _ _ _
  cases hv : validF L C os with
  | true =>
    obtain ⟨⟨l1, l2⟩, ⟨c1, c2⟩, n8, hok⟩ := validF_bd hv
    have hxl := hx.1
    have H2 := Lib.hid (fun W (e : Ext w W) (k : Nat) => i_partsOf L C ao n c os k W (hx.ext e) (by omega))
    obtain ⟨M, rfl⟩ : ∃ M : Nat, C = M := ⟨C.toNat, by omega⟩
    have HB := Lib.hid (fun k => narTo_bd l2 hok k)
    have HMB := Lib.hid (fun (k : Nat) j => minP_bd l2 ((partsI L k os).take j) (narTo L os k) (fun p hp => parts_bd hok p (List.mem_of_mem_take hp)) (narTo_bd l2 hok k))
    have HPB := Lib.hid (fun (k : Nat) => parts_bd (c := k) hok)
    have HLen := Lib.hid (fun (k : Nat) => partsI_len L k os)
    have HSucc : Hid (∀ k : Nat, narTo L os (k + 1) = (partsI L k os).foldl minP (narTo L os k)) := Lib.hid (fun k => rfl)
    have HGood : Hid (¬ narTo L os M < 0 → Value.tuple #[.int .i64 (narTo L os M), .int .i64 0] = narV L M os) := Lib.hid (fun h => narV_good (by unfold narC; rw [if_pos hv, Int.toNat_natCast, if_neg h]))
    have HBad : Hid (narTo L os M < 0 → Value.tuple #[.int .i64 0, .int .i64 3] = narV L M os) := Lib.hid (fun h => narV_bad (by unfold narC; rw [if_pos hv, Int.toNat_natCast, if_pos h]) (by decide))
    rw [hv] at H1
    clear hv hok hx hxl
    go_enter Try.func22, Try.ntmps22
    go_wp2_with (go_at_call 51; refine (H1.out _ HE.out).mono ?_; rintro e w1 ⟨rfl, e1⟩; replace A := A.ext e1)
    have HW1 := Lib.hid (HE.out.trans e1)
    clear e1
    go_loopw [4, 14] (fun s i wr => ∃ (k : Nat) (b : Int), k ≤ M ∧ i = .int .i64 k ∧ s = .int .i64 b ∧ Hid (narTo L os k = b) ∧ Ext w1 wr) (fun _ i _ => M - (intOf i).toNat)
    case atStart => exact ⟨0, -1, Nat.zero_le _, rfl, rfl, Lib.hid rfl, Ext.refl _⟩
    case round =>
      obtain ⟨k, b, hk, rfl, rfl, HS, er⟩ := hrel
      replace A := A.ext er
      have HER := Lib.hid er
      by_cases hlt : k < M
      · have HP := Lib.hid (H2.out _ (HW1.out.trans er) k)
        have hlen := HLen.out k
        obtain ⟨ps, hps⟩ : ∃ ps, partsI L k os = ps := ⟨_, rfl⟩
        have hbd := HMB.out k
        have hpb := HPB.out k
        have hsu := HSucc.out k
        rw [hps] at HP hlen hbd hpb hsu
        rw [HS.out] at hbd hsu
        have HBD := Lib.hid hbd
        have HPB2 := Lib.hid hpb
        have HSU := Lib.hid hsu
        clear hbd hpb hsu hps er
        go_wp2_with (go_at_call 66; refine HP.out.mono ?_; rintro e w2 ⟨a2, c2, rfl, o2, e2⟩; have HO2 := Lib.hid o2; clear o2)
        have HE2 := Lib.hid e2
        clear e2
        go_loopw [4, 21] (fun s i wi => ∃ (j : Nat) (b2 : Int), j ≤ ps.length ∧ i = .int .i64 j ∧ s = .int .i64 b2 ∧ Hid ((ps.take j).foldl minP b = b2) ∧ Ext w2 wi) (fun _ i _ => ps.length - (intOf i).toNat)
        case atStart => exact ⟨0, b, Nat.zero_le _, rfl, rfl, Lib.hid (by simp), Ext.refl _⟩
        case round =>
          obtain ⟨j, b2, hj, rfl, rfl, HS2, ei⟩ := hrel
          have HEI := Lib.hid ei
          by_cases hjl : j < ps.length
          · obtain ⟨g, rfl, d0, d1⟩ := (HO2.out.ext ei).at hjl
            have hb2 := HBD.out j
            have hnx := foldl_take_succ minP b ps (0, 0) j hjl
            have hp := HPB2.out (ps.getD j (0, 0)) (by rw [List.getD_eq_getElem?_getD, List.getElem?_eq_getElem hjl]; exact List.getElem_mem _)
            obtain ⟨p, hpe⟩ : ∃ p, ps.getD j (0, 0) = p := ⟨_, rfl⟩
            rw [hpe] at d0 d1 hnx hp
            rw [HS2.out] at hb2 hnx
            obtain ⟨x, y⟩ := p
            have d0' : wr.cell? ⟨g, j * 2, none⟩ = some (.int .i64 x) := d0
            have d1' : wr.cell? ⟨g, j * 2 + 1, none⟩ = some (.int .i64 y) := d1
            have hp' : 0 ≤ x ∧ x < y ∧ y ≤ L := hp
            have HNX : Hid ((ps.take (j + 1)).foldl minP b = if b2 < 0 ∨ y - x < b2 then y - x else b2) := Lib.hid hnx
            clear d0 d1 hp hnx hpe ei
            by_cases hc : b2 < 0
            · have HN := Lib.hid (HNX.out.trans (if_pos (.inl hc)))
              go_wp2
              go_roundw
              case rel => first | exact ⟨j + 1, _, by omega, by go_num, rfl, HN, HEI.out.alloc _⟩ | ((repeat apply Exists.intro); exact ⟨⟨j + 1, _, by omega, by go_num, rfl, HN, HEI.out.alloc _⟩, rfl⟩)
              case measure => (simp [intOf] <;> omega)
            · by_cases hc2 : y - x < b2
              · have HN := Lib.hid (HNX.out.trans (if_pos (.inr hc2)))
                go_wp2
                go_roundw
                case rel => first | exact ⟨j + 1, _, by omega, by go_num, rfl, HN, HEI.out.alloc _⟩ | ((repeat apply Exists.intro); exact ⟨⟨j + 1, _, by omega, by go_num, rfl, HN, HEI.out.alloc _⟩, rfl⟩)
                case measure => (simp [intOf] <;> omega)
              · have HN := Lib.hid (HNX.out.trans (if_neg (fun h => h.elim hc hc2)))
                go_wp2
                go_roundw
                case rel => first | exact ⟨j + 1, _, by omega, by go_num, rfl, HN, HEI.out.alloc _⟩ | ((repeat apply Exists.intro); exact ⟨⟨j + 1, _, by omega, by go_num, rfl, HN, HEI.out.alloc _⟩, rfl⟩)
                case measure => (simp [intOf] <;> omega)
          · obtain rfl : j = ps.length := by omega
            have HN : Hid (narTo L os (k + 1) = b2) := Lib.hid (by rw [HSU.out, ← HS2.out, List.take_of_length_le (Nat.le_refl _)])
            go_wp2
            go_roundw
            case rel => first | exact ⟨k + 1, b2, by omega, by go_num, rfl, HN, (HER.out.trans HE2.out).trans HEI.out⟩ | ((repeat apply Exists.intro); exact ⟨⟨k + 1, b2, by omega, by go_num, rfl, HN, (HER.out.trans HE2.out).trans HEI.out⟩, rfl⟩)
            case measure => (simp [intOf] <;> omega)
      · obtain rfl : k = M := by omega
        have hb := HB.out k
        rw [HS.out] at hb
        have hg := HGood.out
        have hbd := HBad.out
        rw [HS.out] at hg hbd
        have HG2 := Lib.hid hg
        have HB2 := Lib.hid hbd
        clear hg hbd
        by_cases hneg : b < 0
        · go_wp2
          go_ret2
          exact RetE.mk (HB2.out hneg) (HW1.out.trans HER.out)
        · go_wp2
          go_ret2
          exact RetE.mk (HG2.out hneg) (HW1.out.trans HER.out)
  | false =>
    have HV := Lib.hid (narV_bad (show narC L C os = 1 by unfold narC; rw [hv]; rfl) (by decide))
    rw [hv] at H1
    clear hv
    go_enter Try.func22, Try.ntmps22
    go_wp2_with (go_at_call 51; refine (H1.out _ HE.out).mono ?_; rintro e w1 ⟨rfl, e1⟩)
    go_ret2
    exact RetE.mk HV.out (HE.out.trans e1)
end Go.Proofs.Ytnhmcmohnpbcjaa
