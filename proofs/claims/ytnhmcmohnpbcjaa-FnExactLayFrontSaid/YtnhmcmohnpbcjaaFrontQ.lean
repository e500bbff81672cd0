/- The parts of a course: the reference's side; the codes; both sides' PartsOf. -/
import Derived.Test.YtnhmcmohnpbcjaaFrontP
namespace Go.Proofs.Ytnhmcmohnpbcjaa
open Go.RowKit
set_option linter.unusedSimpArgs false
set_option linter.unusedVariables false
set_option linter.unnecessarySimpa false

theorem OwnParts.recs {w : World} {base : Nat} {v : Value} {ps : List (Int × Int)} (h : OwnParts w base v ps) : OwnRecs 51 2 w base v (ps.map partC) := by
  refine ⟨?_, partC_len ps⟩
  rw [List.length_map, ← List.flatMap_def]
  exact h
theorem OwnParts.at {w : World} {base n c : Nat} {ao : Option Addr} {ps : List (Int × Int)} (h : OwnParts w base (.slice ao n c) ps) {k : Nat} (hk : k < n) : ∃ g, ao = some ⟨g, 0, none⟩ ∧ w.cell? ⟨g, k * 2, none⟩ = some (.int .i64 (ps.getD k (0, 0)).1) ∧ w.cell? ⟨g, k * 2 + 1, none⟩ = some (.int .i64 (ps.getD k (0, 0)).2) := by
  have hl := h.len
  rcases h.2 with ⟨hv, h0⟩ | ⟨g, cap, cur, hv, _⟩
  · simp only [Value.slice.injEq] at hv; omega
  · simp only [Value.slice.injEq] at hv
    obtain ⟨rfl, _, rfl⟩ := hv
    have hr : (ps.map partC).getD k [] = [.int .i64 (ps.getD k (0, 0)).1, .int .i64 (ps.getD k (0, 0)).2] := by
      rw [List.getD_eq_getElem?_getD, List.getElem?_map, List.getElem?_eq_getElem (by omega), List.getD_eq_getElem?_getD, List.getElem?_eq_getElem (by omega)]
      rfl
    obtain ⟨r1, r2, _, _⟩ := h.recs.reads2 k hk hr
    exact ⟨g, rfl, r1, r2⟩
theorem wpList_append_part {W w0 w : World} {ops : Array Oper} {rest : List Oper} {o : Oper} {a : Act} {Q : Exit → Act → World → Prop} (hgd : o.guard = none) (s x : Operand)
    (ho : o.op = .call { callee := .builtin .append, args := #[s, x], argTypes := #[47, 47] })
    (v : Value) (ps : List (Int × Int)) (f y : Int) (hs : a.eval s = v) (hw : w = w0.alloc (.cells #[.int .i64 f, .int .i64 y] 51)) (hx : a.eval x = .slice (some ⟨w0.heap.size, 0, none⟩) 1 1)
    (hown : OwnParts w0 W.heap.size v ps) (e : Ext W w0) (hlen : ps.length ≤ 10000000)
    (h : ∀ v' w', OwnParts w' W.heap.size v' (ps ++ [(f, y)]) → Ext W w' → wpList Try.prog ops Q rest (a.put o.dst v') w') : wpList Try.prog ops Q (o :: rest) a w := by
  refine wpList_append_gen 47 51 (.agg #[.int .i64 0, .int .i64 0]) 2 16 Try.underlying47 info_part rfl (by decide) (by decide) hgd s x ho v ps.length (ps.flatMap partC) [.int .i64 f, .int .i64 y] hs hw hx rfl (two_one f y) hown e hlen ?_
  intro v' w' ho' e'
  refine h v' w' ?_ e'
  unfold OwnParts
  rw [List.flatMap_append, List.length_append]
  exact ho'
set_option maxHeartbeats 1600000 in
theorem s_l09Open (fb : Nat) (L C : Int) (ao : Option Addr) (n c : Nat) (os : List Opn) (a q : Int) (w : World) (hf : Three w fb (.int .i64 L) (.int .i64 C) (.slice ao n c)) (hx : Opens w ao n os) (hL : L ≤ 200) (hC : C ≤ 40) (hok : okTo L C os os.length = true) :
    Calls Try.prog 68 #[.pointer (some ⟨fb, 0, none⟩), .int .i64 a, .int .i64 q] w (RetE (.bool (opnAt os a q)) w) := by
  have hxl := hx.1
  have hxm := hx.2.1
  have HX := Lib.hid hx
  have HF := Lib.hid hf
  have HOK := Lib.hid (fun k (h : k < os.length) => isOpn_iff.1 (okTo_opn hok h))
  have HL := Lib.hid hxl
  have HA : Hid (opnAt os a q = (os.take n).any fun o => inB a o.fr (o.en - 1) && inB q o.lo (o.hi - 1)) := Lib.hid (by unfold opnAt; rw [List.take_of_length_le (by omega)])
  have HT : Hid (∀ k, k < n → (inB a (os.getD k default).fr ((os.getD k default).en - 1) && inB q (os.getD k default).lo ((os.getD k default).hi - 1)) = true → opnAt os a q = true) := Lib.hid (fun k hk h => by
    unfold opnAt
    rw [List.any_eq_true]
    exact ⟨_, opn_at (by omega), h⟩)
  have HN : Hid (∀ k, k < n → (inB a (os.getD k default).fr ((os.getD k default).en - 1) && inB q (os.getD k default).lo ((os.getD k default).hi - 1)) = false → ((os.take k).any fun o => inB a o.fr (o.en - 1) && inB q o.lo (o.hi - 1)) = false → ((os.take (k + 1)).any fun o => inB a o.fr (o.en - 1) && inB q o.lo (o.hi - 1)) = false) := Lib.hid (fun k hk h h2 => by
    have hkx : k < os.length := by omega
    rw [List.take_succ_eq_append_getElem hkx, List.any_append, h2]
    rw [List.getD_eq_getElem?_getD, List.getElem?_eq_getElem hkx, Option.getD_some] at h
    simp [h])
  clear hx hf hok hxl
  go_enter Try.func68, Try.ntmps68
  go_wp2
  go_loopw [7] (fun i wr => ∃ k : Nat, k ≤ n ∧ i = .int .i64 k ∧ Hid (((os.take k).any fun o => inB a o.fr (o.en - 1) && inB q o.lo (o.hi - 1)) = false) ∧ Ext w wr) (fun i _ => n - (intOf i).toNat)
  case atStart => exact ⟨0, Nat.zero_le _, rfl, Lib.hid (by simp), Ext.refl _⟩
  case round =>
    obtain ⟨k, hk, rfl, HNo, er⟩ := hrel
    obtain ⟨f0, f1, f2, f3⟩ := HF.out.ext er
    have HER := Lib.hid er
    by_cases hlt : k < n
    · obtain ⟨bb, off, rfl, d0, d1, d2, d3⟩ := (HX.out.ext er).2.2.1 k hlt
      have ho := HOK.out k (by have := HL.out; omega)
      have ht := HT.out k hlt
      have hn := HN.out k hlt
      obtain ⟨x, hxk⟩ : ∃ x, os.getD k default = x := ⟨_, rfl⟩
      rw [hxk] at d0 d1 d2 d3 ho ht hn
      obtain ⟨x1, x2, x3, x4⟩ := x
      have K : Four wr bb (off + k * 4) x1 x2 x3 x4 := ⟨d0, d1, d2, d3⟩
      obtain ⟨K0, K1, K2, K3⟩ := K
      have ho' : 0 ≤ x1 ∧ x1 < x2 ∧ x2 ≤ L ∧ 0 ≤ x3 ∧ x3 < x4 ∧ x4 ≤ C := ho
      have HTk : Hid ((inB a x1 (x2 - 1) && inB q x3 (x4 - 1)) = true → opnAt os a q = true) := Lib.hid ht
      have HNk : Hid ((inB a x1 (x2 - 1) && inB q x3 (x4 - 1)) = false → ((os.take (k + 1)).any fun o => inB a o.fr (o.en - 1) && inB q o.lo (o.hi - 1)) = false) := Lib.hid (fun h => hn h HNo.out)
      clear d0 d1 d2 d3 hxk ho ht hn er
      cases g1 : inB a x1 (x2 - 1) with
      | false =>
        have HNx := Lib.hid (HNk.out (by rw [g1]; rfl))
        go_wp2_with (go_at_call 86; refine (s_l00In _ _ _ _).mono ?_; rintro e w' ⟨rfl, rfl⟩)
        go_roundw
        case rel => first | exact ⟨k + 1, by omega, by go_num, HNx, HER.out.alloc _⟩ | ((repeat apply Exists.intro); exact ⟨⟨k + 1, by omega, by go_num, HNx, HER.out.alloc _⟩, rfl⟩)
        case measure => (simp [intOf] <;> omega)
      | true =>
        cases g2 : inB q x3 (x4 - 1) with
        | false =>
          have HNx := Lib.hid (HNk.out (by rw [g1, g2]; rfl))
          go_wp2_with (go_at_call 86; refine (s_l00In _ _ _ _).mono ?_; rintro e w' ⟨rfl, rfl⟩)
          go_roundw
          case rel => first | exact ⟨k + 1, by omega, by go_num, HNx, HER.out.alloc _⟩ | ((repeat apply Exists.intro); exact ⟨⟨k + 1, by omega, by go_num, HNx, HER.out.alloc _⟩, rfl⟩)
          case measure => (simp [intOf] <;> omega)
        | true =>
          have HV := Lib.hid (HTk.out (by rw [g1, g2]; rfl))
          go_wp2_with (go_at_call 86; refine (s_l00In _ _ _ _).mono ?_; rintro e w' ⟨rfl, rfl⟩)
          go_ret
          exact RetE.mk (bool_eq HV.out.symm) (HER.out.alloc _)
    · obtain rfl : k = n := by omega
      go_wp2
      go_ret
      exact RetE.mk (bool_eq (by rw [HA.out, HNo.out])) er
theorem scS_num (L : Int) (os : List Opn) (c : Int) : ∀ k, (scS L os c k).2.length ≤ k := by
  intro k
  induction k with
  | zero => exact Nat.le_refl _
  | succ k ih =>
    show (stepP L os c (scS L os c k) k).2.length ≤ _
    unfold stepP
    split
    · split
      · simp; omega
      · omega
    · split
      · simp only []; omega
      · omega
set_option maxRecDepth 100000 in
set_option maxHeartbeats 4000000 in
theorem s_l09Parts (fb : Nat) (L C : Int) (ao : Option Addr) (n c : Nat) (os : List Opn) (q : Int) (w : World) (hf : Three w fb (.int .i64 L) (.int .i64 C) (.slice ao n c)) (hx : Opens w ao n os) (hL0 : 1 ≤ L) (hL : L ≤ 200) (hC : C ≤ 40) (hok : okTo L C os os.length = true) :
    Calls Try.prog 75 #[.pointer (some ⟨fb, 0, none⟩), .int .i64 q] w (RetParts (partsI L q os) w) := by
  rw [← parts_agree (by omega) hok]
  obtain ⟨N, rfl⟩ : ∃ N : Nat, L = N := ⟨L.toNat, by omega⟩
  have HPA : Hid (partsS N q os = (scS N os q (N + 1)).2) := Lib.hid (by unfold partsS; rw [Int.toNat_natCast])
  have HStep : Hid (∀ k : Nat, scS N os q (k + 1) = stepP N os q (scS N os q k) k) := Lib.hid (fun k => rfl)
  have HNum := Lib.hid (fun k => scS_num N os q k)
  have HF := Lib.hid hf
  have HO := Lib.hid (fun W (e : Ext w W) a => s_l09Open fb N C ao n c os a q W (hf.ext e) (hx.ext e) hL hC hok)
  obtain ⟨f0, f1, f2, f3⟩ := id hf
  clear hf hx hok
  go_enter Try.func75, Try.ntmps75
  go_wp2
  go_loopw [5, 6, 7] (fun v f a wr => ∃ (k : Nat) (fI : Int) (ps : List (Int × Int)), k ≤ N + 1 ∧ a = .int .i64 k ∧ f = .int .i64 fI ∧ Hid (OwnParts wr w.heap.size v ps) ∧ Hid (scS N os q k = (fI, ps)) ∧ Ext w wr) (fun _ _ a _ => N + 1 - (intOf a).toNat)
  case atStart => exact ⟨0, -1, [], by omega, rfl, rfl, Lib.hid (OwnParts.empty (W := w) w.heap.size (Nat.le_refl _)), Lib.hid rfl, (Ext.refl w).alloc _⟩
  case round =>
    obtain ⟨k, fI, ps, hk, rfl, rfl, HW, HS, er⟩ := hrel
    clear f0 f1 f2 f3
    obtain ⟨f0, f1, f2, f3⟩ := HF.out.ext er
    have HER := Lib.hid er
    have hps : ps.length ≤ 10000000 := by have h := HNum.out k; rw [HS.out] at h; simp only [] at h; omega
    by_cases hkN : k ≤ N
    · have hst := HStep.out k
      rw [HS.out] at hst
      obtain ⟨ov, hov⟩ : ∃ v, openS N os q k = v := ⟨_, rfl⟩
      unfold stepP at hst
      rw [hov] at hst
      have HST := Lib.hid hst
      have HOp : Hid (k < N → ∀ W, Ext w W → Calls Try.prog 68 #[.pointer (some ⟨fb, 0, none⟩), .int .i64 (k : Int), .int .i64 q] W (RetE (.bool ov) W)) := Lib.hid (fun h W e => by
        have h2 := HO.out W e k
        rw [← openS_at os q N k (by omega), hov] at h2
        exact h2)
      have HNo : Hid (k = N → ov = true) := Lib.hid (fun h => by rw [← hov]; unfold openS; simp [h])
      clear hst hov
      obtain ⟨a5, n5, c5, rfl⟩ := owns_slice HW.out
      cases ov with
      | true =>
        by_cases hf0 : 0 ≤ fI
        · have HN : Hid (scS N os q (k + 1) = (-1, ps ++ [(fI, (k : Int))])) := Lib.hid (by rw [HST.out, if_pos rfl, if_pos hf0])
          by_cases hkl : k = N
          · subst hkl
            go_wp2_with (at_builtin; refine wpList_append_part (W := w) rfl (.tmp 35) (.tmp 39) rfl _ ps fI k rfl rfl rfl HW.out HER.out hps ?_; intro v' w2 ho2 e2; have HW2 := Lib.hid ho2; clear ho2)
            go_roundw
            case rel => first | exact ⟨k + 1, -1, _, by omega, by go_num, rfl, HW2, HN, e2⟩ | ((repeat apply Exists.intro); exact ⟨⟨k + 1, -1, _, by omega, by go_num, rfl, HW2, HN, e2⟩, rfl⟩)
            case measure => (simp [intOf] <;> omega)
          · have t : ((k : Int) == (N : Int)) = false := beq_eq_false_iff_ne.2 (by omega)
            have HOk := Lib.hid (HOp.out (by omega))
            go_wp2_with (first | (go_at_call 68; refine (HOk.out _ HER.out).mono ?_; rintro e w1 ⟨rfl, e1⟩) | (at_builtin; refine wpList_append_part (W := w) rfl (.tmp 35) (.tmp 39) rfl _ ps fI k rfl rfl rfl (HW.out.ext e1) (HER.out.trans e1) hps ?_; intro v' w2 ho2 e2; have HW2 := Lib.hid ho2; clear ho2))
            go_roundw
            case rel => first | exact ⟨k + 1, -1, _, by omega, by go_num, rfl, HW2, HN, e2⟩ | ((repeat apply Exists.intro); exact ⟨⟨k + 1, -1, _, by omega, by go_num, rfl, HW2, HN, e2⟩, rfl⟩)
            case measure => (simp [intOf] <;> omega)
        · have HN : Hid (scS N os q (k + 1) = (fI, ps)) := Lib.hid (by rw [HST.out, if_pos rfl, if_neg hf0])
          by_cases hkl : k = N
          · subst hkl
            go_wp2
            go_roundw
            case rel => first | exact ⟨k + 1, fI, _, by omega, by go_num, rfl, HW, HN, HER.out⟩ | ((repeat apply Exists.intro); exact ⟨⟨k + 1, fI, _, by omega, by go_num, rfl, HW, HN, HER.out⟩, rfl⟩)
            case measure => (simp [intOf] <;> omega)
          · have t : ((k : Int) == (N : Int)) = false := beq_eq_false_iff_ne.2 (by omega)
            have HOk := Lib.hid (HOp.out (by omega))
            go_wp2_with (first | (go_at_call 68; refine (HOk.out _ HER.out).mono ?_; rintro e w1 ⟨rfl, e1⟩))
            go_roundw
            case rel => first | exact ⟨k + 1, fI, _, by omega, by go_num, rfl, Lib.hid (HW.out.ext e1), HN, HER.out.trans e1⟩ | ((repeat apply Exists.intro); exact ⟨⟨k + 1, fI, _, by omega, by go_num, rfl, Lib.hid (HW.out.ext e1), HN, HER.out.trans e1⟩, rfl⟩)
            case measure => (simp [intOf] <;> omega)
      | false =>
        have hkl : k < N := by
          by_cases h : k = N
          · have := HNo.out h; cases this
          · omega
        have t : ((k : Int) == (N : Int)) = false := beq_eq_false_iff_ne.2 (by omega)
        have HOk := Lib.hid (HOp.out hkl)
        by_cases hf0 : fI < 0
        · have HN : Hid (scS N os q (k + 1) = ((k : Int), ps)) := Lib.hid (by rw [HST.out, if_neg (by simp), if_pos hf0])
          go_wp2_with (first | (go_at_call 68; refine (HOk.out _ HER.out).mono ?_; rintro e w1 ⟨rfl, e1⟩))
          go_roundw
          case rel => first | exact ⟨k + 1, (k : Int), _, by omega, by go_num, rfl, Lib.hid (HW.out.ext e1), HN, HER.out.trans e1⟩ | ((repeat apply Exists.intro); exact ⟨⟨k + 1, (k : Int), _, by omega, by go_num, rfl, Lib.hid (HW.out.ext e1), HN, HER.out.trans e1⟩, rfl⟩)
          case measure => (simp [intOf] <;> omega)
        · have HN : Hid (scS N os q (k + 1) = (fI, ps)) := Lib.hid (by rw [HST.out, if_neg (by simp), if_neg hf0])
          go_wp2_with (first | (go_at_call 68; refine (HOk.out _ HER.out).mono ?_; rintro e w1 ⟨rfl, e1⟩))
          go_roundw
          case rel => first | exact ⟨k + 1, fI, _, by omega, by go_num, rfl, Lib.hid (HW.out.ext e1), HN, HER.out.trans e1⟩ | ((repeat apply Exists.intro); exact ⟨⟨k + 1, fI, _, by omega, by go_num, rfl, Lib.hid (HW.out.ext e1), HN, HER.out.trans e1⟩, rfl⟩)
          case measure => (simp [intOf] <;> omega)
    · obtain rfl : k = N + 1 := by omega
      obtain ⟨a5, n5, c5, rfl⟩ := owns_slice HW.out
      go_wp2
      go_ret
      refine RetParts.of_own ?_ HER.out
      rw [HPA.out, HS.out]
      exact HW.out
def crC (L C q : Int) (os : List Opn) : Int := if validF L C os then (if inB q 0 (C - 1) then 0 else 2) else 1
theorem i_courseCode (L C : Int) (ao : Option Addr) (n c : Nat) (os : List Opn) (q : Int) (w : World) (hx : Opens w ao n os) (hnc : n ≤ c) :
    Calls Try.prog 67 #[.agg #[.int .i64 L, .int .i64 C, .slice ao n c], .int .i64 q] w (RetE (.int .i64 (crC L C q os)) w) := by
  have HE : Hid (Ext w (w.alloc (.cells #[.int .i64 L, .int .i64 C, .slice ao n c] 30))) := Lib.hid ((Ext.refl w).alloc _)
  have H1 := Lib.hid (fun W (e : Ext w W) => i_ValidFront L C ao n c os W (hx.ext e) hnc)
  have A : Three (w.alloc (.cells #[.int .i64 L, .int .i64 C, .slice ao n c] 30)) w.heap.size (.int .i64 L) (.int .i64 C) (.slice ao n c) := Three.new w _ _ _ _
  cases hv : validF L C os with
  | true =>
    obtain ⟨⟨l1, l2⟩, ⟨c1, c2⟩, n8, hok⟩ := validF_bd hv
    rw [hv] at H1
    cases hb : inB q 0 (C - 1) with
    | true =>
      have HV : Hid (crC L C q os = 0) := Lib.hid (by unfold crC; rw [hv, hb]; rfl)
      clear hv hok
      go_enter Try.func67, Try.ntmps67
      go_wp2_with (first | (go_at_call 51; refine (H1.out _ HE.out).mono ?_; rintro e w1 ⟨rfl, e1⟩; replace A := A.ext e1) | (go_at_call 79; refine (i_within _ _ _ _).mono ?_; rintro e w' ⟨rfl, rfl⟩))
      go_ret
      exact RetE.mk (int_eq HV.out.symm) (HE.out.trans e1)
    | false =>
      have HV : Hid (crC L C q os = 2) := Lib.hid (by unfold crC; rw [hv, hb]; rfl)
      clear hv hok
      go_enter Try.func67, Try.ntmps67
      go_wp2_with (first | (go_at_call 51; refine (H1.out _ HE.out).mono ?_; rintro e w1 ⟨rfl, e1⟩; replace A := A.ext e1) | (go_at_call 79; refine (i_within _ _ _ _).mono ?_; rintro e w' ⟨rfl, rfl⟩))
      go_ret
      exact RetE.mk (int_eq HV.out.symm) (HE.out.trans e1)
  | false =>
    have HV : Hid (crC L C q os = 1) := Lib.hid (by unfold crC; rw [hv]; rfl)
    rw [hv] at H1
    clear hv
    go_enter Try.func67, Try.ntmps67
    go_wp2_with (first | (go_at_call 51; refine (H1.out _ HE.out).mono ?_; rintro e w1 ⟨rfl, e1⟩; replace A := A.ext e1))
    go_ret
    exact RetE.mk (int_eq HV.out.symm) (HE.out.trans e1)
theorem s_l09Code (fb : Nat) (L C : Int) (ao : Option Addr) (n c : Nat) (os : List Opn) (q : Int) (w : World) (hf : Three w fb (.int .i64 L) (.int .i64 C) (.slice ao n c)) (hx : Opens w ao n os) :
    Calls Try.prog 74 #[.pointer (some ⟨fb, 0, none⟩), .int .i64 q] w (RetE (.int .i64 (crC L C q os)) w) := by
  have H1 := Lib.hid (s_l09Ok fb L C ao n c os w hf hx)
  have A := hf
  cases hv : validF L C os with
  | true =>
    obtain ⟨⟨l1, l2⟩, ⟨c1, c2⟩, n8, hok⟩ := validF_bd hv
    rw [hv] at H1
    cases hb : inB q 0 (C - 1) with
    | true =>
      have HV : Hid (crC L C q os = 0) := Lib.hid (by unfold crC; rw [hv, hb]; rfl)
      clear hv hok hx
      go_enter Try.func74, Try.ntmps74
      go_wp2_with (first | (go_at_call 46; refine (H1.out).mono ?_; rintro e w1 ⟨rfl, e1⟩; replace A := A.ext e1) | (go_at_call 86; refine (s_l00In _ _ _ _).mono ?_; rintro e w' ⟨rfl, rfl⟩))
      go_ret
      exact RetE.mk (int_eq HV.out.symm) e1
    | false =>
      have HV : Hid (crC L C q os = 2) := Lib.hid (by unfold crC; rw [hv, hb]; rfl)
      clear hv hok hx
      go_enter Try.func74, Try.ntmps74
      go_wp2_with (first | (go_at_call 46; refine (H1.out).mono ?_; rintro e w1 ⟨rfl, e1⟩; replace A := A.ext e1) | (go_at_call 86; refine (s_l00In _ _ _ _).mono ?_; rintro e w' ⟨rfl, rfl⟩))
      go_ret
      exact RetE.mk (int_eq HV.out.symm) e1
  | false =>
    have HV : Hid (crC L C q os = 1) := Lib.hid (by unfold crC; rw [hv]; rfl)
    rw [hv] at H1
    clear hv hx
    go_enter Try.func74, Try.ntmps74
    go_wp2_with (first | (go_at_call 46; refine (H1.out).mono ?_; rintro e w1 ⟨rfl, e1⟩; replace A := A.ext e1))
    go_ret
    exact RetE.mk (int_eq HV.out.symm) e1
def partsR (L C q : Int) (os : List Opn) : List (Int × Int) := if crC L C q os = 0 then partsI L q os else []
def RetPartsC (ps : List (Int × Int)) (k : Int) (w : World) (e : Ending) (w' : World) : Prop := ∃ ao cap, e = .returned (.tuple #[.slice ao ps.length cap, .int .i64 k]) ∧ OwnParts w' w.heap.size (.slice ao ps.length cap) ps ∧ Ext w w'
theorem RetPartsC.of_own {ps : List (Int × Int)} {k k' : Int} {w w' : World} {v : Value} (h : OwnParts w' w.heap.size v ps) (e : Ext w w') (hk : k' = k) : RetPartsC ps k w (.returned (.tuple #[v, .int .i64 k'])) w' := by
  obtain ⟨a, m, c, rfl⟩ := owns_slice h
  obtain rfl := h.len
  exact ⟨a, c, by rw [hk], h, e⟩
theorem crC_ok {L C q : Int} {os : List Opn} (h : crC L C q os = 0) : validF L C os = true ∧ 0 ≤ q ∧ q ≤ C - 1 := by
  unfold crC at h
  split at h
  · rename_i hv
    split at h
    · rename_i hb; exact ⟨hv, inB_iff.1 hb⟩
    · omega
  · omega
set_option maxHeartbeats 800000 in
theorem i_PartsOf (L C : Int) (ao : Option Addr) (n c : Nat) (os : List Opn) (q : Int) (w : World) (hx : Opens w ao n os) (hnc : n ≤ c) :
    Calls Try.prog 23 #[.agg #[.int .i64 L, .int .i64 C, .slice ao n c], .int .i64 q] w (RetPartsC (partsR L C q os) (crC L C q os) w) := by
  have HE : Hid (Ext w (w.alloc (.cells #[.int .i64 L, .int .i64 C, .slice ao n c] 30))) := Lib.hid ((Ext.refl w).alloc _)
  have H1 := Lib.hid (fun W (e : Ext w W) => i_courseCode L C ao n c os q W (hx.ext e) hnc)
  have A : Three (w.alloc (.cells #[.int .i64 L, .int .i64 C, .slice ao n c] 30)) w.heap.size (.int .i64 L) (.int .i64 C) (.slice ao n c) := Three.new w _ _ _ _
  by_cases h0 : crC L C q os = 0
  · have hv := crC_ok h0
    have hn8 := (validF_bd hv.1).2.2.1
    have hxl := hx.1
    have H2 := Lib.hid (fun W (e : Ext w W) => i_partsOf L C ao n c os q W (hx.ext e) (by omega))
    have HR : Hid (partsR L C q os = partsI L q os) := Lib.hid (by unfold partsR; rw [if_pos h0])
    have H0 := Lib.hid h0
    rw [h0] at H1
    clear h0 hv hx hxl
    go_enter Try.func23, Try.ntmps23
    go_wp2_with (first | (go_at_call 67; refine (H1.out _ HE.out).mono ?_; rintro e w1 ⟨rfl, e1⟩; replace A := A.ext e1) | (go_at_call 66; refine (H2.out _ (HE.out.trans e1)).mono ?_; rintro e w2 ⟨a2, c2, rfl, o2, e2⟩; have HO2 := Lib.hid o2; clear o2))
    go_ret2
    have E := HE.out.trans e1
    refine RetPartsC.of_own ?_ (E.trans e2) H0.out.symm
    rw [HR.out]
    exact HO2.out.mono E.size
  · have HR : Hid (partsR L C q os = []) := Lib.hid (by unfold partsR; rw [if_neg h0])
    obtain ⟨k, hk⟩ : ∃ k, crC L C q os = k := ⟨_, rfl⟩
    have HK := Lib.hid hk
    rw [hk] at H1
    have t : (k != 0) = true := by simp; omega
    clear h0 hk
    go_enter Try.func23, Try.ntmps23
    go_wp2_with (first | (go_at_call 67; refine (H1.out _ HE.out).mono ?_; rintro e w1 ⟨rfl, e1⟩; replace A := A.ext e1))
    go_ret2
    refine RetPartsC.of_own ?_ (HE.out.trans e1) HK.out.symm
    rw [HR.out]
    exact World.ownsRow_nil _ _ _ _
set_option maxHeartbeats 800000 in
theorem s_PartsOf (L C : Int) (ao : Option Addr) (n c : Nat) (os : List Opn) (q : Int) (w : World) (hx : Opens w ao n os) :
    Calls Try.prog 41 #[.agg #[.int .i64 L, .int .i64 C, .slice ao n c], .int .i64 q] w (RetPartsC (partsR L C q os) (crC L C q os) w) := by
  have HE : Hid (Ext w (w.alloc (.cells #[.int .i64 L, .int .i64 C, .slice ao n c] 30))) := Lib.hid ((Ext.refl w).alloc _)
  have A : Three (w.alloc (.cells #[.int .i64 L, .int .i64 C, .slice ao n c] 30)) w.heap.size (.int .i64 L) (.int .i64 C) (.slice ao n c) := Three.new w _ _ _ _
  have H1 := Lib.hid (s_l09Code w.heap.size L C ao n c os q _ A (hx.ext HE.out))
  by_cases h0 : crC L C q os = 0
  · have hv := crC_ok h0
    obtain ⟨⟨l1, l2⟩, ⟨c1, c2⟩, n8, hok⟩ := validF_bd hv.1
    have H2 := Lib.hid (fun W (e : Ext (w.alloc (.cells #[.int .i64 L, .int .i64 C, .slice ao n c] 30)) W) => s_l09Parts w.heap.size L C ao n c os q W (A.ext e) (hx.ext (HE.out.trans e)) l1 l2 c2 hok)
    have HR : Hid (partsR L C q os = partsI L q os) := Lib.hid (by unfold partsR; rw [if_pos h0])
    have H0 := Lib.hid h0
    rw [h0] at H1
    clear h0 hv hx hok
    go_enter Try.func41, Try.ntmps41
    go_wp2_with (first | (go_at_call 74; refine (H1.out).mono ?_; rintro e w1 ⟨rfl, e1⟩; replace A := A.ext e1) | (go_at_call 75; refine (H2.out _ e1).mono ?_; rintro e w2 ⟨a2, c2, rfl, o2, e2⟩; have HO2 := Lib.hid o2; clear o2))
    go_ret2
    have E := HE.out.trans e1
    refine RetPartsC.of_own ?_ (E.trans e2) H0.out.symm
    rw [HR.out]
    exact HO2.out.mono E.size
  · have HR : Hid (partsR L C q os = []) := Lib.hid (by unfold partsR; rw [if_neg h0])
    obtain ⟨k, hk⟩ : ∃ k, crC L C q os = k := ⟨_, rfl⟩
    have HK := Lib.hid hk
    rw [hk] at H1
    have t : (k != 0) = true := by simp; omega
    clear h0 hk
    go_enter Try.func41, Try.ntmps41
    go_wp2_with (first | (go_at_call 74; refine (H1.out).mono ?_; rintro e w1 ⟨rfl, e1⟩; replace A := A.ext e1))
    go_ret2
    refine RetPartsC.of_own ?_ (HE.out.trans e1) HK.out.symm
    rw [HR.out]
    exact World.ownsRow_nil _ _ _ _
end Go.Proofs.Ytnhmcmohnpbcjaa
