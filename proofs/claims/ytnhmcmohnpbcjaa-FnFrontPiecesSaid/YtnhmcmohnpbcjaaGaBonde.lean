/- A group of texts, one behind the other: Bond5, Bond6. -/
import Derived.Test.YtnhmcmohnpbcjaaBond4
import Derived.Test.YtnhmcmohnpbcjaaGaStrs
/- Contracts: a course that is laid by a bond: both sides. -/
namespace Go.Proofs.Ytnhmcmohnpbcjaa
open Go.RowKit
set_option linter.unusedSimpArgs false
set_option linter.unusedVariables false
set_option linter.unnecessarySimpa false

theorem OwnB.shape {w : World} {base : Nat} {v : Value} {l : List UInt8} (h : OwnB w base v l) : ∃ ao cap, v = .slice ao l.length cap := by
  rcases h.2 with ⟨rfl, h0⟩ | ⟨g, cap, cur, rfl, _⟩
  · rw [h0]; exact ⟨_, _, rfl⟩
  · exact ⟨_, _, rfl⟩
theorem OwnB.mono {w : World} {base base' : Nat} {v : Value} {l : List UInt8} (h : OwnB w base v l) (hb : base' ≤ base) : OwnB w base' v l := by
  obtain ⟨h1, h2⟩ := h
  refine ⟨h1, ?_⟩
  rcases h2 with h2 | ⟨g, cap, cur, hv, hg, r⟩
  · exact .inl h2
  · exact .inr ⟨g, cap, cur, hv, by omega, r⟩
/-- a byte is appended; blocks of other types stay -/
theorem wpList_append_u8g {W w0 w : World} {ops : Array Oper} {rest : List Oper} {o : Oper} {a : Act} {Q : Exit → Act → World → Prop} (hgd : o.guard = none) (s x : Operand)
    (ho : o.op = .call { callee := .builtin .append, args := #[s, x], argTypes := #[39, 39] })
    (v : Value) (l : List UInt8) (b : UInt8) (hs : a.eval s = v) (hw : w = w0.alloc (.cells #[.int .u8 (b.toNat : Int)] 5)) (hx : a.eval x = .slice (some ⟨w0.heap.size, 0, none⟩) 1 1)
    (hown : OwnB w0 W.heap.size v l) (e : Ext W w0) (hlen : l.length ≤ 10000000)
    (h : ∀ v' w', OwnB w' W.heap.size v' (l ++ [b]) → Ext W w' → (∀ (g : Nat) (cs : Array Value) (T : TypeId) (m : Nat × Nat), w0.heap[g]? = some (.cells cs T m) → T ≠ 5 → w'.heap[g]? = some (.cells cs T m)) → wpList Try.prog ops Q rest (a.put o.dst v') w') : wpList Try.prog ops Q (o :: rest) a w := by
  obtain ⟨i0, hi, hz0, hz1, hz2⟩ := info_parts info_u8
  subst hw
  refine wpList_append_own _ hgd s x 39 ho W.heap.size 5 i0 (.int .u8 0) 1 1 Try.underlying39 hi hz0 hz1 hz2 rfl (by decide) v l.length (l.map u8V) hs (World.ownsRow.alloc hown _)
    ⟨w0.heap.size, 0, none⟩ 1 1 [.int .u8 (b.toNat : Int)] hx rfl (cells_new _ _ _) (by intro u hu; simp at hu; subst hu; rfl) (by unfold maxLen; omega) (by omega) (by have := e.size; simp; omega) ?_
  intro v' w' ho' hg _
  refine h v' w' ?_ ((e.alloc _).grown hg (fun k hk => (hown.lt k hk).1)) (fun g cs T m hb hT => ?_)
  · unfold OwnB; simpa [u8V] using ho'
  · have h1 := blk_old (o := .cells #[.int .u8 (b.toNat : Int)] 5) hb
    refine (hg.block g (lt_of_block h1) (fun e2 => ?_)).trans h1
    rcases hown.2 with ⟨rfl, _⟩ | ⟨g2, cap, cur, rfl, _, hh, _⟩
    · simp [Value.ownBlock] at e2
    · have e3 : g2 = g := by simpa [Value.ownBlock] using e2.symm
      subst e3
      rw [hh] at hb
      simp at hb
      exact hT hb.2.1.symm
/-- what is laid, and a code -/
def layL (f : Nat → UInt8) (u : Int) : List UInt8 := if 60 < (layT f u).length then [] else layT f u
def layCd (f : Nat → UInt8) (u : Int) : Int := if 60 < (layT f u).length then 5 else 0
theorem lay_full (f : Nat → UInt8) (j : Nat) (r : Int) (u : Int) (h : layK f u = j) (hr : u - preQ f j = r) : layT f u = (List.range j).map f ++ tailB r := by
  unfold layT; rw [h, hr]
theorem range_len (f : Nat → UInt8) (j : Nat) : ((List.range j).map f).length = j := by simp
theorem range_snoc (f : Nat → UInt8) (j : Nat) : (List.range (j + 1)).map f = (List.range j).map f ++ [f j] := by rw [List.range_succ, List.map_append]; rfl
theorem ltrAt_eq (cs : List Crs) (k : Int) {x : Crs} (h : crsAt cs k = x) (j : Nat) : ltrAt cs k j = ltr (bts x.lead) (bts x.cyc) j := by unfold ltrAt; rw [h]; rfl
theorem crs_small {cs : List Crs} {n : Nat} (hl : cs.length = n) (hn1 : 1 ≤ n) (hok : cs.all crsOk = true) (k : Int) {x : Crs} (h : crsAt cs k = x) : x.lead.size ≤ 6 ∧ 1 ≤ x.cyc.size ∧ x.cyc.size ≤ 8 := by
  have h1 : crsB (bts x.lead) (bts x.cyc) = true := by have := crsAt_ok (cs := cs) (by omega) hok k; rw [h] at this; exact this
  have h2 := crsB_bd h1
  rw [bts_length, bts_length] at h2
  omega
set_option maxRecDepth 100000 in
set_option maxHeartbeats 3000000 in
theorem i_layCourse (nm : ByteArray) (ao : Option Addr) (n c : Nat) (cs : List Crs) (k u : Int) (w : World) (hx : Crss w ao n cs) (hn1 : 1 ≤ n) (hn2 : n ≤ 8) (hok : cs.all crsOk = true) (k1 : 0 ≤ k) (k2 : k ≤ 1000) (u1 : 1 ≤ u) (u2 : u ≤ 200) :
    Calls Try.prog 80 #[.agg #[.string nm, .slice ao n c], .int .i64 k, .int .i64 u] w (RetSC (layL (ltrAt cs k) u) (layCd (ltrAt cs k) u) w) := by
  have hq := fun i => ltrAt_q (cs := cs) (by rw [hx.1]; exact hn1) hok k i
  obtain ⟨x, hxc⟩ : ∃ x, crsAt cs k = x := ⟨_, rfl⟩
  obtain ⟨s1, s2, s3⟩ := crs_small hx.1 hn1 hok k hxc
  have hfe := ltrAt_eq cs k hxc
  have hC := fun W (e : Ext w W) => i_course nm ao n c cs k W (hx.ext e) hn1 (by omega) k1 (by omega)
  rw [hxc] at hC
  obtain ⟨xa, xb⟩ := x
  obtain ⟨f, hf⟩ : ∃ f, ltrAt cs k = f := ⟨_, rfl⟩
  rw [hf] at hq hfe ⊢
  have HQ := Lib.hid hq
  have HC : Hid (∀ W, Ext w W → Calls Try.prog 117 #[.agg #[.string nm, .slice ao n c], .int .i64 k] W (RetE (.agg #[.string xa, .string xb]) W)) := Lib.hid hC
  have HP : Hid (∀ (j : Nat) W, j ≤ 1000 → Calls Try.prog 118 #[.agg #[.string xa, .string xb], .int .i64 j] W (RetE (.int .u8 ((f j).toNat : Int)) W)) := Lib.hid (fun j W hj => by rw [hfe j]; exact i_pieceAt xa xb j (by dsimp only at s1; omega) (by dsimp only at s3; omega) s2 (by omega) W)
  have e0 : Ext w (w.alloc (.cells #[.string nm, .slice ao n c] 66)) := (Ext.refl w).alloc _
  clear hx hxc hfe hq hC hf s1 s2 s3 hok
  go_enter Try.func80, Try.ntmps80
  go_wp2_with (go_at_call 117; refine (HC.out _ e0).mono ?_; rintro e w1 ⟨rfl, e1⟩; have E1 := Lib.hid (e0.trans e1))
  clear e0 e1
  go_loopw [9, 10] (fun v q wr => ∃ j : Nat, q = .int .i64 (preQ f j) ∧ preQ f j ≤ u ∧ Hid (OwnB wr w1.heap.size v ((List.range j).map f)) ∧ Hid (Ext w1 wr) ∧ Hid (wr.heap[w1.heap.size + 1]? = some (.cells #[.string xa, .string xb] 151 (0, 0)))) (fun _ q _ => (u - intOf q).toNat)
  case atStart =>
    refine ⟨0, rfl, by show (0 : Int) ≤ u; omega, Lib.hid ((OwnB.empty (Ext.refl w1)).ext ((Ext.refl _).alloc _)), Lib.hid (((Ext.refl w1).alloc _).alloc _), Lib.hid ?_⟩
    exact blk_at _ _ _ (by simp)
  case round =>
    obtain ⟨j, rfl, hju, HO, HE, HB⟩ := hrel
    obtain ⟨av, cv, rfl⟩ := HO.out.shape
    have hge := preQ_ge HQ.out j
    rw [range_len] at *
    obtain ⟨q0, q1, _, _, _⟩ := two_cells HB.out
    have hqb := HQ.out j
    have hqb4 := qB_bd (f j)
    have HQE : Hid (qI ((f j).toNat : Int) = qB (f j)) := Lib.hid rfl
    have HP2 := Lib.hid (fun W => HP.out j W (by omega))
    have hp1 : preQ f (j + 1) = preQ f j + qB (f j) := rfl
    have HP1 := Lib.hid hp1
    have hlk : u < preQ f (j + 1) → layK f u = j := fun h => layK_eq HQ.out hju h
    rw [hp1] at hlk
    have HLK := Lib.hid hlk
    have HSN := Lib.hid (range_snoc f j)
    have HRL := Lib.hid (range_len f j)
    obtain ⟨p, hp⟩ : ∃ p, preQ f j = p := ⟨_, rfl⟩
    obtain ⟨b, hbb⟩ : ∃ b, f j = b := ⟨_, rfl⟩
    obtain ⟨qq, hqq⟩ : ∃ qq, qB b = qq := ⟨_, rfl⟩
    rw [hbb] at hqb hqb4 HQE HP2 HP1 HLK HSN
    rw [hqq] at hqb hqb4 HQE HP1 HLK
    have HPP := Lib.hid hp
    rw [hp] at hju hge HLK HP1
    rw [hp]
    clear hp hbb hqq hp1 hlk
    have HQC : Hid (∀ W, Calls Try.prog 119 #[.int .u8 (b.toNat : Int)] W (RetV (.int .i64 qq) W)) := Lib.hid (fun W => by rw [← HQE.out]; exact i_quartersOf _ W)
    by_cases hfit : p + qq ≤ u
    · go_wp2_with (first
        | (go_at_call 118; refine (HP2.out _).mono ?_; rintro e w2 ⟨rfl, e2⟩; have E2 := Lib.hid e2; clear e2)
        | (go_at_call 119; refine (HQC.out _).mono ?_; rintro e w3 ⟨rfl, rfl⟩)
        | (at_builtin; refine wpList_append_u8g (W := w1) rfl _ _ rfl _ ((List.range j).map f) b rfl rfl rfl (HO.out.ext E2.out) (HE.out.trans E2.out) (by rw [HRL.out]; omega) ?_; intro v' w4 ho4 e4 b4; have HO4 := Lib.hid ho4; have HE4 := Lib.hid e4; have HB4 := Lib.hid (b4 _ _ _ _ (E2.out.block HB.out) (by decide)); clear ho4 e4 b4))
      go_roundw
      case rel => exact ⟨j + 1, by rw [HP1.out], by rw [HP1.out]; omega, Lib.hid (by rw [HSN.out]; exact HO4.out), HE4, HB4⟩
      case measure => (simp [intOf] <;> omega)
    · have hr : u - p = 0 ∨ u - p = 1 ∨ u - p = 2 ∨ u - p = 3 := by omega
      have HT := Lib.hid (lay_full f j (u - p) u (HLK.out (by omega)) (by rw [HPP.out]))
      have hj4 := preQ_le f j
      rw [HPP.out] at hj4
      have HVL : Hid (layL f u = if 60 < (layT f u).length then [] else layT f u) := Lib.hid rfl
      have HVC : Hid (layCd f u = if 60 < (layT f u).length then 5 else 0) := Lib.hid rfl
      rcases hr with hr | hr | hr | hr
      · have hj1 : 1 ≤ j := by omega
        have HNE : Hid ((List.range j).map f ≠ []) := Lib.hid (fun h => by have h2 := HRL.out; rw [h] at h2; simp at h2; omega)
        have HLT : Hid (layT f u = (List.range j).map f) := Lib.hid (by rw [HT.out, hr]; simp [tailB])
        have HLN : Hid ((layT f u).length = j) := Lib.hid (by rw [HLT.out, HRL.out])
        by_cases hbig : 60 < j
        · have hbigI : (60 : Int) < (j : Int) := by omega
          go_wp2_with (first
            | (go_at_call 118; refine (HP2.out _).mono ?_; rintro e w2 ⟨rfl, e2⟩; have E2 := Lib.hid e2; clear e2)
            | (go_at_call 119; refine (HQC.out _).mono ?_; rintro e w3 ⟨rfl, rfl⟩))
          go_ret2
          exact RetSC.mk (by rw [HVL.out, HLN.out, if_pos hbig]; rfl) (by rw [HVC.out, HLN.out, if_pos hbig]) (E1.out.trans (HE.out.trans E2.out))
        · have hbigI : ¬ (60 : Int) < (j : Int) := by omega
          go_wp2_with (first
            | (go_at_call 118; refine (HP2.out _).mono ?_; rintro e w2 ⟨rfl, e2⟩; have E2 := Lib.hid e2; clear e2; have HTX := (HO.out.ext E2.out).text HNE.out)
            | (go_at_call 119; refine (HQC.out _).mono ?_; rintro e w3 ⟨rfl, rfl⟩))
          go_ret2
          exact RetSC.mk (by rw [HVL.out, HLN.out, if_neg hbig, HLT.out]) (by rw [HVC.out, HLN.out, if_neg hbig]) (E1.out.trans (HE.out.trans E2.out))
      · have HLT : Hid (layT f u = (List.range j).map f ++ [67]) := Lib.hid (by rw [HT.out, hr]; rfl)
        have HLN : Hid ((layT f u).length = j + 1) := Lib.hid (by rw [HLT.out, List.length_append, HRL.out]; rfl)
        by_cases hbig : 60 < j + 1
        · have hbigI : (60 : Int) < (j : Int) + 1 := by omega
          go_wp2_with (first
            | (go_at_call 118; refine (HP2.out _).mono ?_; rintro e w2 ⟨rfl, e2⟩; have E2 := Lib.hid e2; clear e2)
            | (go_at_call 119; refine (HQC.out _).mono ?_; rintro e w3 ⟨rfl, rfl⟩)
            | (at_builtin; refine wpList_append_u8g (W := w1) rfl _ _ rfl _ ((List.range j).map f) 67 rfl rfl rfl (HO.out.ext E2.out) (HE.out.trans E2.out) (by rw [HRL.out]; omega) ?_; intro v' w4 ho4 e4 b4; obtain ⟨a5, c5, rfl⟩ := ho4.shape; rw [List.length_append, HRL.out, List.length_singleton]; have HE4 := Lib.hid e4; clear ho4 e4 b4))
          go_ret2
          exact RetSC.mk (by rw [HVL.out, HLN.out, if_pos hbig]; rfl) (by rw [HVC.out, HLN.out, if_pos hbig]) (E1.out.trans HE4.out)
        · have hbigI : ¬ (60 : Int) < (j : Int) + 1 := by omega
          go_wp2_with (first
            | (go_at_call 118; refine (HP2.out _).mono ?_; rintro e w2 ⟨rfl, e2⟩; have E2 := Lib.hid e2; clear e2)
            | (go_at_call 119; refine (HQC.out _).mono ?_; rintro e w3 ⟨rfl, rfl⟩)
            | (at_builtin; refine wpList_append_u8g (W := w1) rfl _ _ rfl _ ((List.range j).map f) 67 rfl rfl rfl (HO.out.ext E2.out) (HE.out.trans E2.out) (by rw [HRL.out]; omega) ?_; intro v' w4 ho4 e4 b4; obtain ⟨a5, c5, rfl⟩ := ho4.shape; have HTX := ho4.text (by simp); rw [List.length_append, HRL.out, List.length_singleton] at HTX ⊢; have HE4 := Lib.hid e4; clear ho4 e4 b4))
          go_ret2
          exact RetSC.mk (by rw [HVL.out, HLN.out, if_neg hbig, HLT.out]) (by rw [HVC.out, HLN.out, if_neg hbig]) (E1.out.trans HE4.out)
      · have HLT : Hid (layT f u = (List.range j).map f ++ [66]) := Lib.hid (by rw [HT.out, hr]; rfl)
        have HLN : Hid ((layT f u).length = j + 1) := Lib.hid (by rw [HLT.out, List.length_append, HRL.out]; rfl)
        by_cases hbig : 60 < j + 1
        · have hbigI : (60 : Int) < (j : Int) + 1 := by omega
          go_wp2_with (first
            | (go_at_call 118; refine (HP2.out _).mono ?_; rintro e w2 ⟨rfl, e2⟩; have E2 := Lib.hid e2; clear e2)
            | (go_at_call 119; refine (HQC.out _).mono ?_; rintro e w3 ⟨rfl, rfl⟩)
            | (at_builtin; refine wpList_append_u8g (W := w1) rfl _ _ rfl _ ((List.range j).map f) 66 rfl rfl rfl (HO.out.ext E2.out) (HE.out.trans E2.out) (by rw [HRL.out]; omega) ?_; intro v' w4 ho4 e4 b4; obtain ⟨a5, c5, rfl⟩ := ho4.shape; rw [List.length_append, HRL.out, List.length_singleton]; have HE4 := Lib.hid e4; clear ho4 e4 b4))
          go_ret2
          exact RetSC.mk (by rw [HVL.out, HLN.out, if_pos hbig]; rfl) (by rw [HVC.out, HLN.out, if_pos hbig]) (E1.out.trans HE4.out)
        · have hbigI : ¬ (60 : Int) < (j : Int) + 1 := by omega
          go_wp2_with (first
            | (go_at_call 118; refine (HP2.out _).mono ?_; rintro e w2 ⟨rfl, e2⟩; have E2 := Lib.hid e2; clear e2)
            | (go_at_call 119; refine (HQC.out _).mono ?_; rintro e w3 ⟨rfl, rfl⟩)
            | (at_builtin; refine wpList_append_u8g (W := w1) rfl _ _ rfl _ ((List.range j).map f) 66 rfl rfl rfl (HO.out.ext E2.out) (HE.out.trans E2.out) (by rw [HRL.out]; omega) ?_; intro v' w4 ho4 e4 b4; obtain ⟨a5, c5, rfl⟩ := ho4.shape; have HTX := ho4.text (by simp); rw [List.length_append, HRL.out, List.length_singleton] at HTX ⊢; have HE4 := Lib.hid e4; clear ho4 e4 b4))
          go_ret2
          exact RetSC.mk (by rw [HVL.out, HLN.out, if_neg hbig, HLT.out]) (by rw [HVC.out, HLN.out, if_neg hbig]) (E1.out.trans HE4.out)
      · have HLT : Hid (layT f u = (List.range j).map f ++ [84]) := Lib.hid (by rw [HT.out, hr]; rfl)
        have HLN : Hid ((layT f u).length = j + 1) := Lib.hid (by rw [HLT.out, List.length_append, HRL.out]; rfl)
        by_cases hbig : 60 < j + 1
        · have hbigI : (60 : Int) < (j : Int) + 1 := by omega
          go_wp2_with (first
            | (go_at_call 118; refine (HP2.out _).mono ?_; rintro e w2 ⟨rfl, e2⟩; have E2 := Lib.hid e2; clear e2)
            | (go_at_call 119; refine (HQC.out _).mono ?_; rintro e w3 ⟨rfl, rfl⟩)
            | (at_builtin; refine wpList_append_u8g (W := w1) rfl _ _ rfl _ ((List.range j).map f) 84 rfl rfl rfl (HO.out.ext E2.out) (HE.out.trans E2.out) (by rw [HRL.out]; omega) ?_; intro v' w4 ho4 e4 b4; obtain ⟨a5, c5, rfl⟩ := ho4.shape; rw [List.length_append, HRL.out, List.length_singleton]; have HE4 := Lib.hid e4; clear ho4 e4 b4))
          go_ret2
          exact RetSC.mk (by rw [HVL.out, HLN.out, if_pos hbig]; rfl) (by rw [HVC.out, HLN.out, if_pos hbig]) (E1.out.trans HE4.out)
        · have hbigI : ¬ (60 : Int) < (j : Int) + 1 := by omega
          go_wp2_with (first
            | (go_at_call 118; refine (HP2.out _).mono ?_; rintro e w2 ⟨rfl, e2⟩; have E2 := Lib.hid e2; clear e2)
            | (go_at_call 119; refine (HQC.out _).mono ?_; rintro e w3 ⟨rfl, rfl⟩)
            | (at_builtin; refine wpList_append_u8g (W := w1) rfl _ _ rfl _ ((List.range j).map f) 84 rfl rfl rfl (HO.out.ext E2.out) (HE.out.trans E2.out) (by rw [HRL.out]; omega) ?_; intro v' w4 ho4 e4 b4; obtain ⟨a5, c5, rfl⟩ := ho4.shape; have HTX := ho4.text (by simp); rw [List.length_append, HRL.out, List.length_singleton] at HTX ⊢; have HE4 := Lib.hid e4; clear ho4 e4 b4))
          go_ret2
          exact RetSC.mk (by rw [HVL.out, HLN.out, if_neg hbig, HLT.out]) (by rw [HVC.out, HLN.out, if_neg hbig]) (E1.out.trans HE4.out)
end Go.Proofs.Ytnhmcmohnpbcjaa

/- Contracts: a course that is laid by a bond: the reference's; and the two functions that answer. -/
namespace Go.Proofs.Ytnhmcmohnpbcjaa
open Go.RowKit
set_option linter.unusedSimpArgs false
set_option linter.unusedVariables false
set_option linter.unnecessarySimpa false

set_option maxRecDepth 100000 in
set_option maxHeartbeats 3000000 in
theorem s_l06Lay (pb : Nat) (nm : ByteArray) (ao : Option Addr) (n c : Nat) (cs : List Crs) (k u : Int) (w : World) (hB : Two w pb (.string nm) (.slice ao n c)) (hx : Crss w ao n cs) (hn1 : 1 ≤ n) (hn2 : n ≤ 8) (hok : cs.all crsOk = true) (k1 : 0 ≤ k) (k2 : k ≤ 1000) (u1 : 1 ≤ u) (u2 : u ≤ 200) :
    Calls Try.prog 76 #[.pointer (some ⟨pb, 0, none⟩), .int .i64 k, .int .i64 u] w (RetE (.string (mkS (layT (ltrAt cs k) u))) w) := by
  have hq := fun i => ltrAt_q (cs := cs) (by rw [hx.1]; exact hn1) hok k i
  obtain ⟨x, hxc⟩ : ∃ x, crsAt cs k = x := ⟨_, rfl⟩
  obtain ⟨s1, s2, s3⟩ := crs_small hx.1 hn1 hok k hxc
  have hfe := ltrAt_eq cs k hxc
  have hC := s_l04At pb nm ao n c cs k w hB hx hn1 (by omega) k1 (by omega)
  rw [hxc] at hC
  obtain ⟨xa, xb⟩ := x
  obtain ⟨f, hf⟩ : ∃ f, ltrAt cs k = f := ⟨_, rfl⟩
  rw [hf] at hq hfe ⊢
  have HQ := Lib.hid hq
  have HC : Hid (Calls Try.prog 109 #[.pointer (some ⟨pb, 0, none⟩), .int .i64 k] w (RetE (.agg #[.string xa, .string xb]) w)) := Lib.hid hC
  have HP : Hid (∀ (j : Nat) W, j ≤ 1000 → Calls Try.prog 110 #[.agg #[.string xa, .string xb], .int .i64 j] W (RetE (.int .u8 ((f j).toNat : Int)) W)) := Lib.hid (fun j W hj => by rw [hfe j]; exact s_l04Letter xa xb j (by dsimp only at s1; omega) (by dsimp only at s3; omega) s2 (by omega) W)
  clear hx hxc hfe hq hC hf s1 s2 s3 hok hB
  go_enter Try.func76, Try.ntmps76
  go_wp2_with (go_at_call 109; refine HC.out.mono ?_; rintro e w1 ⟨rfl, e1⟩; have E1 := Lib.hid e1)
  clear e1
  go_loopw [8, 9, 10] (fun v q i wr => ∃ j : Nat, i = .int .i64 j ∧ q = .int .i64 (preQ f j) ∧ preQ f j ≤ u ∧ Hid (OwnB wr w1.heap.size v ((List.range j).map f)) ∧ Hid (Ext w1 wr) ∧ Hid (wr.heap[w1.heap.size]? = some (.cells #[.string xa, .string xb] 151 (0, 0)))) (fun _ q _ _ => (u - intOf q).toNat)
  case atStart =>
    refine ⟨0, rfl, rfl, by show (0 : Int) ≤ u; omega, Lib.hid (by have h := OwnB.empty ((Ext.refl w1).alloc (.cells #[.string xa, .string xb] 151)); rw [show (w1.alloc (.cells #[.string xa, .string xb] 151)).heap.size = w1.heap.size + 1 by simp] at h; exact h), Lib.hid (((Ext.refl w1).alloc _).alloc _), Lib.hid ?_⟩
    exact blk_old (blk_at _ _ _ rfl)
  case round =>
    obtain ⟨j, rfl, rfl, hju, HO, HE, HB⟩ := hrel
    obtain ⟨av, cv, rfl⟩ := HO.out.shape
    have hge := preQ_ge HQ.out j
    rw [range_len] at *
    obtain ⟨q0, q1, _, _, _⟩ := two_cells HB.out
    have hqb := HQ.out j
    have hqb4 := qB_bd (f j)
    have HQE : Hid (qI ((f j).toNat : Int) = qB (f j)) := Lib.hid rfl
    have HP2 := Lib.hid (fun W => HP.out j W (by omega))
    have hp1 : preQ f (j + 1) = preQ f j + qB (f j) := rfl
    have HP1 := Lib.hid hp1
    have hlk : u < preQ f (j + 1) → layK f u = j := fun h => layK_eq HQ.out hju h
    rw [hp1] at hlk
    have HLK := Lib.hid hlk
    have HSN := Lib.hid (range_snoc f j)
    have HRL := Lib.hid (range_len f j)
    obtain ⟨p, hp⟩ : ∃ p, preQ f j = p := ⟨_, rfl⟩
    obtain ⟨b, hbb⟩ : ∃ b, f j = b := ⟨_, rfl⟩
    obtain ⟨qq, hqq⟩ : ∃ qq, qB b = qq := ⟨_, rfl⟩
    rw [hbb] at hqb hqb4 HQE HP2 HP1 HLK HSN
    rw [hqq] at hqb hqb4 HQE HP1 HLK
    have HPP := Lib.hid hp
    rw [hp] at hju hge HLK HP1
    rw [hp]
    clear hp hbb hqq hp1 hlk
    have HQC : Hid (∀ W, Calls Try.prog 111 #[.int .u8 (b.toNat : Int)] W (RetV (.int .i64 qq) W)) := Lib.hid (fun W => by rw [← HQE.out]; exact s_l02Quarters _ W)
    by_cases hfit : p + qq ≤ u
    · go_wp2_with (first
        | (go_at_call 110; refine (HP2.out _).mono ?_; rintro e w2 ⟨rfl, e2⟩; have E2 := Lib.hid e2; clear e2)
        | (go_at_call 111; refine (HQC.out _).mono ?_; rintro e w3 ⟨rfl, rfl⟩)
        | (at_builtin; refine wpList_append_u8g (W := w1) rfl _ _ rfl _ ((List.range j).map f) b rfl rfl rfl (HO.out.ext E2.out) (HE.out.trans E2.out) (by rw [HRL.out]; omega) ?_; intro v' w4 ho4 e4 b4; have HO4 := Lib.hid ho4; have HE4 := Lib.hid e4; have HB4 := Lib.hid (b4 _ _ _ _ (E2.out.block HB.out) (by decide)); clear ho4 e4 b4))
      go_roundw
      case rel => exact ⟨j + 1, by go_num, by rw [HP1.out], by rw [HP1.out]; omega, Lib.hid (by rw [HSN.out]; exact HO4.out), HE4, HB4⟩
      case measure => (simp [intOf] <;> omega)
    · have hr : u - p = 0 ∨ u - p = 1 ∨ u - p = 2 ∨ u - p = 3 := by omega
      have HT := Lib.hid (lay_full f j (u - p) u (HLK.out (by omega)) (by rw [HPP.out]))
      have hj4 := preQ_le f j
      rw [HPP.out] at hj4
      rcases hr with hr | hr | hr | hr
      · have hj1 : 1 ≤ j := by omega
        have HNE : Hid ((List.range j).map f ≠ []) := Lib.hid (fun h => by have h2 := HRL.out; rw [h] at h2; simp at h2; omega)
        have HLT : Hid (layT f u = (List.range j).map f) := Lib.hid (by rw [HT.out, hr]; simp [tailB])
        go_wp2_with (first
            | (go_at_call 110; refine (HP2.out _).mono ?_; rintro e w2 ⟨rfl, e2⟩; have E2 := Lib.hid e2; clear e2; have HTX := (HO.out.ext E2.out).text HNE.out)
            | (go_at_call 111; refine (HQC.out _).mono ?_; rintro e w3 ⟨rfl, rfl⟩))
        go_ret
        exact RetE.mk (by rw [HLT.out]; rfl) (E1.out.trans (HE.out.trans E2.out))
      · have HLT : Hid (layT f u = (List.range j).map f ++ [67]) := Lib.hid (by rw [HT.out, hr]; rfl)
        go_wp2_with (first
            | (go_at_call 110; refine (HP2.out _).mono ?_; rintro e w2 ⟨rfl, e2⟩; have E2 := Lib.hid e2; clear e2)
            | (go_at_call 111; refine (HQC.out _).mono ?_; rintro e w3 ⟨rfl, rfl⟩)
            | (at_builtin; refine wpList_append_u8g (W := w1) rfl _ _ rfl _ ((List.range j).map f) 67 rfl rfl rfl (HO.out.ext E2.out) (HE.out.trans E2.out) (by rw [HRL.out]; omega) ?_; intro v' w4 ho4 e4 b4; have HTX := ho4.text (by simp); have HE4 := Lib.hid e4; clear ho4 e4 b4))
        go_ret
        exact RetE.mk (by rw [HLT.out]; rfl) (E1.out.trans HE4.out)
      · have HLT : Hid (layT f u = (List.range j).map f ++ [66]) := Lib.hid (by rw [HT.out, hr]; rfl)
        go_wp2_with (first
            | (go_at_call 110; refine (HP2.out _).mono ?_; rintro e w2 ⟨rfl, e2⟩; have E2 := Lib.hid e2; clear e2)
            | (go_at_call 111; refine (HQC.out _).mono ?_; rintro e w3 ⟨rfl, rfl⟩)
            | (at_builtin; refine wpList_append_u8g (W := w1) rfl _ _ rfl _ ((List.range j).map f) 66 rfl rfl rfl (HO.out.ext E2.out) (HE.out.trans E2.out) (by rw [HRL.out]; omega) ?_; intro v' w4 ho4 e4 b4; have HTX := ho4.text (by simp); have HE4 := Lib.hid e4; clear ho4 e4 b4))
        go_ret
        exact RetE.mk (by rw [HLT.out]; rfl) (E1.out.trans HE4.out)
      · have HLT : Hid (layT f u = (List.range j).map f ++ [84]) := Lib.hid (by rw [HT.out, hr]; rfl)
        go_wp2_with (first
            | (go_at_call 110; refine (HP2.out _).mono ?_; rintro e w2 ⟨rfl, e2⟩; have E2 := Lib.hid e2; clear e2)
            | (go_at_call 111; refine (HQC.out _).mono ?_; rintro e w3 ⟨rfl, rfl⟩)
            | (at_builtin; refine wpList_append_u8g (W := w1) rfl _ _ rfl _ ((List.range j).map f) 84 rfl rfl rfl (HO.out.ext E2.out) (HE.out.trans E2.out) (by rw [HRL.out]; omega) ?_; intro v' w4 ho4 e4 b4; have HTX := ho4.text (by simp); have HE4 := Lib.hid e4; clear ho4 e4 b4))
        go_ret
        exact RetE.mk (by rw [HLT.out]; rfl) (E1.out.trans HE4.out)
def lcL (nm : List UInt8) (cs : List Crs) (k u : Int) : List UInt8 := if codeB nm cs k u = 0 then layL (ltrAt cs k) u else []
def lcC (nm : List UInt8) (cs : List Crs) (k u : Int) : Int := if codeB nm cs k u = 0 then layCd (ltrAt cs k) u else codeB nm cs k u
theorem codeB_0 {nm : List UInt8} {cs : List Crs} {k u : Int} (h : codeB nm cs k u = 0) : bondB nm cs = true ∧ 0 ≤ k ∧ k ≤ 1000 ∧ 1 ≤ u ∧ u ≤ 200 := by
  unfold codeB at h
  split at h
  · rename_i h1
    split at h
    · rename_i h2
      have h3 := inB_iff.1 h2.1
      have h4 := inB_iff.1 h2.2
      exact ⟨h1, h3.1, h3.2, h4.1, h4.2⟩
    · omega
  · omega
end Go.Proofs.Ytnhmcmohnpbcjaa
