/- Contracts: a course that is laid by a bond: the reference's; and the two functions that answer. -/
import Derived.Test.YtehcmocknmfhcaaBond5
namespace Go.Proofs.Ytehcmocknmfhcaa
open Go.RowKit
set_option linter.unusedSimpArgs false
set_option linter.unusedVariables false
set_option linter.unnecessarySimpa false

set_option maxRecDepth 100000 in
set_option maxHeartbeats 3000000 in
theorem s_l06Lay (pb : Nat) (nm : ByteArray) (ao : Option Addr) (n c : Nat) (cs : List Crs) (k u : Int) (w : World) (hB : Two w pb (.string nm) (.slice ao n c)) (hx : Crss w ao n cs) (hn1 : 1 ≤ n) (hn2 : n ≤ 8) (hok : cs.all crsOk = true) (k1 : 0 ≤ k) (k2 : k ≤ 1000) (u1 : 1 ≤ u) (u2 : u ≤ 200) :
    Calls Try.prog 43 #[.pointer (some ⟨pb, 0, none⟩), .int .i64 k, .int .i64 u] w (RetE (.string (mkS (layT (ltrAt cs k) u))) w) := by
  have hq := fun i => ltrAt_q (cs := cs) (by rw [hx.1]; exact hn1) hok k i
  obtain ⟨x, hxc⟩ : ∃ x, crsAt cs k = x := ⟨_, rfl⟩
  obtain ⟨s1, s2, s3⟩ := crs_small hx.1 hn1 hok k hxc
  have hfe := ltrAt_eq cs k hxc
  have hC := s_l04At pb nm ao n c cs k w hB hx hn1 (by omega) k1 (by omega)
  rw [hxc] at hC
  obtain ⟨xa, xb⟩ := x
  obtain ⟨f, hf⟩ : ∃ f, ltrAt cs k = f := ⟨_, rfl⟩
  rw [hf] at hq hfe ⊢
  have HQ := Lib.hid hq
  have HC : Hid (Calls Try.prog 58 #[.pointer (some ⟨pb, 0, none⟩), .int .i64 k] w (RetE (.agg #[.string xa, .string xb]) w)) := Lib.hid hC
  have HP : Hid (∀ (j : Nat) W, j ≤ 1000 → Calls Try.prog 83 #[.agg #[.string xa, .string xb], .int .i64 j] W (RetE (.int .u8 ((f j).toNat : Int)) W)) := Lib.hid (fun j W hj => by rw [hfe j]; exact s_l04Letter xa xb j (by dsimp only at s1; omega) (by dsimp only at s3; omega) s2 (by omega) W)
  clear hx hxc hfe hq hC hf s1 s2 s3 hok hB
  go_enter Try.func43, Try.ntmps43
  go_wp2_with (go_at_call 58; refine HC.out.mono ?_; rintro e w1 ⟨rfl, e1⟩; have E1 := Lib.hid e1)
  clear e1
  go_loopw [8, 9, 10] (fun v q i wr => ∃ j : Nat, i = .int .i64 j ∧ q = .int .i64 (preQ f j) ∧ preQ f j ≤ u ∧ Hid (OwnB wr w1.heap.size v ((List.range j).map f)) ∧ Hid (Ext w1 wr) ∧ Hid (wr.heap[w1.heap.size]? = some (.cells #[.string xa, .string xb] 80 (0, 0)))) (fun _ q _ _ => (u - intOf q).toNat)
  case atStart =>
    refine ⟨0, rfl, rfl, by show (0 : Int) ≤ u; omega, Lib.hid (by have h := OwnB.empty ((Ext.refl w1).alloc (.cells #[.string xa, .string xb] 80)); rw [show (w1.alloc (.cells #[.string xa, .string xb] 80)).heap.size = w1.heap.size + 1 by simp] at h; exact h), Lib.hid (((Ext.refl w1).alloc _).alloc _), Lib.hid ?_⟩
    exact blk_old (blk_at _ _ _ rfl)
  case round =>
    obtain ⟨j, rfl, rfl, hju, HO, HE, HB⟩ := hrel
    obtain ⟨av, cv, rfl⟩ := HO.out.shape
    have hge := preQ_ge HQ.out j
    rw [range_len] at *
    obtain ⟨q0, q1, _, _, _⟩ := two_cells HB.out
    have hqb := HQ.out j
    have hqb4 := qB_bd (f j)
    have HQE : Hid (qI ((f j).toNat : Int) = qB (f j)) := Lib.hid rfl
    have HP2 := Lib.hid (fun W => HP.out j W (by omega))
    have hp1 : preQ f (j + 1) = preQ f j + qB (f j) := rfl
    have HP1 := Lib.hid hp1
    have hlk : u < preQ f (j + 1) → layK f u = j := fun h => layK_eq HQ.out hju h
    rw [hp1] at hlk
    have HLK := Lib.hid hlk
    have HSN := Lib.hid (range_snoc f j)
    have HRL := Lib.hid (range_len f j)
    obtain ⟨p, hp⟩ : ∃ p, preQ f j = p := ⟨_, rfl⟩
    obtain ⟨b, hbb⟩ : ∃ b, f j = b := ⟨_, rfl⟩
    obtain ⟨qq, hqq⟩ : ∃ qq, qB b = qq := ⟨_, rfl⟩
    rw [hbb] at hqb hqb4 HQE HP2 HP1 HLK HSN
    rw [hqq] at hqb hqb4 HQE HP1 HLK
    have HPP := Lib.hid hp
    rw [hp] at hju hge HLK HP1
    rw [hp]
    clear hp hbb hqq hp1 hlk
    have HQC : Hid (∀ W, Calls Try.prog 84 #[.int .u8 (b.toNat : Int)] W (RetV (.int .i64 qq) W)) := Lib.hid (fun W => by rw [← HQE.out]; exact s_l02Quarters _ W)
    by_cases hfit : p + qq ≤ u
    · go_wp2_with (first
        | (go_at_call 83; refine (HP2.out _).mono ?_; rintro e w2 ⟨rfl, e2⟩; have E2 := Lib.hid e2; clear e2)
        | (go_at_call 84; refine (HQC.out _).mono ?_; rintro e w3 ⟨rfl, rfl⟩)
        | (at_builtin; refine wpList_append_u8g (W := w1) rfl _ _ rfl _ ((List.range j).map f) b rfl rfl rfl (HO.out.ext E2.out) (HE.out.trans E2.out) (by rw [HRL.out]; omega) ?_; intro v' w4 ho4 e4 b4; have HO4 := Lib.hid ho4; have HE4 := Lib.hid e4; have HB4 := Lib.hid (b4 _ _ _ _ (E2.out.block HB.out) (by decide)); clear ho4 e4 b4))
      go_roundw
      case rel => exact ⟨j + 1, by go_num, by rw [HP1.out], by rw [HP1.out]; omega, Lib.hid (by rw [HSN.out]; exact HO4.out), HE4, HB4⟩
      case measure => (simp [intOf] <;> omega)
    · have hr : u - p = 0 ∨ u - p = 1 ∨ u - p = 2 ∨ u - p = 3 := by omega
      have HT := Lib.hid (lay_full f j (u - p) u (HLK.out (by omega)) (by rw [HPP.out]))
      have hj4 := preQ_le f j
      rw [HPP.out] at hj4
      rcases hr with hr | hr | hr | hr
      · have hj1 : 1 ≤ j := by omega
        have HNE : Hid ((List.range j).map f ≠ []) := Lib.hid (fun h => by have h2 := HRL.out; rw [h] at h2; simp at h2; omega)
        have HLT : Hid (layT f u = (List.range j).map f) := Lib.hid (by rw [HT.out, hr]; simp [tailB])
        go_wp2_with (first
            | (go_at_call 83; refine (HP2.out _).mono ?_; rintro e w2 ⟨rfl, e2⟩; have E2 := Lib.hid e2; clear e2; have HTX := (HO.out.ext E2.out).text HNE.out)
            | (go_at_call 84; refine (HQC.out _).mono ?_; rintro e w3 ⟨rfl, rfl⟩))
        go_ret
        exact RetE.mk (by rw [HLT.out]; rfl) (E1.out.trans (HE.out.trans E2.out))
      · have HLT : Hid (layT f u = (List.range j).map f ++ [67]) := Lib.hid (by rw [HT.out, hr]; rfl)
        go_wp2_with (first
            | (go_at_call 83; refine (HP2.out _).mono ?_; rintro e w2 ⟨rfl, e2⟩; have E2 := Lib.hid e2; clear e2)
            | (go_at_call 84; refine (HQC.out _).mono ?_; rintro e w3 ⟨rfl, rfl⟩)
            | (at_builtin; refine wpList_append_u8g (W := w1) rfl _ _ rfl _ ((List.range j).map f) 67 rfl rfl rfl (HO.out.ext E2.out) (HE.out.trans E2.out) (by rw [HRL.out]; omega) ?_; intro v' w4 ho4 e4 b4; have HTX := ho4.text (by simp); have HE4 := Lib.hid e4; clear ho4 e4 b4))
        go_ret
        exact RetE.mk (by rw [HLT.out]; rfl) (E1.out.trans HE4.out)
      · have HLT : Hid (layT f u = (List.range j).map f ++ [66]) := Lib.hid (by rw [HT.out, hr]; rfl)
        go_wp2_with (first
            | (go_at_call 83; refine (HP2.out _).mono ?_; rintro e w2 ⟨rfl, e2⟩; have E2 := Lib.hid e2; clear e2)
            | (go_at_call 84; refine (HQC.out _).mono ?_; rintro e w3 ⟨rfl, rfl⟩)
            | (at_builtin; refine wpList_append_u8g (W := w1) rfl _ _ rfl _ ((List.range j).map f) 66 rfl rfl rfl (HO.out.ext E2.out) (HE.out.trans E2.out) (by rw [HRL.out]; omega) ?_; intro v' w4 ho4 e4 b4; have HTX := ho4.text (by simp); have HE4 := Lib.hid e4; clear ho4 e4 b4))
        go_ret
        exact RetE.mk (by rw [HLT.out]; rfl) (E1.out.trans HE4.out)
      · have HLT : Hid (layT f u = (List.range j).map f ++ [84]) := Lib.hid (by rw [HT.out, hr]; rfl)
        go_wp2_with (first
            | (go_at_call 83; refine (HP2.out _).mono ?_; rintro e w2 ⟨rfl, e2⟩; have E2 := Lib.hid e2; clear e2)
            | (go_at_call 84; refine (HQC.out _).mono ?_; rintro e w3 ⟨rfl, rfl⟩)
            | (at_builtin; refine wpList_append_u8g (W := w1) rfl _ _ rfl _ ((List.range j).map f) 84 rfl rfl rfl (HO.out.ext E2.out) (HE.out.trans E2.out) (by rw [HRL.out]; omega) ?_; intro v' w4 ho4 e4 b4; have HTX := ho4.text (by simp); have HE4 := Lib.hid e4; clear ho4 e4 b4))
        go_ret
        exact RetE.mk (by rw [HLT.out]; rfl) (E1.out.trans HE4.out)
def lcL (nm : List UInt8) (cs : List Crs) (k u : Int) : List UInt8 := if codeB nm cs k u = 0 then layL (ltrAt cs k) u else []
def lcC (nm : List UInt8) (cs : List Crs) (k u : Int) : Int := if codeB nm cs k u = 0 then layCd (ltrAt cs k) u else codeB nm cs k u
theorem codeB_0 {nm : List UInt8} {cs : List Crs} {k u : Int} (h : codeB nm cs k u = 0) : bondB nm cs = true ∧ 0 ≤ k ∧ k ≤ 1000 ∧ 1 ≤ u ∧ u ≤ 200 := by
  unfold codeB at h
  split at h
  · rename_i h1
    split at h
    · rename_i h2
      have h3 := inB_iff.1 h2.1
      have h4 := inB_iff.1 h2.2
      exact ⟨h1, h3.1, h3.2, h4.1, h4.2⟩
    · omega
  · omega
set_option maxHeartbeats 1600000 in
theorem i_LayCourse (nm : ByteArray) (ao : Option Addr) (n c : Nat) (cs : List Crs) (k u : Int) (w : World) (hn : nm.size ≤ 9223372036854775807) (hx : Crss w ao n cs) :
    Calls Try.prog 12 #[.agg #[.string nm, .slice ao n c], .int .i64 k, .int .i64 u] w (RetSC (lcL (bts nm) cs k u) (lcC (bts nm) cs k u) w) := by
  have e0 : Ext w (w.alloc (.cells #[.string nm, .slice ao n c] 30)) := (Ext.refl w).alloc _
  have HO := Lib.hid (fun W (e : Ext w W) => i_ValidBond nm ao n c cs W hn (hx.ext e))
  have H1 := Lib.hid (fun W => i_within k 0 1000 W)
  have H2 := Lib.hid (fun W => i_within u 1 200 W)
  have HL : Hid (codeB (bts nm) cs k u = 0 → ∀ W, Ext w W → Calls Try.prog 47 #[.agg #[.string nm, .slice ao n c], .int .i64 k, .int .i64 u] W (RetSC (layL (ltrAt cs k) u) (layCd (ltrAt cs k) u) W)) := Lib.hid (fun h W e => by
    obtain ⟨b1, b2, b3, b4, b5⟩ := codeB_0 h
    obtain ⟨c1, c2, c3⟩ := bondB_bd b1
    have hl := hx.1
    exact i_layCourse nm ao n c cs k u W (hx.ext e) (by omega) (by omega) c3 b2 b3 b4 b5)
  have HLL : Hid (lcL (bts nm) cs k u = if codeB (bts nm) cs k u = 0 then layL (ltrAt cs k) u else []) := Lib.hid rfl
  have HLC : Hid (lcC (bts nm) cs k u = if codeB (bts nm) cs k u = 0 then layCd (ltrAt cs k) u else codeB (bts nm) cs k u) := Lib.hid rfl
  have hC : codeB (bts nm) cs k u = if bondB (bts nm) cs = true then (if inB k 0 1000 = true ∧ inB u 1 200 = true then 0 else 2) else 1 := rfl
  obtain ⟨f, hf⟩ : ∃ f, ltrAt cs k = f := ⟨_, rfl⟩
  rw [hf] at HL HLL HLC
  clear hx hf
  cases g0 : bondB (bts nm) cs with
  | false =>
    rw [g0] at HO hC
    have HC : Hid (codeB (bts nm) cs k u = 1) := Lib.hid hC
    clear g0 hC
    go_enter Try.func12, Try.ntmps12
    go_wp2_with (go_at_call 45; refine (HO.out _ e0).mono ?_; rintro e w1 ⟨rfl, e1⟩)
    go_ret2
    exact RetSC.mk (by rw [HLL.out, HC.out]; rfl) (by rw [HLC.out, HC.out]; rfl) (e0.trans e1)
  | true =>
    rw [g0] at HO hC
    cases g1 : inB k 0 1000 with
    | false =>
      rw [g1] at H1 hC
      have HC : Hid (codeB (bts nm) cs k u = 2) := Lib.hid (by rw [hC]; simp)
      clear g0 g1 hC
      go_enter Try.func12, Try.ntmps12
      go_wp2_with (first | (go_at_call 45; refine (HO.out _ e0).mono ?_; rintro e w1 ⟨rfl, e1⟩) | (go_at_call_of 46 (Value.int .i64 1000); refine (H1.out _).mono ?_; rintro e w' ⟨rfl, rfl⟩))
      go_ret2
      exact RetSC.mk (by rw [HLL.out, HC.out]; rfl) (by rw [HLC.out, HC.out]; rfl) (e0.trans e1)
    | true =>
      rw [g1] at H1 hC
      cases g2 : inB u 1 200 with
      | false =>
        rw [g2] at H2 hC
        have HC : Hid (codeB (bts nm) cs k u = 2) := Lib.hid (by rw [hC]; simp)
        clear g0 g1 g2 hC
        go_enter Try.func12, Try.ntmps12
        go_wp2_with (first | (go_at_call 45; refine (HO.out _ e0).mono ?_; rintro e w1 ⟨rfl, e1⟩) | (go_at_call_of 46 (Value.int .i64 1000); refine (H1.out _).mono ?_; rintro e w' ⟨rfl, rfl⟩) | (go_at_call_of 46 (Value.int .i64 200); refine (H2.out _).mono ?_; rintro e w' ⟨rfl, rfl⟩))
        go_ret2
        exact RetSC.mk (by rw [HLL.out, HC.out]; rfl) (by rw [HLC.out, HC.out]; rfl) (e0.trans e1)
      | true =>
        rw [g2] at H2 hC
        have HC : Hid (codeB (bts nm) cs k u = 0) := Lib.hid (by rw [hC]; simp)
        have HL2 := Lib.hid (HL.out HC.out)
        obtain ⟨zl, hzl⟩ : ∃ zl, layL f u = zl := ⟨_, rfl⟩
        obtain ⟨zc, hzc⟩ : ∃ zc, layCd f u = zc := ⟨_, rfl⟩
        rw [hzl] at HL2 HLL
        rw [hzc] at HL2 HLC
        clear g0 g1 g2 hC hzl hzc
        go_enter Try.func12, Try.ntmps12
        go_wp2_with (first | (go_at_call 45; refine (HO.out _ e0).mono ?_; rintro e w1 ⟨rfl, e1⟩; have B1 := two_cells (e1.block (heap_alloc_new w _)); obtain ⟨q0, q1, _, _, _⟩ := B1) | (go_at_call_of 46 (Value.int .i64 1000); refine (H1.out _).mono ?_; rintro e w' ⟨rfl, rfl⟩) | (go_at_call_of 46 (Value.int .i64 200); refine (H2.out _).mono ?_; rintro e w' ⟨rfl, rfl⟩) | (go_at_call 47; refine (HL2.out _ (e0.trans e1)).mono ?_; rintro e w2 ⟨rfl, e2⟩))
        go_ret2
        exact RetSC.mk (by rw [HLL.out, HC.out]; rfl) (by rw [HLC.out, HC.out]; rfl) ((e0.trans e1).trans e2)
set_option maxHeartbeats 1600000 in
theorem s_LayCourse (nm : ByteArray) (ao : Option Addr) (n c : Nat) (cs : List Crs) (k u : Int) (w : World) (hn : nm.size ≤ 9223372036854775807) (hx : Crss w ao n cs) :
    Calls Try.prog 10 #[.agg #[.string nm, .slice ao n c], .int .i64 k, .int .i64 u] w (RetSC (lcL (bts nm) cs k u) (lcC (bts nm) cs k u) w) := by
  have e0 : Ext w (w.alloc (.cells #[.string nm, .slice ao n c] 30)) := (Ext.refl w).alloc _
  have B0 := Two.new w (.string nm) (.slice ao n c) 30
  have HO := Lib.hid (s_l04Code w.heap.size nm ao n c cs k u _ B0 hn (hx.ext e0))
  have HL : Hid (codeB (bts nm) cs k u = 0 → ∀ W, Ext (w.alloc (.cells #[.string nm, .slice ao n c] 30)) W → Calls Try.prog 43 #[.pointer (some ⟨w.heap.size, 0, none⟩), .int .i64 k, .int .i64 u] W (RetE (.string (mkS (layT (ltrAt cs k) u))) W)) := Lib.hid (fun h W e => by
    obtain ⟨b1, b2, b3, b4, b5⟩ := codeB_0 h
    obtain ⟨c1, c2, c3⟩ := bondB_bd b1
    have hl := hx.1
    exact s_l06Lay w.heap.size nm ao n c cs k u W (B0.ext e) ((hx.ext e0).ext e) (by omega) (by omega) c3 b2 b3 b4 b5)
  have HLL : Hid (lcL (bts nm) cs k u = if codeB (bts nm) cs k u = 0 then (if 60 < (layT (ltrAt cs k) u).length then [] else layT (ltrAt cs k) u) else []) := Lib.hid rfl
  have HLC : Hid (lcC (bts nm) cs k u = if codeB (bts nm) cs k u = 0 then (if 60 < (layT (ltrAt cs k) u).length then 5 else 0) else codeB (bts nm) cs k u) := Lib.hid rfl
  have HBC : Hid (codeB (bts nm) cs k u = 0 → (layT (ltrAt cs k) u).length ≤ 1000) := Lib.hid (fun h => by
    obtain ⟨b1, b2, b3, b4, b5⟩ := codeB_0 h
    obtain ⟨c1, c2, c3⟩ := bondB_bd b1
    have := layT_len (f := ltrAt cs k) (n := u) (ltrAt_q c1 c3 k) (by omega)
    omega)
  obtain ⟨l, hl⟩ : ∃ l, layT (ltrAt cs k) u = l := ⟨_, rfl⟩
  rw [hl] at HL HLL HLC HBC
  obtain ⟨cd, hcd⟩ : ∃ cd, codeB (bts nm) cs k u = cd := ⟨_, rfl⟩
  rw [hcd] at HO HL HLL HLC HBC
  clear hx hl hcd B0
  by_cases h0 : cd = 0
  · have HL2 := Lib.hid (HL.out h0)
    have hbc := HBC.out h0
    have hsz := mkS_size l
    subst h0
    rw [if_pos rfl] at HLL HLC
    obtain ⟨z, hz⟩ : ∃ z, mkS l = z := ⟨_, rfl⟩
    rw [hz] at HL2 hsz
    have HZ := Lib.hid hz
    have HSZ := Lib.hid hsz
    by_cases hbig : 60 < l.length
    · have hb : (60 : Int) < (z.size : Int) := by omega
      clear hz hsz
      go_enter Try.func10, Try.ntmps10
      go_wp2_with (first | (go_at_call 42; refine HO.out.mono ?_; rintro e w1 ⟨rfl, e1⟩) | (go_at_call 43; refine (HL2.out _ e1).mono ?_; rintro e w2 ⟨rfl, e2⟩))
      go_ret2
      exact RetSC.mk (by rw [HLL.out, if_pos hbig]; rfl) (by rw [HLC.out, if_pos hbig]) ((e0.trans e1).trans e2)
    · have hb : ¬ (60 : Int) < (z.size : Int) := by omega
      clear hz hsz
      go_enter Try.func10, Try.ntmps10
      go_wp2_with (first | (go_at_call 42; refine HO.out.mono ?_; rintro e w1 ⟨rfl, e1⟩) | (go_at_call 43; refine (HL2.out _ e1).mono ?_; rintro e w2 ⟨rfl, e2⟩))
      go_ret2
      exact RetSC.mk (by rw [HLL.out, if_neg hbig, HZ.out]) (by rw [HLC.out, if_neg hbig]) ((e0.trans e1).trans e2)
  · have h1 : (cd != 0) = true := by simp [h0]
    have HL0 : Hid (lcL (bts nm) cs k u = []) := Lib.hid (by rw [HLL.out, if_neg h0])
    have HC0 : Hid (lcC (bts nm) cs k u = cd) := Lib.hid (by rw [HLC.out, if_neg h0])
    go_enter Try.func10, Try.ntmps10
    go_wp2_with (go_at_call 42; refine HO.out.mono ?_; rintro e w1 ⟨rfl, e1⟩)
    go_ret2
    exact RetSC.mk (by rw [HL0.out]; rfl) HC0.out.symm (e0.trans e1)
end Go.Proofs.Ytehcmocknmfhcaa
