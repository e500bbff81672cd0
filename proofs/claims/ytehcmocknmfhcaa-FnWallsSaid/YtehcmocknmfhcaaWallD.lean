/- Contracts: a wall that is drawn off some bytes; the sum of a row. -/
import Derived.Test.YtehcmocknmfhcaaLaid
namespace Go.Proofs.Ytehcmocknmfhcaa
open Go.RowKit
set_option linter.unusedSimpArgs false
set_option linter.unusedVariables false
set_option linter.unnecessarySimpa false

/-- a text is appended; all but the row's own block is as it was -/
theorem wpList_append_strg {w0 w : World} {base : Nat} {ops : Array Oper} {rest : List Oper} {o : Oper} {a : Act} {Q : Exit → Act → World → Prop} (hgd : o.guard = none) (s x : Operand)
    (ho : o.op = .call { callee := .builtin .append, args := #[s, x], argTypes := #[34, 34] })
    (v : Value) (l : List ByteArray) (b : ByteArray) (hs : a.eval s = v) (hw : w = w0.alloc (.cells #[.string b] 9)) (hx : a.eval x = .slice (some ⟨w0.heap.size, 0, none⟩) 1 1)
    (hown : OwnStrs w0 base v l) (hbase : base ≤ w0.heap.size) (hb : b.size ≤ 9223372036854775807) (hlen : l.length ≤ 10000000)
    (h : ∀ v' w', OwnStrs w' base v' (l ++ [b]) → w0.grownBy w' v.ownBlock → wpList Try.prog ops Q rest (a.put o.dst v') w') : wpList Try.prog ops Q (o :: rest) a w := by
  obtain ⟨i0, hi, hz0, hz1, hz2⟩ := info_parts info_str
  subst hw
  refine wpList_append_own _ hgd s x 34 ho base 9 i0 (.string ByteArray.empty) 1 16 Try.underlying34 hi hz0 hz1 hz2 rfl (by decide) v l.length (l.map Value.string) hs (World.ownsRow.alloc hown.1 _)
    ⟨w0.heap.size, 0, none⟩ 1 1 [.string b] hx rfl (cells_new _ _ _) (by intro u hu; simp at hu; subst hu; rfl) (by unfold maxLen; omega) (by omega) (by simp; omega) ?_
  intro v' w' ho' hg _
  refine h v' w' ⟨by simpa using ho', fun z hz => ?_⟩ ((World.grownBy_alloc w0 _ _).trans hg)
  rcases List.mem_append.1 hz with hz | hz
  · exact hown.2 z hz
  · simp at hz; subst hz; exact hb
theorem strs_other {w : World} {base g : Nat} {v : Value} {ss : List ByteArray} {cs : Array Value} {T : TypeId} {m : Nat × Nat} (h : OwnStrs w base v ss) (hb : w.heap[g]? = some (.cells cs T m)) (hT : T ≠ 9) : some g ≠ v.ownBlock := by
  intro e
  rcases h.1.2 with ⟨rfl, _⟩ | ⟨g2, cap, cur, rfl, _, hh, _⟩
  · simp [Value.ownBlock] at e
  · have e3 : g2 = g := by simpa [Value.ownBlock] using e.symm
    subst e3
    rw [hh] at hb
    simp at hb
    exact hT hb.2.1.symm
theorem OwnCrss.beside {w w' : World} {base base' : Nat} {v u : Value} {ss : List ByteArray} {cs : List Crs} (h : OwnCrss w base v cs) (ho : OwnStrs w base' u ss) (hg : w.grownBy w' u.ownBlock) : OwnCrss w' base v cs := by
  refine ⟨⟨h.1.1.kept hg ?_, h.1.2⟩, h.2⟩
  rcases h.1.1.2 with ⟨rfl, _⟩ | ⟨g2, cap, cur, rfl, _, hh, _⟩
  · exact .inl rfl
  · exact .inr (fun e => strs_other ho hh (by decide) e)
/-- a course of the wall: pieces alone, as long as was drawn -/
def goodC (L : Nat) (s : ByteArray) : Prop := (bts s).all isPc = true ∧ qSum (bts s) = (L : Int)
/-- what stands in memory between two courses of a wall that is drawn -/
def KW (w : World) (ao : Option Addr) (n c gb : Nat) (nm : ByteArray) (a : Option Addr) (m cap : Nat) (cs : List Crs) (v : Value) (ss : List ByteArray) (st : Src) (W : World) : Prop :=
  W.heap[gb]? = some (.cells #[.string nm, .slice a m cap] 30 (0, 0)) ∧ OwnCrss W (w.heap.size + 1) (.slice a m cap) cs ∧ OwnStrs W (w.heap.size + 1) v ss ∧ SrcAt W w.heap.size ao n c st ∧ Ext w W
theorem KW.draw {w : World} {ao : Option Addr} {n c gb : Nat} {nm : ByteArray} {a : Option Addr} {m cap : Nat} {cs : List Crs} {v : Value} {ss : List ByteArray} {st st' : Src} {W W' : World} (h : KW w ao n c gb nm a m cap cs v ss st W) (hg : W.grownBy W' (some w.heap.size)) (hs : SrcAt W' w.heap.size ao n c st') (hb : w.heap.size < gb) :
    KW w ao n c gb nm a m cap cs v ss st' W' :=
  ⟨blk_grownS h.1 hg (fun e => by have := Option.some.inj e; omega), h.2.1.kept hg (Nat.lt_succ_self _), h.2.2.1.kept hg (fun k hk => by cases hk; exact Nat.lt_succ_self _), hs, ext_of_src hg h.2.2.2.2 (Nat.le_refl _)⟩
theorem KW.ext {w : World} {ao : Option Addr} {n c gb : Nat} {nm : ByteArray} {a : Option Addr} {m cap : Nat} {cs : List Crs} {v : Value} {ss : List ByteArray} {st : Src} {W W' : World} (h : KW w ao n c gb nm a m cap cs v ss st W) (e : Ext W W') :
    KW w ao n c gb nm a m cap cs v ss st W' :=
  ⟨e.block h.1, h.2.1.ext e, h.2.2.1.ext e, e.block h.2.2.2.1, h.2.2.2.2.trans e⟩
theorem KW.app {w : World} {ao : Option Addr} {n c gb : Nat} {nm : ByteArray} {a : Option Addr} {m cap : Nat} {cs : List Crs} {v v' : Value} {ss ss' : List ByteArray} {st : Src} {W W' : World} (h : KW w ao n c gb nm a m cap cs v ss st W) (hg : W.grownBy W' v.ownBlock) (ho : OwnStrs W' (w.heap.size + 1) v' ss') :
    KW w ao n c gb nm a m cap cs v' ss' st W' :=
  ⟨blk_grownS h.1 hg (strs_other h.2.2.1 h.1 (by decide)), h.2.1.beside h.2.2.1 hg, ho, blk_grownS h.2.2.2.1 hg (strs_other h.2.2.1 h.2.2.2.1 (by decide)), h.2.2.2.2.grown hg (fun k hk => by have := (h.2.2.1.1.lt k hk).1; omega)⟩
/-- how far the source may have gone behind j courses -/
@[irreducible] def wB (j : Nat) : Nat := 20004 + 160000000000000000 * j
theorem wB_0 : wB 0 = 20004 := by unfold wB; rfl
theorem wB_s (j : Nat) : wB j + 2 + 150000000000000000 ≤ wB (j + 1) := by unfold wB; omega
theorem wB_6 {j : Nat} (h : j ≤ 6) : wB j + 2 ≤ 2000000000000000000 := by unfold wB; omega
/-- a wall is handed back -/
def RetA2W (w : World) (e : Ending) (w' : World) : Prop := ∃ L ws a cap, e = .returned (.slice a ws.length cap) ∧ 1 ≤ L ∧ L ≤ 30 ∧ 1 ≤ ws.length ∧ ws.length ≤ 6 ∧ Strs w' a ws.length ws ∧ (∀ s ∈ ws, goodC L s) ∧ Ext w w'
theorem good_size {L : Nat} {s : ByteArray} (h : goodC L s) : s.size ≤ L := by
  have h1 := qSum_ge' h.1
  rw [h.2, bts_length] at h1
  omega
set_option maxRecDepth 100000 in
set_option maxHeartbeats 3000000 in
theorem s_A2Wall (ao : Option Addr) (n c : Nat) (bs : List UInt8) (w : World) (hb : U8s w ao n bs) : Calls Try.prog 28 #[.slice ao n c] w (RetA2W w) := by
  have HP : Hid (∀ (N : Int), 1 ≤ N → N ≤ 200 → ∀ B, B ≤ 2900000000000000000 → ∀ st, st.Ok B → ∀ W, SrcAt W w.heap.size ao n c st → Ext w W → Calls Try.prog 54 #[.pointer (some ⟨w.heap.size, 0, none⟩), .int .i64 N] W (RetPick w.heap.size ao n c N (B + 2) W)) := Lib.hid (fun N h1 h2 B hB st hok W hs he => s_pickE N h1 h2 hb (Nat.le_refl _) B hB st hok W hs he)
  have HON : Hid (∀ B, B ≤ 2900000000000000000 → ∀ st, st.Ok B → ∀ W, SrcAt W w.heap.size ao n c st → Ext w W → Calls Try.prog 61 #[.pointer (some ⟨w.heap.size, 0, none⟩), .int .i64 6] W (RetOne w.heap.size ao n c (B + 2) W)) := Lib.hid (fun B hB st hok W hs he => s_oneE 6 (by decide) (by decide) hb (Nat.le_refl _) B hB st hok W hs he)
  have HBD : Hid (∀ st, st.Ok 2 → ∀ W, SrcAt W w.heap.size ao n c st → Ext w W → Calls Try.prog 52 #[.pointer (some ⟨w.heap.size, 0, none⟩)] W (RetBondD w.heap.size ao n c 20002 W)) := Lib.hid (fun st hok W hs he => s_l04Draw w.heap.size ao n c bs st W hs w he hb (Nat.le_refl _) 2 (by decide) hok)
  have HDR : Hid (∀ B, B ≤ 2000000000000000000 → ∀ (L : Nat), 1 ≤ L → L ≤ 40 → ∀ st, st.Ok B → ∀ W, SrcAt W w.heap.size ao n c st → Ext w W → Calls Try.prog 62 #[.pointer (some ⟨w.heap.size, 0, none⟩), .int .i64 L] W (RetDrawn w.heap.size ao n c L (B + 150000000000000000) W)) := Lib.hid (fun B hB L h1 h2 st hok W hs he => s_l06Draw w.heap.size ao n c bs st L W hs w he hb (Nat.le_refl _) B hB hok h1 h2)
  clear hb
  go_enter Try.func28, Try.ntmps28
  go_wp2_with fail
  refine (s_l00From ao n c w).mono ?_
  rintro e w1 ⟨rfl, s1, e1, z1⟩
  have HS1 := Lib.hid s1
  have HE1 := Lib.hid e1
  clear s1 e1 z1
  go_wp2_with fail
  refine (HP.out 30 (by decide) (by decide) 0 (by decide) ⟨0, 0⟩ ⟨by decide, by decide⟩ _ HS1.out HE1.out).mono ?_
  rintro e w2 ⟨q, st2, rfl, q1, q2, OK2, s2, g2⟩
  have HS2 := Lib.hid s2
  have HE2 := Lib.hid (ext_of_src g2 HE1.out (Nat.le_refl _))
  have HOK2 : Hid (st2.Ok 2) := Lib.hid OK2
  have hz2 : Hid (w.heap.size < w2.heap.size) := Lib.hid (lt_of_block s2)
  clear s2 g2 OK2
  obtain ⟨L, hL⟩ : ∃ L : Nat, 1 + q = (L : Int) := ⟨(1 + q).toNat, by omega⟩
  have hL1 : 1 ≤ L := by omega
  have hL2 : L ≤ 30 := by omega
  have HL := Lib.hid hL
  go_wp2_with fail
  refine (HBD.out st2 HOK2.out _ (blk_old HS2.out) (HE2.out.alloc _)).mono ?_
  rintro e w3 ⟨nm, cs, st3, a, cap, rfl, hbd, hns, o3, OK3, s3, g3⟩
  have ⟨hl1, hl8, hall⟩ := bondB_bd hbd
  obtain ⟨m, hm⟩ : ∃ m, cs.length = m := ⟨_, rfl⟩
  rw [hm] at o3 ⊢ hl1 hl8
  have HROW : Hid (OwnStrs w3 (w.heap.size + 1) (.slice (some ⟨w2.heap.size, 0, none⟩) 0 0) []) := Lib.hid ((OwnStrs.empty (Ext.refl w2)).kept g3 (fun k hk => by cases hk; exact hz2.out) |>.mono hz2.out)
  have HK3 : Hid (KW w ao n c w3.heap.size nm a m cap cs (.slice (some ⟨w2.heap.size, 0, none⟩) 0 0) [] st3 (w3.alloc (.cells #[.string nm, .slice a m cap] 30))) := Lib.hid ⟨blk_at _ _ _ rfl, (o3.mono (by have := hz2.out; simp; omega)).ext ((Ext.refl _).alloc _), HROW.out.ext ((Ext.refl _).alloc _), blk_old s3, (ext_of_src g3 (HE2.out.alloc _) (Nat.le_refl _)).alloc _⟩
  have HOK3 := Lib.hid OK3
  have HZ3 : Hid (w.heap.size < w3.heap.size) := Lib.hid (lt_of_block s3)
  have HAL := Lib.hid hall
  have HCM := Lib.hid hm
  clear s3 g3 OK3 o3 hbd hns hall hm HROW
  go_wp2_with fail
  refine (HP.out 6 (by decide) (by decide) 20002 (by decide) st3 HOK3.out _ HK3.out.2.2.2.1 HK3.out.2.2.2.2).mono ?_
  rintro e w4 ⟨q4, st4, rfl, q41, q42, OK4, s4, g4⟩
  have HK4 := Lib.hid (HK3.out.draw g4 s4 HZ3.out)
  have HOK4 : Hid (st4.Ok 20004) := Lib.hid OK4
  clear s4 g4 OK4
  go_wp2
  go_loopw [5, 8] (fun v i wr => ∃ (st : Src) (j : Nat) (ss : List ByteArray), i = .int .i64 j ∧ (j : Int) ≤ 1 + q4 ∧ ss.length = j ∧ Hid (∀ s ∈ ss, goodC L s) ∧ Hid (st.Ok (wB j)) ∧ Hid (KW w ao n c w3.heap.size nm a m cap cs v ss st wr)) (fun _ i _ => (1 + q4 - intOf i).toNat)
  case atStart => exact ⟨st4, 0, [], rfl, by omega, rfl, Lib.hid (by simp), Lib.hid (by rw [wB_0]; exact HOK4.out), HK4⟩
  case round =>
    obtain ⟨st, j, ss, rfl, hj, hsl, HG, HOK, HK⟩ := hrel
    by_cases hlt : (j : Int) < 1 + q4
    · have HJ : Hid (j ≤ 6) := Lib.hid (by omega)
      have HSL : Hid (ss.length ≤ 10000000) := Lib.hid (by omega)
      go_wp2_with fail
      refine (HON.out (wB j) (by have := wB_6 HJ.out; omega) st HOK.out _ HK.out.2.2.2.1 HK.out.2.2.2.2).mono ?_
      rintro e w5 ⟨b, st5, rfl, OK5, s5, g5⟩
      have HK5 := Lib.hid (HK.out.draw g5 s5 HZ3.out)
      have HOK5 := Lib.hid OK5
      clear s5 g5 OK5
      cases b with
      | true =>
        go_wp2_with fail
        refine (HDR.out (wB j + 2) (wB_6 HJ.out) L hL1 (by omega) st5 HOK5.out _ HK5.out.2.2.2.1 HK5.out.2.2.2.2).mono ?_
        rintro e w6 ⟨l, st6, rfl, hlp, hls, OK6, s6, g6⟩
        have HK6 := Lib.hid (HK5.out.draw g6 s6 HZ3.out)
        have HOK6 := Lib.hid OK6
        have HGC : Hid (goodC L (mkS l)) := Lib.hid ⟨by rw [bts_mkS]; exact hlp, by rw [bts_mkS]; exact hls⟩
        obtain ⟨z, hz⟩ : ∃ z, mkS l = z := ⟨_, rfl⟩
        rw [hz] at HGC ⊢
        have HZS : Hid (z.size ≤ 9223372036854775807) := Lib.hid (by have := good_size HGC.out; omega)
        clear s6 g6 OK6 hlp hls hz
        go_wp2_with (at_builtin; refine wpList_append_strg (base := w.heap.size + 1) rfl _ _ rfl _ ss z rfl rfl rfl HK6.out.2.2.1 (lt_of_block HK6.out.2.2.2.1) HZS.out HSL.out ?_; intro v' w7 ho7 g7; have HK7 := Lib.hid (HK6.out.app g7 ho7); clear ho7 g7)
        go_roundw
        case rel => exact ⟨st6, j + 1, ss ++ [z], by go_num, by omega, by rw [List.length_append, hsl]; rfl, Lib.hid (fun s hs => by rcases List.mem_append.1 hs with h | h; exact HG.out s h; simp at h; subst h; exact HGC.out), Lib.hid (HOK6.out.mono (wB_s j)), HK7⟩
        case measure => (simp [intOf] <;> omega)
      | false =>
        have hLY := s_l06Lay w3.heap.size nm a m cap cs j L w5 (Two.of HK5.out.1) HK5.out.2.1.crss hl1 hl8 HAL.out (by omega) (by have := HJ.out; omega) (by omega) (by omega)
        have HGC : Hid (goodC L (mkS (layT (ltrAt cs j) L))) := Lib.hid ⟨by rw [bts_mkS]; exact layT_pc (fun i => ltrAt_pc (by rw [HCM.out]; exact hl1) HAL.out j i), by rw [bts_mkS]; exact layT_qSum (ltrAt_q (by rw [HCM.out]; exact hl1) HAL.out j) (by omega)⟩
        obtain ⟨z, hz⟩ : ∃ z, mkS (layT (ltrAt cs j) L) = z := ⟨_, rfl⟩
        rw [hz] at HGC hLY
        have HLY := Lib.hid hLY
        have HZS : Hid (z.size ≤ 9223372036854775807) := Lib.hid (by have := good_size HGC.out; omega)
        clear hz hLY
        go_wp2_with (first
          | (go_at_call 43; refine HLY.out.mono ?_; rintro e w6 ⟨rfl, e6⟩; have HK6 := Lib.hid (HK5.out.ext e6); clear e6)
          | (at_builtin; refine wpList_append_strg (base := w.heap.size + 1) rfl _ _ rfl _ ss z rfl rfl rfl HK6.out.2.2.1 (lt_of_block HK6.out.2.2.2.1) HZS.out HSL.out ?_; intro v' w7 ho7 g7; have HK7 := Lib.hid (HK6.out.app g7 ho7); clear ho7 g7))
        go_roundw
        case rel => exact ⟨st5, j + 1, ss ++ [z], by go_num, by omega, by rw [List.length_append, hsl]; rfl, Lib.hid (fun s hs => by rcases List.mem_append.1 hs with h | h; exact HG.out s h; simp at h; subst h; exact HGC.out), Lib.hid (HOK5.out.mono (Nat.le_trans (Nat.le_add_right _ _) (wB_s j))), HK7⟩
        case measure => (simp [intOf] <;> omega)
    · go_wp2
      go_ret
      obtain ⟨a9, c9, rfl, hst, _⟩ := HK.out.2.2.1.shape
      exact ⟨L, ss, a9, c9, rfl, hL1, hL2, by omega, by omega, hst, HG.out, HK.out.2.2.2.2⟩
end Go.Proofs.Ytehcmocknmfhcaa
