/- Contracts of the reference's reading of a bond's text, where the text has no problem. -/
import Derived.Test.YtehcmocknmfhcaaWord
import Derived.Test.YtehcmocknmfhcaaDraw
namespace Go.Proofs.Ytehcmocknmfhcaa
open Go.RowKit
set_option linter.unusedSimpArgs false
set_option linter.unusedVariables false
set_option linter.unnecessarySimpa false

theorem OwnCrss.nilv (w : World) (base : Nat) : OwnCrss w base (.slice none 0 0) [] := ⟨⟨World.ownsRow_nil _ _ _ _, by simp⟩, by simp⟩
/-- a course is appended; all but the row's own block is as it was -/
theorem wpList_append_crs {w0 w : World} {base : Nat} {ops : Array Oper} {rest : List Oper} {o : Oper} {a : Act} {Q : Exit → Act → World → Prop} (hgd : o.guard = none) (s x : Operand)
    (ho : o.op = .call { callee := .builtin .append, args := #[s, x], argTypes := #[28, 28] })
    (v : Value) (l : List Crs) (b : Crs) (hs : a.eval s = v) (hw : w = w0.alloc (.cells #[.string b.lead, .string b.cyc] 80)) (hx : a.eval x = .slice (some ⟨w0.heap.size, 0, none⟩) 1 1)
    (hown : OwnCrss w0 base v l) (hbase : base ≤ w0.heap.size) (hlen : l.length ≤ 10000000) (hb : b.ok)
    (h : ∀ v' w', OwnCrss w' base v' (l ++ [b]) → w0.grownBy w' v.ownBlock → wpList Try.prog ops Q rest (a.put o.dst v') w') : wpList Try.prog ops Q (o :: rest) a w := by
  obtain ⟨i0, hi, hz0, hz1, hz2⟩ := info_parts info_crs
  subst hw
  have hll := hown.1.1
  rw [List.length_map] at hll
  refine wpList_append_own _ hgd s x 28 ho base 80 i0 (.agg #[.string ByteArray.empty, .string ByteArray.empty]) 2 32 Try.underlying28 hi hz0 hz1 hz2 rfl (by decide) v l.length (l.map crsC).flatten hs (World.ownsRow.alloc hll _)
    ⟨w0.heap.size, 0, none⟩ 1 1 [.string b.lead, .string b.cyc] hx rfl (cells_new _ _ _) (by intro u hu; simp at hu; rcases hu with rfl | rfl <;> rfl) (by unfold maxLen; omega) (by omega) (by simp; omega) ?_
  intro v' w' ho' hg _
  refine h v' w' ⟨⟨?_, crs_len _⟩, fun c hc => ?_⟩ ((World.grownBy_alloc w0 _ _).trans hg)
  · rw [List.length_map, List.length_append, List.length_singleton, List.map_append, List.flatten_append]
    exact ho'
  · rcases List.mem_append.1 hc with hc | hc
    · exact hown.2 c hc
    · simp at hc; subst hc; exact hb
/-- a block beside a row of the call's own stays, where the row grows -/
theorem blk_beside {w w' : World} {base g : Nat} {v : Value} {l : List Crs} {o : Obj} (h : w.heap[g]? = some o) (ho : OwnCrss w base v l) (hg : w.grownBy w' v.ownBlock) (hb : g < base) : w'.heap[g]? = some o :=
  blk_grownS h hg (fun e => by have := (ho.1.1.lt g e.symm).1; omega)
/-- the text is one of a bond without a problem -/
def TextOk (s : ByteArray) (nm : ByteArray) (cs : List Crs) : Prop := s.size ≤ 400 ∧ nm.size ≤ 12 ∧ nameB (bts nm) = true ∧ 1 ≤ cs.length ∧ cs.length ≤ 8 ∧ ∃ ws : List ByteArray, splS 32 s = nm :: ws ∧ ws.length = cs.length ∧ ∀ k, k < cs.length → WordOk (ws.getD k ByteArray.empty) (cs.getD k default)
def RetCheck (nm : ByteArray) (cs : List Crs) (w : World) (e : Ending) (w' : World) : Prop := ∃ ao cap ap cap', e = .returned (.tuple #[.agg #[.string nm, .slice ao cs.length cap], .slice ap 0 cap']) ∧ OwnCrss w' w.heap.size (.slice ao cs.length cap) cs ∧ Ext w w'
theorem OwnCrss.shape {w : World} {base : Nat} {v : Value} {cs : List Crs} (h : OwnCrss w base v cs) : ∃ ao cap, v = .slice ao cs.length cap := by
  have h2 := h.1.1.2
  rw [List.length_map] at h2
  rcases h2 with ⟨hv, h0⟩ | ⟨g, cap, cur, rfl, _⟩
  · rw [h0]; exact ⟨_, _, hv⟩
  · exact ⟨_, _, rfl⟩
theorem crs_take_snoc (cs : List Crs) (k : Nat) (h : k < cs.length) : cs.take (k + 1) = cs.take k ++ [cs.getD k default] := by
  rw [List.take_succ_eq_append_getElem h, List.getD_eq_getElem?_getD, List.getElem?_eq_getElem h]
  rfl
theorem crsOk_ok {x : Crs} (h : crsOk x = true) : x.ok := by
  have h2 := crsB_bd (l := bts x.lead) (c := bts x.cyc) h
  rw [bts_length, bts_length] at h2
  exact ⟨by omega, by omega⟩
set_option maxRecDepth 100000 in
set_option maxHeartbeats 3000000 in
theorem s_l04Check (s nm : ByteArray) (cs : List Crs) (h : TextOk s nm cs) (w : World) : Calls Try.prog 113 #[.string s] w (RetCheck nm cs w) := by
  obtain ⟨h0, h1, h2, h3, h4, ws, h5, h6, h7⟩ := h
  have HS := Lib.hid (fun W => s_l01Split s 32 32 (by decide) (by omega) W)
  rw [h5] at HS
  have HN := Lib.hid (fun W => s_IsName nm (by omega) W)
  rw [h2] at HN
  have HW := Lib.hid h7
  clear h5 h2 h0 h7
  obtain ⟨n, hn⟩ : ∃ n, cs.length = n := ⟨_, rfl⟩
  have HCL := Lib.hid hn
  have hlen : (nm :: ws).length = n + 1 := by rw [List.length_cons, h6, hn]
  rw [hn] at h3 h4
  clear hn h6
  have hn1 : ((n : Int) + 1 == 1) = false := by simp; omega
  have B0 := Lib.hid (blk_at w (.cells #[.string ByteArray.empty, .slice none 0 0] 30) w.heap.size rfl)
  go_enter Try.func113, Try.ntmps113
  go_wp2_with (first
    | (go_at_call 119; refine (HS.out _).mono ?_; rintro e w1 ⟨ao, cap, rfl, o1, e1⟩; rw [hlen] at o1 ⊢; have E1 := Lib.hid (((Ext.refl w).alloc _).trans e1); have R0 := Lib.hid (e1.block B0.out); have HW1 := Lib.hid o1.strs; obtain ⟨b, off, rfl, c0⟩ := HW1.out.2.2.1 0 (by omega); have d0 : w1.cell? ⟨b, off, none⟩ = some (.string nm) := c0; have hbz : b < w1.heap.size := cell_lt d0; have hgw : Hid (w.heap.size < w1.heap.size) := Lib.hid (by have := e1.size; simp at this; omega); clear o1 c0 e1)
    | (go_at_call 111; refine (HN.out _).mono ?_; rintro e w' ⟨rfl, rfl⟩))
  clear d0 hbz
  go_loopw [6, 7] (fun bad i wr => ∃ (k : Nat) (v : Value), k ≤ n ∧ i = .int .i64 ((k : Int) + 1) ∧ bad = .slice (some ⟨w1.heap.size + 1, 0, none⟩) 0 0 ∧ Hid (wr.heap[w1.heap.size]? = some (.cells #[.string nm, v] 30 (0, 0))) ∧ Hid (OwnCrss wr (w1.heap.size + 1) v (cs.take k)) ∧ Hid (Ext w1 wr)) (fun _ i _ => n + 1 - (intOf i).toNat)
  case atStart =>
    refine ⟨0, .slice none 0 0, Nat.zero_le _, rfl, rfl, Lib.hid ?_, Lib.hid (OwnCrss.nilv _ _), Lib.hid (((Ext.refl w1).alloc _).alloc _)⟩
    exact blk_old (blk_at _ _ _ rfl)
  case round =>
    obtain ⟨k, v, hk, rfl, rfl, HB, HO, HE⟩ := hrel
    by_cases hlt : k < n
    · have HWK := Lib.hid (HW.out k (by rw [HCL.out]; exact hlt))
      obtain ⟨bb, oo, he, c1⟩ := HW1.out.2.2.1 (k + 1) (by omega)
      simp only [Option.some.injEq, Addr.mk.injEq, and_true] at he
      obtain ⟨rfl, rfl⟩ := he
      have d1 : wr.cell? ⟨b, off + (k + 1), none⟩ = some (.string (ws.getD k ByteArray.empty)) := HE.out.cell c1
      obtain ⟨z, hz⟩ : ∃ z, ws.getD k ByteArray.empty = z := ⟨_, rfl⟩
      have HSN := Lib.hid (crs_take_snoc cs k (by rw [HCL.out]; exact hlt))
      obtain ⟨x, hx⟩ : ∃ x, cs.getD k default = x := ⟨_, rfl⟩
      rw [hz] at d1 HWK
      rw [hx] at HWK HSN
      have HXO := Lib.hid (crsOk_ok HWK.out.ok)
      have hL : (cs.take k).length ≤ 10000000 := by rw [List.length_take]; omega
      have HLE := Lib.hid hL
      clear hz hx c1 hL
      have HC := Lib.hid (fun W => s_l04Word z x HWK.out W)
      obtain ⟨xa, xb⟩ := x
      have HLT : Hid ((cs.take k ++ [(⟨xa, xb⟩ : Crs)]).length = k + 1) := Lib.hid (by rw [List.length_append, List.length_take, HCL.out, List.length_singleton]; omega)
      have hk8 : ¬ (8 : Int) < (k : Int) + 1 := by omega
      go_wp2_with (first
        | (go_at_call 120; refine (HC.out _).mono ?_; rintro e w2 ⟨rfl, e2⟩; have E2 := Lib.hid e2; have B2 := Lib.hid (e2.block HB.out); obtain ⟨y0, y1, y2, y3, y4⟩ := two_cells B2.out; have HO2 := Lib.hid (HO.out.ext e2); have hge : w1.heap.size < w2.heap.size := Nat.lt_of_lt_of_le (lt_of_block HB.out) e2.size; clear e2)
        | (at_builtin; refine wpList_append_crs (base := w1.heap.size + 1) rfl _ _ rfl v (cs.take k) ⟨xa, xb⟩ rfl rfl (by show Value.slice (some ⟨w2.heap.size + 1, 0, none⟩) 1 1 = _; simp) (HO2.out.ext ((Ext.refl _).alloc _)) (by simp; omega) HLE.out HXO.out ?_; intro v' w3 ho3 g3; obtain ⟨a3, c3, rfl⟩ := ho3.shape; rw [HLT.out] at ho3 ⊢; have HO3 := Lib.hid ho3; have B3 := Lib.hid (blk_beside (blk_old B2.out) (HO2.out.ext ((Ext.refl _).alloc _)) g3 (Nat.lt_succ_self _)); obtain ⟨z0, z1, z2, z3, z4⟩ := two_cells B3.out; have HE3 := Lib.hid (((HE.out.trans E2.out).alloc _).grown g3 (fun j hj => by have := (HO2.out.1.1.lt j hj).1; omega)); clear ho3 g3))
      go_roundw
      case rel =>
        refine ⟨k + 1, .slice a3 (k + 1) c3, by omega, by go_num, rfl, Lib.hid ?_, Lib.hid ?_, Lib.hid ?_⟩
        · exact heap_setS _ _ _ _ B3.out
        · rw [HSN.out]; exact HO3.out.setBelow (Nat.lt_succ_self _) _
        · exact HE3.out.setCell (Nat.le_refl _) _
      case measure => simp [intOf]; omega
    · obtain rfl : k = n := by omega
      have HT : Hid (cs.take k = cs) := Lib.hid (List.take_of_length_le (by rw [HCL.out]; exact Nat.le_refl _))
      have HRB := Lib.hid (HE.out.block R0.out)
      obtain ⟨r0, r1, r2, r3, r4⟩ := two_cells HRB.out
      obtain ⟨y0, y1, y2, y3, y4⟩ := two_cells HB.out
      have HO2 : Hid (OwnCrss wr (w1.heap.size + 1) v cs) := Lib.hid (by rw [← HT.out]; exact HO.out)
      obtain ⟨ao, cap', rfl⟩ := HO2.out.shape
      rw [HCL.out] at HO2 y1
      go_wp2
      have c0 : ((wr.setCell ⟨w.heap.size, 0, none⟩ (.string nm)).setCell ⟨w.heap.size, 1, none⟩ (.slice ao k cap')).cell? ⟨w.heap.size, 0, none⟩ = some (.string nm) := by
        rw [World.cell?_setCell_other _ _ _ _ (ne_off (by decide))]; exact World.cell?_setCell_same _ _ _ r0
      have c1 : ((wr.setCell ⟨w.heap.size, 0, none⟩ (.string nm)).setCell ⟨w.heap.size, 1, none⟩ (.slice ao k cap')).cell? ⟨w.heap.size, 1, none⟩ = some (.slice ao k cap') :=
        World.cell?_setCell_same _ _ _ ((World.cell?_setCell_other _ _ _ _ (ne_off (by decide))).trans r1)
      refine bodyPost_ret (v := .tuple #[.agg #[.string nm, .slice ao k cap'], .slice (some ⟨w1.heap.size + 1, 0, none⟩) 0 0]) (by simp [results, Try.results113, go_sem, c0, c1]) rfl ?_
      have hw := hgw.out
      refine ⟨ao, cap', _, _, by rw [HCL.out], ?_, ?_⟩
      · rw [HCL.out]
        exact ((HO2.out.setBelow (by dsimp only; omega) _).setBelow (by dsimp only; omega) _).mono (by omega)
      · exact ((E1.out.trans HE.out).setCell (Nat.le_refl _) _).setCell (Nat.le_refl _) _
end Go.Proofs.Ytehcmocknmfhcaa
