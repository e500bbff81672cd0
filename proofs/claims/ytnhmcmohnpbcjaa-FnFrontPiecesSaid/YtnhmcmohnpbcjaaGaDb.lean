/- A group of texts, one behind the other: Check, DrawB, DrawC. -/
import Derived.Test.YtnhmcmohnpbcjaaGaWord
import Derived.Test.YtnhmcmohnpbcjaaGaDraw
/- Contracts of the reference's reading of a bond's text, where the text has no problem. -/
namespace Go.Proofs.Ytnhmcmohnpbcjaa
open Go.RowKit
set_option linter.unusedSimpArgs false
set_option linter.unusedVariables false
set_option linter.unnecessarySimpa false

theorem OwnCrss.nilv (w : World) (base : Nat) : OwnCrss w base (.slice none 0 0) [] := ⟨⟨World.ownsRow_nil _ _ _ _, by simp⟩, by simp⟩
/-- a course is appended; all but the row's own block is as it was -/
theorem wpList_append_crs {w0 w : World} {base : Nat} {ops : Array Oper} {rest : List Oper} {o : Oper} {a : Act} {Q : Exit → Act → World → Prop} (hgd : o.guard = none) (s x : Operand)
    (ho : o.op = .call { callee := .builtin .append, args := #[s, x], argTypes := #[64, 64] })
    (v : Value) (l : List Crs) (b : Crs) (hs : a.eval s = v) (hw : w = w0.alloc (.cells #[.string b.lead, .string b.cyc] 151)) (hx : a.eval x = .slice (some ⟨w0.heap.size, 0, none⟩) 1 1)
    (hown : OwnCrss w0 base v l) (hbase : base ≤ w0.heap.size) (hlen : l.length ≤ 10000000) (hb : b.ok)
    (h : ∀ v' w', OwnCrss w' base v' (l ++ [b]) → w0.grownBy w' v.ownBlock → wpList Try.prog ops Q rest (a.put o.dst v') w') : wpList Try.prog ops Q (o :: rest) a w := by
  obtain ⟨i0, hi, hz0, hz1, hz2⟩ := info_parts info_crs
  subst hw
  have hll := hown.1.1
  rw [List.length_map] at hll
  refine wpList_append_own _ hgd s x 64 ho base 151 i0 (.agg #[.string ByteArray.empty, .string ByteArray.empty]) 2 32 Try.underlying64 hi hz0 hz1 hz2 rfl (by decide) v l.length (l.map crsC).flatten hs (World.ownsRow.alloc hll _)
    ⟨w0.heap.size, 0, none⟩ 1 1 [.string b.lead, .string b.cyc] hx rfl (cells_new _ _ _) (by intro u hu; simp at hu; rcases hu with rfl | rfl <;> rfl) (by unfold maxLen; omega) (by omega) (by simp; omega) ?_
  intro v' w' ho' hg _
  refine h v' w' ⟨⟨?_, crs_len _⟩, fun c hc => ?_⟩ ((World.grownBy_alloc w0 _ _).trans hg)
  · rw [List.length_map, List.length_append, List.length_singleton, List.map_append, List.flatten_append]
    exact ho'
  · rcases List.mem_append.1 hc with hc | hc
    · exact hown.2 c hc
    · simp at hc; subst hc; exact hb
/-- a block beside a row of the call's own stays, where the row grows -/
theorem blk_beside {w w' : World} {base g : Nat} {v : Value} {l : List Crs} {o : Obj} (h : w.heap[g]? = some o) (ho : OwnCrss w base v l) (hg : w.grownBy w' v.ownBlock) (hb : g < base) : w'.heap[g]? = some o :=
  blk_grownS h hg (fun e => by have := (ho.1.1.lt g e.symm).1; omega)
/-- the text is one of a bond without a problem -/
def TextOk (s : ByteArray) (nm : ByteArray) (cs : List Crs) : Prop := s.size ≤ 400 ∧ nm.size ≤ 12 ∧ nameB (bts nm) = true ∧ 1 ≤ cs.length ∧ cs.length ≤ 8 ∧ ∃ ws : List ByteArray, splS 32 s = nm :: ws ∧ ws.length = cs.length ∧ ∀ k, k < cs.length → WordOk (ws.getD k ByteArray.empty) (cs.getD k default)
def RetCheck (nm : ByteArray) (cs : List Crs) (w : World) (e : Ending) (w' : World) : Prop := ∃ ao cap ap cap', e = .returned (.tuple #[.agg #[.string nm, .slice ao cs.length cap], .slice ap 0 cap']) ∧ OwnCrss w' w.heap.size (.slice ao cs.length cap) cs ∧ Ext w w'
theorem OwnCrss.shape {w : World} {base : Nat} {v : Value} {cs : List Crs} (h : OwnCrss w base v cs) : ∃ ao cap, v = .slice ao cs.length cap := by
  have h2 := h.1.1.2
  rw [List.length_map] at h2
  rcases h2 with ⟨hv, h0⟩ | ⟨g, cap, cur, rfl, _⟩
  · rw [h0]; exact ⟨_, _, hv⟩
  · exact ⟨_, _, rfl⟩
theorem crs_take_snoc (cs : List Crs) (k : Nat) (h : k < cs.length) : cs.take (k + 1) = cs.take k ++ [cs.getD k default] := by
  rw [List.take_succ_eq_append_getElem h, List.getD_eq_getElem?_getD, List.getElem?_eq_getElem h]
  rfl
theorem crsOk_ok {x : Crs} (h : crsOk x = true) : x.ok := by
  have h2 := crsB_bd (l := bts x.lead) (c := bts x.cyc) h
  rw [bts_length, bts_length] at h2
  exact ⟨by omega, by omega⟩
set_option maxRecDepth 100000 in
set_option maxHeartbeats 3000000 in
theorem s_l04Check (s nm : ByteArray) (cs : List Crs) (h : TextOk s nm cs) (w : World) : Calls Try.prog 150 #[.string s] w (RetCheck nm cs w) := by
  obtain ⟨h0, h1, h2, h3, h4, ws, h5, h6, h7⟩ := h
  have HS := Lib.hid (fun W => s_l01Split s 32 32 (by decide) (by omega) W)
  rw [h5] at HS
  have HN := Lib.hid (fun W => s_IsName nm (by omega) W)
  rw [h2] at HN
  have HW := Lib.hid h7
  clear h5 h2 h0 h7
  obtain ⟨n, hn⟩ : ∃ n, cs.length = n := ⟨_, rfl⟩
  have HCL := Lib.hid hn
  have hlen : (nm :: ws).length = n + 1 := by rw [List.length_cons, h6, hn]
  rw [hn] at h3 h4
  clear hn h6
  have hn1 : ((n : Int) + 1 == 1) = false := by simp; omega
  have B0 := Lib.hid (blk_at w (.cells #[.string ByteArray.empty, .slice none 0 0] 66) w.heap.size rfl)
  go_enter Try.func150, Try.ntmps150
  go_wp2_with (first
    | (go_at_call 160; refine (HS.out _).mono ?_; rintro e w1 ⟨ao, cap, rfl, o1, e1⟩; rw [hlen] at o1 ⊢; have E1 := Lib.hid (((Ext.refl w).alloc _).trans e1); have R0 := Lib.hid (e1.block B0.out); have HW1 := Lib.hid o1.strs; obtain ⟨b, off, rfl, c0⟩ := HW1.out.2.2.1 0 (by omega); have d0 : w1.cell? ⟨b, off, none⟩ = some (.string nm) := c0; have hbz : b < w1.heap.size := cell_lt d0; have hgw : Hid (w.heap.size < w1.heap.size) := Lib.hid (by have := e1.size; simp at this; omega); clear o1 c0 e1)
    | (go_at_call 108; refine (HN.out _).mono ?_; rintro e w' ⟨rfl, rfl⟩))
  clear d0 hbz
  go_loopw [6, 7] (fun bad i wr => ∃ (k : Nat) (v : Value), k ≤ n ∧ i = .int .i64 ((k : Int) + 1) ∧ bad = .slice (some ⟨w1.heap.size + 1, 0, none⟩) 0 0 ∧ Hid (wr.heap[w1.heap.size]? = some (.cells #[.string nm, v] 66 (0, 0))) ∧ Hid (OwnCrss wr (w1.heap.size + 1) v (cs.take k)) ∧ Hid (Ext w1 wr)) (fun _ i _ => n + 1 - (intOf i).toNat)
  case atStart =>
    refine ⟨0, .slice none 0 0, Nat.zero_le _, rfl, rfl, Lib.hid ?_, Lib.hid (OwnCrss.nilv _ _), Lib.hid (((Ext.refl w1).alloc _).alloc _)⟩
    exact blk_old (blk_at _ _ _ rfl)
  case round =>
    obtain ⟨k, v, hk, rfl, rfl, HB, HO, HE⟩ := hrel
    by_cases hlt : k < n
    · have HWK := Lib.hid (HW.out k (by rw [HCL.out]; exact hlt))
      obtain ⟨bb, oo, he, c1⟩ := HW1.out.2.2.1 (k + 1) (by omega)
      simp only [Option.some.injEq, Addr.mk.injEq, and_true] at he
      obtain ⟨rfl, rfl⟩ := he
      have d1 : wr.cell? ⟨b, off + (k + 1), none⟩ = some (.string (ws.getD k ByteArray.empty)) := HE.out.cell c1
      obtain ⟨z, hz⟩ : ∃ z, ws.getD k ByteArray.empty = z := ⟨_, rfl⟩
      have HSN := Lib.hid (crs_take_snoc cs k (by rw [HCL.out]; exact hlt))
      obtain ⟨x, hx⟩ : ∃ x, cs.getD k default = x := ⟨_, rfl⟩
      rw [hz] at d1 HWK
      rw [hx] at HWK HSN
      have HXO := Lib.hid (crsOk_ok HWK.out.ok)
      have hL : (cs.take k).length ≤ 10000000 := by rw [List.length_take]; omega
      have HLE := Lib.hid hL
      clear hz hx c1 hL
      have HC := Lib.hid (fun W => s_l04Word z x HWK.out W)
      obtain ⟨xa, xb⟩ := x
      have HLT : Hid ((cs.take k ++ [(⟨xa, xb⟩ : Crs)]).length = k + 1) := Lib.hid (by rw [List.length_append, List.length_take, HCL.out, List.length_singleton]; omega)
      have hk8 : ¬ (8 : Int) < (k : Int) + 1 := by omega
      go_wp2_with (first
        | (go_at_call 161; refine (HC.out _).mono ?_; rintro e w2 ⟨rfl, e2⟩; have E2 := Lib.hid e2; have B2 := Lib.hid (e2.block HB.out); obtain ⟨y0, y1, y2, y3, y4⟩ := two_cells B2.out; have HO2 := Lib.hid (HO.out.ext e2); have hge : w1.heap.size < w2.heap.size := Nat.lt_of_lt_of_le (lt_of_block HB.out) e2.size; clear e2)
        | (at_builtin; refine wpList_append_crs (base := w1.heap.size + 1) rfl _ _ rfl v (cs.take k) ⟨xa, xb⟩ rfl rfl (by show Value.slice (some ⟨w2.heap.size + 1, 0, none⟩) 1 1 = _; simp) (HO2.out.ext ((Ext.refl _).alloc _)) (by simp; omega) HLE.out HXO.out ?_; intro v' w3 ho3 g3; obtain ⟨a3, c3, rfl⟩ := ho3.shape; rw [HLT.out] at ho3 ⊢; have HO3 := Lib.hid ho3; have B3 := Lib.hid (blk_beside (blk_old B2.out) (HO2.out.ext ((Ext.refl _).alloc _)) g3 (Nat.lt_succ_self _)); obtain ⟨z0, z1, z2, z3, z4⟩ := two_cells B3.out; have HE3 := Lib.hid (((HE.out.trans E2.out).alloc _).grown g3 (fun j hj => by have := (HO2.out.1.1.lt j hj).1; omega)); clear ho3 g3))
      go_roundw
      case rel =>
        refine ⟨k + 1, .slice a3 (k + 1) c3, by omega, by go_num, rfl, Lib.hid ?_, Lib.hid ?_, Lib.hid ?_⟩
        · exact heap_setS _ _ _ _ B3.out
        · rw [HSN.out]; exact HO3.out.setBelow (Nat.lt_succ_self _) _
        · exact HE3.out.setCell (Nat.le_refl _) _
      case measure => simp [intOf]; omega
    · obtain rfl : k = n := by omega
      have HT : Hid (cs.take k = cs) := Lib.hid (List.take_of_length_le (by rw [HCL.out]; exact Nat.le_refl _))
      have HRB := Lib.hid (HE.out.block R0.out)
      obtain ⟨r0, r1, r2, r3, r4⟩ := two_cells HRB.out
      obtain ⟨y0, y1, y2, y3, y4⟩ := two_cells HB.out
      have HO2 : Hid (OwnCrss wr (w1.heap.size + 1) v cs) := Lib.hid (by rw [← HT.out]; exact HO.out)
      obtain ⟨ao, cap', rfl⟩ := HO2.out.shape
      rw [HCL.out] at HO2 y1
      go_wp2
      have c0 : ((wr.setCell ⟨w.heap.size, 0, none⟩ (.string nm)).setCell ⟨w.heap.size, 1, none⟩ (.slice ao k cap')).cell? ⟨w.heap.size, 0, none⟩ = some (.string nm) := by
        rw [World.cell?_setCell_other _ _ _ _ (ne_off (by decide))]; exact World.cell?_setCell_same _ _ _ r0
      have c1 : ((wr.setCell ⟨w.heap.size, 0, none⟩ (.string nm)).setCell ⟨w.heap.size, 1, none⟩ (.slice ao k cap')).cell? ⟨w.heap.size, 1, none⟩ = some (.slice ao k cap') :=
        World.cell?_setCell_same _ _ _ ((World.cell?_setCell_other _ _ _ _ (ne_off (by decide))).trans r1)
      refine bodyPost_ret (v := .tuple #[.agg #[.string nm, .slice ao k cap'], .slice (some ⟨w1.heap.size + 1, 0, none⟩) 0 0]) (by simp [results, Try.results150, go_sem, c0, c1]) rfl ?_
      have hw := hgw.out
      refine ⟨ao, cap', _, _, by rw [HCL.out], ?_, ?_⟩
      · rw [HCL.out]
        exact ((HO2.out.setBelow (by dsimp only; omega) _).setBelow (by dsimp only; omega) _).mono (by omega)
      · exact ((E1.out.trans HE.out).setCell (Nat.le_refl _) _).setCell (Nat.le_refl _) _
end Go.Proofs.Ytnhmcmohnpbcjaa

/- Contracts: a bond that is drawn: the library's texts are read; letters are drawn. -/
namespace Go.Proofs.Ytnhmcmohnpbcjaa
open Go.RowKit
set_option linter.unusedSimpArgs false
set_option linter.unusedVariables false
set_option linter.unnecessarySimpa false

theorem grown_above {w W : World} {row : Option Nat} (h : w.grownBy W row) {p : Addr} (hp : w.heap.size ≤ p.block) (v : Value) : w.grownBy (W.setCell p v) row := by
  obtain ⟨b, i, x⟩ := p
  refine ⟨h.os, h.tape, h.output, Nat.le_trans h.size (by simp [World.setCell]), fun i hi hne => (Below.heap_setCell _ _ _ _ (fun e => ?_)).trans (h.block i hi hne)⟩
  dsimp only at hp e
  omega
def RetRead (nm : ByteArray) (cs : List Crs) (w : World) (e : Ending) (w' : World) : Prop := ∃ ao cap, e = .returned (.tuple #[.agg #[.string nm, .slice ao cs.length cap], .bool true]) ∧ OwnCrss w' w.heap.size (.slice ao cs.length cap) cs ∧ Ext w w'
set_option maxHeartbeats 1600000 in
theorem s_ReadBond (s nm : ByteArray) (cs : List Crs) (h : TextOk s nm cs) (w : World) : Calls Try.prog 123 #[.string s] w (RetRead nm cs w) := by
  have HC := Lib.hid (fun W => s_l04Check s nm cs h W)
  have h1 : ¬ (400 : Int) < (s.size : Int) := by have := h.1; omega
  clear h
  have B0 := Lib.hid (blk_at w (.cells #[.string ByteArray.empty, .slice none 0 0] 66) w.heap.size rfl)
  go_enter Try.func123, Try.ntmps123
  go_wp2_with (go_at_call 150; refine (HC.out _).mono ?_; rintro e w1 ⟨ao, cap, ap, cap', rfl, o1, e1⟩; have E1 := Lib.hid (((Ext.refl w).alloc _).trans e1); have HO1 := Lib.hid (o1.mono (show w.heap.size + 1 ≤ (w.alloc (.cells #[.string ByteArray.empty, .slice none 0 0] 66)).heap.size by simp)); obtain ⟨r0, r1, r2, r3, r4⟩ := two_cells (e1.block B0.out); obtain ⟨n, hn⟩ : ∃ n, cs.length = n := ⟨_, rfl⟩; rw [hn] at HO1 ⊢; have HN := Lib.hid hn; clear o1 e1 hn)
  obtain ⟨c0, c1⟩ := res_two (.string nm) (.slice ao n cap) (.cells #[.string nm, .slice ao n cap] 66) r0 r1
  refine bodyPost_ret (v := .tuple #[.agg #[.string nm, .slice ao n cap], .bool true]) (by simp [results, Try.results123, go_sem, c0, c1]) rfl ?_
  refine ⟨ao, cap, by rw [HN.out], ?_, ?_⟩
  · rw [HN.out]
    exact (((HO1.out.setBelow (by dsimp only; omega) _).setBelow (by dsimp only; omega) _).ext ((Ext.refl _).alloc _)).mono (by omega)
  · exact ((E1.out.setCell (Nat.le_refl _) _).setCell (Nat.le_refl _) _).alloc _
/-- the texts of the library -/
def libT : List ByteArray := [⟨#[115, 116, 114, 101, 116, 99, 104, 101, 114, 32, 83, 32, 66, 43, 83]⟩, ⟨#[104, 101, 97, 100, 101, 114, 32, 72, 32, 67, 43, 72]⟩, ⟨#[101, 110, 103, 108, 105, 115, 104, 32, 83, 32, 72, 67, 43, 72]⟩, ⟨#[102, 108, 101, 109, 105, 115, 104, 32, 83, 72, 32, 72, 67, 43, 83, 72]⟩, ⟨#[103, 97, 114, 100, 101, 110, 32, 83, 32, 66, 43, 83, 32, 83, 32, 72, 67, 43, 72]⟩]
theorem s_l04Library (w : World) : Calls Try.prog 122 #[] w (fun e w' => e = .returned (.slice (some ⟨w.heap.size, 0, none⟩) 5 5) ∧ w' = w.alloc (.cells (libT.map Value.string).toArray 9)) := by
  go_enter Try.func122, Try.ntmps122
  go_wp2
  go_ret
  exact ⟨rfl, rfl⟩
theorem lib_ok (k : Nat) (h : k < 5) : ∃ nm cs, bondB (bts nm) cs = true ∧ TextOk (libT.getD k ByteArray.empty) nm cs := by
  have hk : k = 0 ∨ k = 1 ∨ k = 2 ∨ k = 3 ∨ k = 4 := by omega
  rcases hk with rfl | rfl | rfl | rfl | rfl
  · refine ⟨mkS [115, 116, 114, 101, 116, 99, 104, 101, 114], [⟨mkS [], mkS [83]⟩, ⟨mkS [66], mkS [83]⟩], by decide, by decide, by decide, by decide, by decide, by decide, [mkS [83], mkS [66, 43, 83]], rfl, rfl, fun k hk => ?_⟩
    match k, hk with
    | 0, _ => exact ⟨by decide, by decide, by decide, by decide, .inl ⟨rfl, rfl⟩⟩
    | 1, _ => exact ⟨by decide, by decide, by decide, by decide, .inr ⟨rfl, by decide, by decide, by decide⟩⟩
  · refine ⟨mkS [104, 101, 97, 100, 101, 114], [⟨mkS [], mkS [72]⟩, ⟨mkS [67], mkS [72]⟩], by decide, by decide, by decide, by decide, by decide, by decide, [mkS [72], mkS [67, 43, 72]], rfl, rfl, fun k hk => ?_⟩
    match k, hk with
    | 0, _ => exact ⟨by decide, by decide, by decide, by decide, .inl ⟨rfl, rfl⟩⟩
    | 1, _ => exact ⟨by decide, by decide, by decide, by decide, .inr ⟨rfl, by decide, by decide, by decide⟩⟩
  · refine ⟨mkS [101, 110, 103, 108, 105, 115, 104], [⟨mkS [], mkS [83]⟩, ⟨mkS [72, 67], mkS [72]⟩], by decide, by decide, by decide, by decide, by decide, by decide, [mkS [83], mkS [72, 67, 43, 72]], rfl, rfl, fun k hk => ?_⟩
    match k, hk with
    | 0, _ => exact ⟨by decide, by decide, by decide, by decide, .inl ⟨rfl, rfl⟩⟩
    | 1, _ => exact ⟨by decide, by decide, by decide, by decide, .inr ⟨rfl, by decide, by decide, by decide⟩⟩
  · refine ⟨mkS [102, 108, 101, 109, 105, 115, 104], [⟨mkS [], mkS [83, 72]⟩, ⟨mkS [72, 67], mkS [83, 72]⟩], by decide, by decide, by decide, by decide, by decide, by decide, [mkS [83, 72], mkS [72, 67, 43, 83, 72]], rfl, rfl, fun k hk => ?_⟩
    match k, hk with
    | 0, _ => exact ⟨by decide, by decide, by decide, by decide, .inl ⟨rfl, rfl⟩⟩
    | 1, _ => exact ⟨by decide, by decide, by decide, by decide, .inr ⟨rfl, by decide, by decide, by decide⟩⟩
  · refine ⟨mkS [103, 97, 114, 100, 101, 110], [⟨mkS [], mkS [83]⟩, ⟨mkS [66], mkS [83]⟩, ⟨mkS [], mkS [83]⟩, ⟨mkS [72, 67], mkS [72]⟩], by decide, by decide, by decide, by decide, by decide, by decide, [mkS [83], mkS [66, 43, 83], mkS [83], mkS [72, 67, 43, 72]], rfl, rfl, fun k hk => ?_⟩
    match k, hk with
    | 0, _ => exact ⟨by decide, by decide, by decide, by decide, .inl ⟨rfl, rfl⟩⟩
    | 1, _ => exact ⟨by decide, by decide, by decide, by decide, .inr ⟨rfl, by decide, by decide, by decide⟩⟩
    | 2, _ => exact ⟨by decide, by decide, by decide, by decide, .inl ⟨rfl, rfl⟩⟩
    | 3, _ => exact ⟨by decide, by decide, by decide, by decide, .inr ⟨rfl, by decide, by decide, by decide⟩⟩
/-- a text of drawn letters is handed back, and the source has gone on -/
def RetSome (g : Nat) (ao : Option Addr) (n c : Nat) (p : UInt8 → Bool) (m : Nat) (B : Nat) (w : World) (e : Ending) (w' : World) : Prop :=
  ∃ l st', e = .returned (.string (mkS l)) ∧ l.length = m ∧ l.all p = true ∧ st'.Ok B ∧ SrcAt w' g ao n c st' ∧ w.grownBy w' (some g)
theorem OwnB.text0 {w : World} {b cap : Nat} : (convert 39 9 (.slice (some ⟨b, 0, none⟩) 0 cap)).run Try.prog w = .ok (.string (mkS [])) w :=
  run_convert_bytes_back (P := Try.prog) w 39 9 5 ⟨b, 0, none⟩ cap [] Try.underlying39 Try.underlying5 Try.underlying9 (fun j hj => by simp at hj)
theorem OwnB.textA {w : World} {base : Nat} {v : Value} {l : List UInt8} (h : OwnB w base v l) (h0 : l = [] → ∃ b, v = .slice (some ⟨b, 0, none⟩) 0 0) : (convert 39 9 v).run Try.prog w = .ok (.string (mkS l)) w := by
  by_cases hl : l = []
  · obtain ⟨b, rfl⟩ := h0 hl
    subst hl
    exact OwnB.text0
  · exact h.text hl
theorem pickS_small {bs : List UInt8} {st : Src} {n : Int} {B : Nat} (h : st.Ok B) : (pickS bs st n).Ok (B + 2) := pickS_ok h
set_option maxRecDepth 100000 in
set_option maxHeartbeats 3000000 in
theorem s_l04Some (g : Nat) (ao : Option Addr) (n c : Nat) (bs : List UInt8) (st0 : Src) (ls : ByteArray) (p : UInt8 → Bool) (m : Nat) (w : World) (h : SrcAt w g ao n c st0) (W0 : World) (e0 : Ext W0 w) (hbW : U8s W0 ao n bs) (hg : W0.heap.size ≤ g) (B : Nat) (hB : B ≤ 2900000000000000000) (ha : st0.Ok B)
    (hs1 : 1 ≤ ls.size) (hs2 : ls.size ≤ 100) (hp : (bts ls).all p = true) (hm : m ≤ 100) :
    Calls Try.prog 125 #[.pointer (some ⟨g, 0, none⟩), .string ls, .int .i64 m] w (RetSome g ao n c p m (B + 200) w) := by
  have hgs : g < w.heap.size := h.cells.2.2.2.2.2
  have HGS := Lib.hid hgs
  have HH := Lib.hid h
  have HW0 := Lib.hid hbW
  have HG0 := Lib.hid hg
  have HE0 := Lib.hid e0
  have HA := Lib.hid ha
  have HBB := Lib.hid hB
  have HP := Lib.hid hp
  clear h hbW ha e0 hgs hg hB hp
  go_enter Try.func125, Try.ntmps125
  go_wp2
  go_loopw [7, 8] (fun v i wr => ∃ (st : Src) (l : List UInt8) (j : Nat), i = .int .i64 j ∧ j ≤ m ∧ l.length = j ∧ Hid (j = 0 → ∃ b, v = .slice (some ⟨b, 0, none⟩) 0 0) ∧ Hid (OwnB wr w.heap.size v l) ∧ Hid (l.all p = true) ∧ Hid (SrcAt wr g ao n c st) ∧ Hid (st.Ok (B + 2 * j)) ∧ Hid (w.grownBy wr (some g))) (fun _ i _ => m - (intOf i).toNat)
  case atStart => exact ⟨st0, [], 0, rfl, Nat.zero_le _, rfl, Lib.hid (fun _ => ⟨_, rfl⟩), Lib.hid (OwnB.empty (Ext.refl w)), Lib.hid rfl, Lib.hid (blk_grownS HH.out (World.grownBy_alloc w _ none) (by simp)), HA, Lib.hid (World.grownBy_alloc w _ _)⟩
  case round =>
    obtain ⟨st, l, j, rfl, hjm, hlj, H0, HO, HL, HS, HOK, HGR⟩ := hrel
    have HE := Lib.hid (HE0.out.grown HGR.out (fun k hk => by cases hk; exact HG0.out))
    by_cases hlt : j < m
    · have hP := s_pick g ao n c bs st ls.size wr HS.out (HW0.out.ext HE.out) W0 HE.out HW0.out HG0.out (HOK.out.mono (by have := HBB.out; omega)) (by omega)
      have hbd := pickV_bd bs st ls.size
      have HST := Lib.hid (pickS_ok (bs := bs) (n := ls.size) HOK.out)
      obtain ⟨v1, hv1⟩ : ∃ v, pickV bs st ls.size = v := ⟨_, rfl⟩
      obtain ⟨st2, hst2⟩ : ∃ s, pickS bs st ls.size = s := ⟨_, rfl⟩
      rw [hv1, hst2] at hP
      rw [hv1] at hbd
      rw [hst2] at HST
      obtain ⟨b1, b2⟩ := hbd
      have b3 := b2 (by omega)
      obtain ⟨q, rfl⟩ := Int.eq_ofNat_of_zero_le b1
      have hq : q < ls.size := by omega
      have HPQ : Hid (p ls[q] = true) := Lib.hid (by
        obtain ⟨hl, hb⟩ := byte_at ls q hq
        exact (congrArg p hb).symm.trans (List.all_eq_true.1 HP.out _ (List.getElem_mem hl)))
      have HPK := Lib.hid hP
      clear hP b2 hv1 hst2
      obtain ⟨z, hz⟩ : ∃ z, ls[q] = z := ⟨_, rfl⟩
      rw [hz] at HPQ
      have HZ := Lib.hid hz
      clear hz
      go_wp2_with fail
      refine HPK.out.mono ?_
      rintro e w1 ⟨rfl, s1, g1⟩
      have HS1 := Lib.hid s1
      have HG1 := Lib.hid (HGR.out.trans g1)
      have HOW1 := Lib.hid (HO.out.kept g1 (fun k hk => by cases hk; exact HGS.out))
      clear s1 g1
      go_wp2_with (at_builtin; refine wpList_append_u8h (base := w.heap.size) rfl _ _ rfl _ l z rfl (by rw [← HZ.out]) rfl HOW1.out HG1.out.size (by omega) ?_; intro v' w4 ho4 g4; have HO4 := Lib.hid ho4; have HS4 := Lib.hid (blk_grownS HS1.out g4 (fun e => by have h1 := (World.ownsRow.lt HOW1.out g e.symm).1; have h2 := HGS.out; omega)); have HG4 := Lib.hid (grown_then HG1.out g4 (fun k hk => (World.ownsRow.lt HOW1.out k hk).1)); clear ho4 g4)
      go_roundw
      case rel => exact ⟨st2, l ++ [z], j + 1, by go_num, by omega, by rw [List.length_append, hlj]; rfl, Lib.hid (fun h => by omega), HO4, Lib.hid (by rw [List.all_append, HL.out, List.all_cons, HPQ.out]; rfl), HS4, HST, HG4⟩
      case measure => simp [intOf]; omega
    · obtain rfl : j = m := by omega
      have hT := HO.out.textA (fun h => H0.out (by rw [← hlj, h]; rfl))
      go_wp2
      go_ret
      exact ⟨l, st, rfl, hlj, HL.out, HOK.out.mono (by omega), HS.out, HGR.out⟩
end Go.Proofs.Ytnhmcmohnpbcjaa

/- Contracts: a bond that is drawn (printed by gendrawc.py). -/
namespace Go.Proofs.Ytnhmcmohnpbcjaa
open Go.RowKit
set_option linter.unusedSimpArgs false
set_option linter.unusedVariables false
set_option linter.unnecessarySimpa false

theorem heap_setO {W : World} {b : Nat} {o : Obj} (k i : Nat) (x : Value) (h : W.heap[b]? = some o) (hne : b < k) : (W.setCell ⟨k, i, none⟩ x).heap[b]? = some o :=
  (Below.heap_setCell _ _ _ _ (fun e => by have h2 : b = k := e; omega)).trans h
theorem heap_setU {W : World} {b : Nat} {o : Obj} (k i : Nat) (x : Value) (h : W.heap[b]? = some o) (hne : k < b) : (W.setCell ⟨k, i, none⟩ x).heap[b]? = some o :=
  (Below.heap_setCell _ _ _ _ (fun e => by have h2 : b = k := e; omega)).trans h
/-- a number is picked, and the source has gone on -/
def RetPick (g : Nat) (ao : Option Addr) (n c : Nat) (N : Int) (B : Nat) (w : World) (e : Ending) (w' : World) : Prop := ∃ q st', e = .returned (.int .i64 q) ∧ 0 ≤ q ∧ q < N ∧ st'.Ok B ∧ SrcAt w' g ao n c st' ∧ w.grownBy w' (some g)
def RetOne (g : Nat) (ao : Option Addr) (n c : Nat) (B : Nat) (w : World) (e : Ending) (w' : World) : Prop := ∃ b st', e = .returned (.bool b) ∧ st'.Ok B ∧ SrcAt w' g ao n c st' ∧ w.grownBy w' (some g)
theorem s_pickE {g : Nat} {ao : Option Addr} {n c : Nat} {bs : List UInt8} (N : Int) (h1 : 1 ≤ N) (h2 : N ≤ 200) {W0 : World} (hbW : U8s W0 ao n bs) (hg : W0.heap.size ≤ g) (B : Nat) (hB : B ≤ 2900000000000000000) (st : Src) (ha : st.Ok B) (w : World) (h : SrcAt w g ao n c st) (e0 : Ext W0 w) :
    Calls Try.prog 95 #[.pointer (some ⟨g, 0, none⟩), .int .i64 N] w (RetPick g ao n c N (B + 2) w) := by
  refine (s_pick g ao n c bs st N w h (hbW.ext e0) W0 e0 hbW hg (ha.mono (by omega)) (by omega)).mono ?_
  rintro e w' ⟨rfl, s1, g1⟩
  have hb := pickV_bd bs st N
  exact ⟨_, _, rfl, hb.1, hb.2 h1, pickS_ok ha, s1, g1⟩
theorem s_oneE {g : Nat} {ao : Option Addr} {n c : Nat} {bs : List UInt8} (N : Int) (h1 : 1 ≤ N) (h2 : N ≤ 200) {W0 : World} (hbW : U8s W0 ao n bs) (hg : W0.heap.size ≤ g) (B : Nat) (hB : B ≤ 2900000000000000000) (st : Src) (ha : st.Ok B) (w : World) (h : SrcAt w g ao n c st) (e0 : Ext W0 w) :
    Calls Try.prog 121 #[.pointer (some ⟨g, 0, none⟩), .int .i64 N] w (RetOne g ao n c (B + 2) w) := by
  refine (s_one g ao n c bs st N w h W0 e0 hbW hg (ha.mono (by omega)) (by omega)).mono ?_
  rintro e w' ⟨rfl, s1, g1⟩
  exact ⟨_, _, rfl, pickS_ok ha, s1, g1⟩
abbrev zB : Obj := .cells #[.string ByteArray.empty, .slice none 0 0] 66 (0, 0)
/-- what stands in memory between two courses of a bond that is drawn -/
def KL (w : World) (g : Nat) (ao : Option Addr) (n c gb : Nat) (nm : ByteArray) (v : Value) (cs : List Crs) (st : Src) (W : World) : Prop :=
  W.heap[w.heap.size]? = some zB ∧ W.heap[gb]? = some (.cells #[.string nm, v] 66 (0, 0)) ∧ OwnCrss W (gb + 1) v cs ∧ SrcAt W g ao n c st ∧ w.grownBy W (some g)
/-- .. and while a course is drawn -/
structure KD (w : World) (g : Nat) (ao : Option Addr) (n c gb gc : Nat) (nm : ByteArray) (v : Value) (cs : List Crs) (x y : Value) (st : Src) (W : World) : Prop where
  res : W.heap[w.heap.size]? = some zB
  box : W.heap[gb]? = some (.cells #[.string nm, v] 66 (0, 0))
  crs : W.heap[gc]? = some (.cells #[x, y] 151 (0, 0))
  own : OwnCrss W (gb + 1) v cs
  src : SrcAt W g ao n c st
  gr : w.grownBy W (some g)
  vne : ∀ j, v.ownBlock = some j → gc ≠ j
theorem OwnCrss.kept {w w' : World} {base : Nat} {v : Value} {cs : List Crs} {k : Nat} (h : OwnCrss w base v cs) (hg : w.grownBy w' (some k)) (hne : k < base) : OwnCrss w' base v cs := by
  refine ⟨⟨h.1.1.kept hg (.inr (fun e => ?_)), h.1.2⟩, h.2⟩
  have := h.1.1.lt k e
  omega
theorem KL.start {w : World} {g : Nat} {ao : Option Addr} {n c gb : Nat} {nm : ByteArray} {v : Value} {cs : List Crs} {st : Src} {W : World} (h : KL w g ao n c gb nm v cs st W) (x y : Value) :
    KD w g ao n c gb W.heap.size nm v cs x y st (W.alloc (.cells #[x, y] 151)) := by
  obtain ⟨h1, h2, h3, h4, h5⟩ := h
  exact ⟨blk_old h1, blk_old h2, blk_at _ _ _ rfl, h3.ext ((Ext.refl _).alloc _), blk_old h4, grown_ext_by h5 ((Ext.refl _).alloc _), fun j hj e => by have := (h3.1.1.lt j hj).2; omega⟩
theorem KD.draw {w : World} {g : Nat} {ao : Option Addr} {n c gb gc : Nat} {nm : ByteArray} {v : Value} {cs : List Crs} {x y : Value} {st st' : Src} {W W' : World} (h : KD w g ao n c gb gc nm v cs x y st W) (hg : W.grownBy W' (some g)) (hs : SrcAt W' g ao n c st') (h1 : g < w.heap.size) (h2 : w.heap.size < gb) (h3 : gb < gc) :
    KD w g ao n c gb gc nm v cs x y st' W' :=
  ⟨blk_grownS h.res hg (fun e => by have := Option.some.inj e; omega), blk_grownS h.box hg (fun e => by have := Option.some.inj e; omega), blk_grownS h.crs hg (fun e => by have := Option.some.inj e; omega), h.own.kept hg (by omega), hs, h.gr.trans hg, h.vne⟩
theorem OwnCrss.setOther {w : World} {base g i : Nat} {v : Value} {cs : List Crs} (h : OwnCrss w base v cs) (hne : ∀ j, v.ownBlock = some j → g ≠ j) (u : Value) : OwnCrss (w.setCell ⟨g, i, none⟩ u) base v cs := ⟨⟨ownsRow_setCell_other h.1.1 hne u, h.1.2⟩, h.2⟩
theorem KD.setx {w : World} {g : Nat} {ao : Option Addr} {n c gb gc : Nat} {nm : ByteArray} {v : Value} {cs : List Crs} {x y : Value} {st : Src} {W : World} (h : KD w g ao n c gb gc nm v cs x y st W) (u : Value) (h1 : g < w.heap.size) (h2 : w.heap.size < gb) (h3 : gb < gc) :
    KD w g ao n c gb gc nm v cs u y st (W.setCell ⟨gc, 0, none⟩ u) :=
  ⟨heap_setO _ _ _ h.res (by omega), heap_setO _ _ _ h.box h3, heap_setS _ _ _ _ h.crs, h.own.setOther h.vne u, heap_setO _ _ _ h.src (by omega), grown_above h.gr (by dsimp only; omega) u, h.vne⟩
theorem KD.sety {w : World} {g : Nat} {ao : Option Addr} {n c gb gc : Nat} {nm : ByteArray} {v : Value} {cs : List Crs} {x y : Value} {st : Src} {W : World} (h : KD w g ao n c gb gc nm v cs x y st W) (u : Value) (h1 : g < w.heap.size) (h2 : w.heap.size < gb) (h3 : gb < gc) :
    KD w g ao n c gb gc nm v cs x u st (W.setCell ⟨gc, 1, none⟩ u) :=
  ⟨heap_setO _ _ _ h.res (by omega), heap_setO _ _ _ h.box h3, heap_setS _ _ _ _ h.crs, h.own.setOther h.vne u, heap_setO _ _ _ h.src (by omega), grown_above h.gr (by dsimp only; omega) u, h.vne⟩
theorem KD.app {w : World} {g : Nat} {ao : Option Addr} {n c gb gc : Nat} {nm : ByteArray} {v : Value} {cs : List Crs} {x y : Value} {st : Src} {W W' : World} (h : KD w g ao n c gb gc nm v cs x y st W) (hg : W.grownBy W' v.ownBlock) (h1 : g < w.heap.size) (h2 : w.heap.size < gb) (h3 : gb < gc) :
    W'.heap[w.heap.size]? = some zB ∧ W'.heap[gb]? = some (.cells #[.string nm, v] 66 (0, 0)) ∧ SrcAt W' g ao n c st ∧ w.grownBy W' (some g) :=
  ⟨blk_beside h.res h.own hg (by omega), blk_beside h.box h.own hg (by omega), blk_beside h.src h.own hg (by omega), grown_then h.gr hg (fun j hj => by have := (h.own.1.1.lt j hj).1; omega)⟩
theorem kl_back {w : World} {g : Nat} {ao : Option Addr} {n c gb : Nat} {nm : ByteArray} {v v' : Value} {cs' : List Crs} {st : Src} {W' : World} (h : W'.heap[w.heap.size]? = some zB ∧ W'.heap[gb]? = some (.cells #[.string nm, v] 66 (0, 0)) ∧ SrcAt W' g ao n c st ∧ w.grownBy W' (some g)) (ho : OwnCrss W' (gb + 1) v' cs') (h1 : g < w.heap.size) (h2 : w.heap.size < gb) :
    KL w g ao n c gb nm v' cs' st (W'.setCell ⟨gb, 1, none⟩ v') :=
  ⟨heap_setO _ _ _ h.1 h2, heap_setS _ _ _ _ h.2.1, ho.setBelow (Nat.lt_succ_self _) _, heap_setO _ _ _ h.2.2.1 (by omega), grown_above h.2.2.2 (by dsimp only; omega) _⟩
theorem crs_drawn {a b : ByteArray} (h1 : (bts a).all isPc = true) (h2 : a.size ≤ 6) (h3 : (bts b).all isWh = true) (h4 : 1 ≤ b.size ∧ b.size ≤ 8) : crsOk ⟨a, b⟩ = true := by
  show crsB (bts a) (bts b) = true
  rw [crsB, h1, h3, bts_length, bts_length]
  simp [inB]
  omega
/-- a valid bond is handed back, and the source has gone on -/
def RetBondD (g : Nat) (ao : Option Addr) (n c : Nat) (B : Nat) (w : World) (e : Ending) (w' : World) : Prop :=
  ∃ nm cs st' a cap, e = .returned (.agg #[.string nm, .slice a cs.length cap]) ∧ bondB (bts nm) cs = true ∧ nm.size ≤ 12 ∧ OwnCrss w' w.heap.size (.slice a cs.length cap) cs ∧ st'.Ok B ∧ SrcAt w' g ao n c st' ∧ w.grownBy w' (some g)
def ownS : ByteArray := ⟨#[111, 119, 110]⟩
def yardS : ByteArray := ⟨#[121, 97, 114, 100, 45, 50]⟩
theorem own_name (q : Int) (h0 : 0 ≤ q) (h1 : q < 2) : nameB (bts ([ownS, yardS].getD q.toNat ByteArray.empty)) = true ∧ ([ownS, yardS].getD q.toNat ByteArray.empty).size ≤ 12 := by
  have : q = 0 ∨ q = 1 := by omega
  rcases this with rfl | rfl <;> exact ⟨by decide, by decide⟩
set_option maxRecDepth 100000 in
set_option maxHeartbeats 6000000 in
theorem s_l04Draw (g : Nat) (ao : Option Addr) (n c : Nat) (bs : List UInt8) (st0 : Src) (w : World) (h : SrcAt w g ao n c st0) (W0 : World) (e0 : Ext W0 w) (hbW : U8s W0 ao n bs) (hg : W0.heap.size ≤ g) (B : Nat) (hB : B ≤ 2000000000000000000) (ha : st0.Ok B) :
    Calls Try.prog 83 #[.pointer (some ⟨g, 0, none⟩)] w (RetBondD g ao n c (B + 20000) w) := by
  have HGS : Hid (g < w.heap.size) := Lib.hid h.cells.2.2.2.2.2
  have EX : Hid (∀ W, w.grownBy W (some g) → Ext W0 W) := Lib.hid (fun W hw => e0.grown hw (fun k hk => by cases hk; exact hg))
  have HBB := Lib.hid hB
  have HON := Lib.hid (fun (d : Nat) (hd : d ≤ 10000) st hok W hs he => s_oneE (g := g) (ao := ao) (n := n) (c := c) 2 (by decide) (by decide) hbW hg (B + d) (by omega) st hok W hs he)
  have HP5 := Lib.hid (fun (d : Nat) (hd : d ≤ 10000) st hok W hs he => s_pickE (g := g) (ao := ao) (n := n) (c := c) 5 (by decide) (by decide) hbW hg (B + d) (by omega) st hok W hs he)
  have HP4 := Lib.hid (fun (d : Nat) (hd : d ≤ 10000) st hok W hs he => s_pickE (g := g) (ao := ao) (n := n) (c := c) 4 (by decide) (by decide) hbW hg (B + d) (by omega) st hok W hs he)
  have HP3 := Lib.hid (fun (d : Nat) (hd : d ≤ 10000) st hok W hs he => s_pickE (g := g) (ao := ao) (n := n) (c := c) 3 (by decide) (by decide) hbW hg (B + d) (by omega) st hok W hs he)
  have HS1 : Hid (∀ (d : Nat) (hd : d ≤ 10000) st (q : Int), 0 ≤ q → q < 3 → st.Ok (B + d) → ∀ W, SrcAt W g ao n c st → Ext W0 W → Calls Try.prog 125 #[.pointer (some ⟨g, 0, none⟩), .string ⟨#[83, 72, 84, 66, 67]⟩, .int .i64 q] W (RetSome g ao n c isPc q.toNat (B + d + 200) W)) := Lib.hid (fun d hd st q q0 q3 hok W hs he => by
    have h := s_l04Some g ao n c bs st ⟨#[83, 72, 84, 66, 67]⟩ isPc q.toNat W hs W0 he hbW hg (B + d) (by omega) hok (by decide) (by decide) (by decide) (by omega)
    rw [Int.toNat_of_nonneg q0] at h
    exact h)
  have HS2 : Hid (∀ (d : Nat) (hd : d ≤ 10000) st (q : Int), 0 ≤ q → q < 4 → st.Ok (B + d) → ∀ W, SrcAt W g ao n c st → Ext W0 W → Calls Try.prog 125 #[.pointer (some ⟨g, 0, none⟩), .string ⟨#[83, 72]⟩, .int .i64 (1 + q)] W (RetSome g ao n c isWh (1 + q).toNat (B + d + 200) W)) := Lib.hid (fun d hd st q q0 q3 hok W hs he => by
    have h := s_l04Some g ao n c bs st ⟨#[83, 72]⟩ isWh (1 + q).toNat W hs W0 he hbW hg (B + d) (by omega) hok (by decide) (by decide) (by decide) (by omega)
    rw [Int.toNat_of_nonneg (by omega)] at h
    exact h)
  have HTX : Hid (∀ (d : Nat) (hd : d ≤ 10000) st W lo, SrcAt W g ao n c st → Ext W0 W → Strs W (some ⟨lo, 0, none⟩) 2 [ownS, yardS] → lo ≠ g → st.Ok (B + d) → Calls Try.prog 124 #[.pointer (some ⟨g, 0, none⟩), .slice (some ⟨lo, 0, none⟩) 2 2] W (fun e w' => ∃ nm st', e = .returned (.string nm) ∧ nameB (bts nm) = true ∧ nm.size ≤ 12 ∧ st'.Ok (B + d + 2) ∧ SrcAt w' g ao n c st' ∧ W.grownBy w' (some g))) := Lib.hid (fun d hd st W lo hs he hl hne hok => by
    refine (s_text g ao n c bs st (some ⟨lo, 0, none⟩) 2 2 [ownS, yardS] W hs W0 he hbW hg (hok.mono (by omega)) hl (fun a ha => by cases ha; exact hne) (by decide) (by decide)).mono ?_
    rintro e w' ⟨rfl, s1, g1⟩
    have hb := pickV_bd bs st 2
    have hn := own_name _ hb.1 (hb.2 (by decide))
    exact ⟨_, _, rfl, hn.1, hn.2, pickS_ok hok, s1, g1⟩)
  have HA0 : Hid (st0.Ok (B + 0)) := Lib.hid ha
  have HS0 := Lib.hid h
  clear h hbW ha e0 hg hB
  have B0 := Lib.hid (blk_at w (.cells #[.string ByteArray.empty, .slice none 0 0] 66) w.heap.size rfl)
  have HGA : Hid (w.grownBy (w.alloc (.cells #[.string ByteArray.empty, .slice none 0 0] 66)) (some g)) := Lib.hid (World.grownBy_alloc w _ _)
  go_enter Try.func83, Try.ntmps83
  go_wp2_with fail
  refine (HON.out 0 (by decide) st0 HA0.out _ (blk_old HS0.out) (EX.out _ HGA.out)).mono ?_
  rintro e w1 ⟨b, st1, rfl, OK1, s1, g1⟩
  have HR1 : Hid (w1.heap[w.heap.size]? = some zB) := Lib.hid (blk_grownS B0.out g1 (fun e => by have := Option.some.inj e; have := HGS.out; omega))
  have HS1' := Lib.hid s1
  have HG1 := Lib.hid (HGA.out.trans g1)
  have HOK1 := Lib.hid OK1
  have hz1 : Hid (w.heap.size < w1.heap.size) := Lib.hid (lt_of_block HR1.out)
  clear s1 g1 OK1
  cases b with
  | true =>
    go_wp2_with (go_at_call 122; refine (s_l04Library _).mono ?_; rintro e w2 ⟨rfl, rfl⟩)
    refine (HP5.out 2 (by decide) st1 HOK1.out _ (blk_old HS1'.out) (EX.out _ (grown_ext_by HG1.out ((Ext.refl _).alloc _)))).mono ?_
    rintro e w3 ⟨q, st3, rfl, q1, q2, OK3, s3, g3⟩
    have HR3 : Hid (w3.heap[w.heap.size]? = some zB) := Lib.hid (blk_grownS (blk_old HR1.out) g3 (fun e => by have := Option.some.inj e; have := HGS.out; omega))
    have HS3 := Lib.hid s3
    have HG3 := Lib.hid ((grown_ext_by HG1.out ((Ext.refl _).alloc _)).trans g3)
    have HOK3 := Lib.hid OK3
    obtain ⟨j, rfl⟩ := Int.eq_ofNat_of_zero_le q1
    have hj5 : j < 5 := by omega
    obtain ⟨nm, cs, hbd, htx⟩ := lib_ok j hj5
    have hcell : (w1.alloc (.cells (libT.map Value.string).toArray 9)).cell? ⟨w1.heap.size, j, none⟩ = some (.string (libT.getD j ByteArray.empty)) := by
      have h := cells_new w1 (libT.map Value.string) 9 j (.string (libT.getD j ByteArray.empty)) (by
        rw [List.getElem?_map, List.getElem?_eq_getElem (show j < libT.length from hj5), List.getD_eq_getElem?_getD, List.getElem?_eq_getElem (show j < libT.length from hj5)]; rfl)
      rw [Addr.add_lit, Nat.zero_add] at h
      exact h
    have d0 := cell_grown hcell g3 (fun e => by have h2 : w1.heap.size = g := Option.some.inj e; have := HGS.out; have := hz1.out; omega)
    obtain ⟨z, hz⟩ : ∃ z, libT.getD j ByteArray.empty = z := ⟨_, rfl⟩
    rw [hz] at d0 htx
    have HTX2 := Lib.hid htx
    have HBD := Lib.hid hbd
    have hz3 : Hid (w.heap.size < w3.heap.size) := Lib.hid (lt_of_block HR3.out)
    have HCN : Hid (1 ≤ cs.length ∧ nm.size ≤ 12) := Lib.hid ⟨htx.2.2.2.1, htx.2.1⟩
    clear s3 g3 OK3 hcell hz htx hbd
    go_wp2_with (go_at_call 123; refine (s_ReadBond z nm cs HTX2.out _).mono ?_; rintro e w4 ⟨a, cap, rfl, o4, e4⟩; obtain ⟨r0, r1, r2, r3, r4⟩ := two_cells (e4.block HR3.out); obtain ⟨n4, hn4⟩ : ∃ n, cs.length = n := ⟨_, rfl⟩; rw [hn4] at o4 ⊢; have HN4 := Lib.hid hn4; have HO4 := Lib.hid o4; have HE4 := Lib.hid e4; clear o4 e4 hn4)
    obtain ⟨c0, c1⟩ := res_two (.string nm) (.slice a n4 cap) (.cells #[.string nm, .slice a n4 cap] 66) r0 r1
    have hz3' := hz3.out
    refine bodyPost_ret (v := .agg #[.string nm, .slice a n4 cap]) (by simp [results, Try.results83, go_sem, c0, c1]) rfl ?_
    refine ⟨nm, cs, st3, a, cap, by rw [HN4.out], HBD.out, HCN.out.2, ?_, HOK3.out.mono (by omega), ?_, ?_⟩
    · rw [HN4.out]
      exact (((HO4.out.setBelow (by dsimp only; omega) _).setBelow (by dsimp only; omega) _).ext ((Ext.refl _).alloc _)).mono (by omega)
    · exact blk_old (heap_setO _ _ _ (heap_setO _ _ _ (HE4.out.block HS3.out) HGS.out) HGS.out)
    · exact grown_ext_by (grown_above (grown_above (grown_ext_by HG3.out HE4.out) (Nat.le_refl _) _) (Nat.le_refl _) _) ((Ext.refl _).alloc _)
  | false =>
    go_wp2_with fail
    refine (HTX.out 2 (by decide) st1 _ _ (blk_old HS1'.out) (EX.out _ (grown_ext_by HG1.out ((Ext.refl _).alloc _))) ?strs (by have := HGS.out; have := hz1.out; omega) HOK1.out).mono ?_
    case strs => exact ⟨rfl, by decide, fun i hi => ⟨_, 0, rfl, by have h := cells_new w1 [.string ownS, .string yardS] 9 i (.string ([ownS, yardS].getD i ByteArray.empty)) (by rcases (show i = 0 ∨ i = 1 by omega) with rfl | rfl <;> rfl); rw [Addr.add_lit] at h; exact h⟩, fun s hs => by simp at hs; rcases hs with rfl | rfl <;> decide⟩
    rintro e w2 ⟨nm, st2, rfl, hnm1, hnm2, OK2, s2, g2⟩
    have HR2 : Hid (w2.heap[w.heap.size]? = some zB) := Lib.hid (blk_grownS (blk_old HR1.out) g2 (fun e => by have := Option.some.inj e; have := HGS.out; omega))
    have HS2' := Lib.hid s2
    have HG2 := Lib.hid ((grown_ext_by HG1.out ((Ext.refl _).alloc _)).trans g2)
    have HOK2 := Lib.hid OK2
    have HNM := Lib.hid hnm1
    have HNS := Lib.hid hnm2
    have HGB : Hid (w.heap.size < w2.heap.size) := Lib.hid (lt_of_block HR2.out)
    clear s2 g2 OK2 hnm1 hnm2
    go_wp2_with fail
    refine (HP4.out 4 (by decide) st2 HOK2.out _ (blk_old HS2'.out) (EX.out _ (grown_ext_by HG2.out ((Ext.refl _).alloc _)))).mono ?_
    rintro e w3 ⟨q, st3, rfl, q1, q2, OK3, s3, g3⟩
    have HK0 : Hid (KL w g ao n c w2.heap.size nm (.slice none 0 0) [] st3 w3) := Lib.hid ⟨blk_grownS (blk_old HR2.out) g3 (fun e => by have := Option.some.inj e; have := HGS.out; omega), blk_grownS (blk_at _ _ _ rfl) g3 (fun e => by have := Option.some.inj e; have := HGS.out; have := HGB.out; omega), OwnCrss.nilv _ _, s3, (grown_ext_by HG2.out ((Ext.refl _).alloc _)).trans g3⟩
    have HOK3 := Lib.hid OK3
    clear s3 g3 OK3
    go_wp2
    go_loopw [7] (fun i wr => ∃ (st : Src) (j : Nat) (v : Value) (cs : List Crs), i = .int .i64 j ∧ ((cs.length : Int) + j = 1 + q) ∧ Hid (cs.all crsOk = true ∧ st.Ok (B + (6 + 1000 * cs.length))) ∧ Hid (KL w g ao n c w2.heap.size nm v cs st wr)) (fun i _ => (intOf i).toNat)
    case atStart => exact ⟨st3, (1 + q).toNat, .slice none 0 0, [], int_eq (by omega), by simp; omega, Lib.hid ⟨rfl, HOK3.out⟩, HK0⟩
    case round =>
      obtain ⟨st, j, v, cs, rfl, hcj, HAO, HK⟩ := hrel
      have hcl : cs.length ≤ 4 := by omega
      have HAL := Lib.hid HAO.out.1
      cases j with
      | zero =>
        obtain ⟨y0, y1, y2, y3, y4⟩ := two_cells HK.out.2.1
        obtain ⟨r0, r1, r2, r3, r4⟩ := two_cells HK.out.1
        obtain ⟨a9, c9, rfl⟩ := HK.out.2.2.1.shape
        have HN9 : Hid (1 ≤ cs.length ∧ cs.length ≤ 8) := Lib.hid (by omega)
        obtain ⟨n9, hn9⟩ : ∃ n, cs.length = n := ⟨_, rfl⟩
        have HO9 := Lib.hid HK.out.2.2.1
        rw [hn9] at HO9 y1
        go_wp2
        have c0 : ((wr.setCell ⟨w.heap.size, 0, none⟩ (.string nm)).setCell ⟨w.heap.size, 1, none⟩ (.slice a9 n9 c9)).cell? ⟨w.heap.size, 0, none⟩ = some (.string nm) := by
          rw [World.cell?_setCell_other _ _ _ _ (ne_off (by decide))]; exact World.cell?_setCell_same _ _ _ r0
        have c1 : ((wr.setCell ⟨w.heap.size, 0, none⟩ (.string nm)).setCell ⟨w.heap.size, 1, none⟩ (.slice a9 n9 c9)).cell? ⟨w.heap.size, 1, none⟩ = some (.slice a9 n9 c9) :=
          World.cell?_setCell_same _ _ _ ((World.cell?_setCell_other _ _ _ _ (ne_off (by decide))).trans r1)
        have hgb := HGB.out
        refine bodyPost_ret (v := .agg #[.string nm, .slice a9 n9 c9]) (by simp [results, Try.results83, go_sem, c0, c1]) rfl ?_
        refine ⟨nm, cs, st, a9, c9, by rw [hn9], ?_, HNS.out, ?_, HAO.out.2.mono (by have := HN9.out; omega), ?_, ?_⟩
        · unfold bondB
          rw [HNM.out, HAL.out, Bool.true_and, Bool.and_true]
          have := HN9.out
          simp [inB]; omega
        · rw [hn9]
          exact ((HO9.out.setBelow (by dsimp only; omega) _).setBelow (by dsimp only; omega) _).mono (by omega)
        · exact heap_setO _ _ _ (heap_setO _ _ _ HK.out.2.2.2.1 HGS.out) HGS.out
        · exact grown_above (grown_above HK.out.2.2.2.2 (Nat.le_refl _) _) (Nat.le_refl _) _
      | succ j =>
        have HGC : Hid (w2.heap.size < wr.heap.size) := Lib.hid (lt_of_block HK.out.2.1)
        have K1 := Lib.hid (HK.out.start (.string ByteArray.empty) (.string ByteArray.empty))
        have HD : Hid (6 + 1000 * cs.length ≤ 5000) := Lib.hid (by omega)
        have hgbc := HGC.out
        go_wp2_with fail
        refine (HON.out (6 + 1000 * cs.length) (by have := HD.out; omega) st HAO.out.2 _ K1.out.src (EX.out _ K1.out.gr)).mono ?_
        rintro e w5 ⟨b, st5, rfl, OK5, s5, g5⟩
        have K5 := Lib.hid (K1.out.draw g5 s5 HGS.out HGB.out HGC.out)
        have HOK5 : Hid (st5.Ok (B + (10 + 1000 * cs.length + 202))) := Lib.hid (OK5.mono (by omega))
        clear s5 g5 OK5
        cases b with
        | false =>
              go_wp2_with fail
              refine (HP4.out _ (by have := HD.out; omega) st5 HOK5.out _ K5.out.src (EX.out _ K5.out.gr)).mono ?_
              rintro e w7 ⟨q7, st7, rfl, q71, q72, OK7, s7, g7⟩
              have K7 := Lib.hid (K5.out.draw g7 s7 HGS.out HGB.out HGC.out)
              have HOK7 : Hid (st7.Ok (B + (300 + 1000 * cs.length))) := Lib.hid (OK7.mono (by omega))
              clear s7 g7 OK7
              go_wp2_with fail
              refine (HS2.out _ (by have := HD.out; omega) st7 q7 q71 q72 HOK7.out _ K7.out.src (EX.out _ K7.out.gr)).mono ?_
              rintro e w8 ⟨l2, st8, rfl, l21, l22, OK8, s8, g8⟩
              have K8 := Lib.hid (K7.out.draw g8 s8 HGS.out HGB.out HGC.out)
              have HOK8 := Lib.hid OK8
              have HL21 := Lib.hid l21
              have HL22 := Lib.hid l22
              obtain ⟨y8, hy8⟩ : ∃ z, mkS l2 = z := ⟨_, rfl⟩
              have HY8 := Lib.hid hy8
              rw [hy8]
              obtain ⟨c80, c81, c82, c83, c84⟩ := two_cells K8.out.crs
              obtain ⟨b80, b81, b82, b83, b84⟩ := two_cells K8.out.box
              have K9 := Lib.hid (K8.out.sety (.string y8) HGS.out HGB.out HGC.out)
              have HXO : Hid (crsOk ⟨ByteArray.empty, y8⟩ = true) := Lib.hid (crs_drawn rfl (by decide) (by rw [← HY8.out, bts_mkS]; exact HL22.out) (by rw [← HY8.out, mkS_size, HL21.out]; omega))
              have HCL9 := Lib.hid hcl
              clear s8 g8 l21 l22 hy8 OK8
              go_wp2_with (at_builtin; refine wpList_append_crs (base := w2.heap.size + 1) rfl _ _ rfl v cs ⟨ByteArray.empty, y8⟩ rfl rfl (by first | rfl | (show Value.slice _ 1 1 = _; simp)) K9.out.own (Nat.succ_le_of_lt (lt_of_block K9.out.box)) (by have := HCL9.out; omega) (crsOk_ok HXO.out) ?_; intro v' w9 ho9 g9; obtain ⟨a9, c9, rfl⟩ := ho9.shape; rw [List.length_append, List.length_singleton] at ho9 ⊢; have HO9 := Lib.hid ho9; have HB9 := Lib.hid (K9.out.app g9 HGS.out HGB.out HGC.out); obtain ⟨z0, z1, z2, z3, z4⟩ := two_cells HB9.out.2.1; clear ho9 g9)
              go_roundw
              case rel =>
                refine ⟨st8, j, .slice a9 (cs.length + 1) c9, cs ++ [⟨ByteArray.empty, y8⟩], by go_num, by rw [List.length_append, List.length_singleton]; omega, Lib.hid ⟨?_, ?_⟩, Lib.hid ?_⟩
                · rw [List.all_append, HAL.out, List.all_cons, HXO.out]; rfl
                · exact HOK8.out.mono (by rw [List.length_append, List.length_singleton]; omega)
                · exact kl_back HB9.out HO9.out HGS.out HGB.out
              case measure => simp [intOf]

        | true =>
              go_wp2_with fail
              refine (HP3.out _ (by have := HD.out; omega) st5 HOK5.out _ K5.out.src (EX.out _ K5.out.gr)).mono ?_
              rintro e w6 ⟨q6, st6a, rfl, q61, q62, OK6a, s6, g6⟩
              have K6a := Lib.hid (K5.out.draw g6 s6 HGS.out HGB.out HGC.out)
              have HOK6a : Hid (st6a.Ok (B + (300 + 1000 * cs.length))) := Lib.hid (OK6a.mono (by omega))
              clear s6 g6 OK6a
              go_wp2_with fail
              refine (HS1.out _ (by have := HD.out; omega) st6a q6 q61 q62 HOK6a.out _ K6a.out.src (EX.out _ K6a.out.gr)).mono ?_
              rintro e w6b ⟨l1, st6, rfl, l11, l12, OK6, s6, g6⟩
              have K6b := Lib.hid (K6a.out.draw g6 s6 HGS.out HGB.out HGC.out)
              have HOK6 : Hid (st6.Ok (B + (500 + 1000 * cs.length))) := Lib.hid (OK6.mono (by omega))
              have HL11 := Lib.hid l11
              have HL12 := Lib.hid l12
              obtain ⟨x6, hx6⟩ : ∃ z, mkS l1 = z := ⟨_, rfl⟩
              have HX6 := Lib.hid hx6
              rw [hx6]
              obtain ⟨c60, c61, c62, c63, c64⟩ := two_cells K6b.out.crs
              have K6 := Lib.hid (K6b.out.setx (.string x6) HGS.out HGB.out HGC.out)
              clear s6 g6 l11 l12 hx6 OK6
              go_wp2_with fail
              refine (HP4.out _ (by have := HD.out; omega) st6 HOK6.out _ K6.out.src (EX.out _ K6.out.gr)).mono ?_
              rintro e w7 ⟨q7, st7, rfl, q71, q72, OK7, s7, g7⟩
              have K7 := Lib.hid (K6.out.draw g7 s7 HGS.out HGB.out HGC.out)
              have HOK7 : Hid (st7.Ok (B + (600 + 1000 * cs.length))) := Lib.hid (OK7.mono (by omega))
              clear s7 g7 OK7
              go_wp2_with fail
              refine (HS2.out _ (by have := HD.out; omega) st7 q7 q71 q72 HOK7.out _ K7.out.src (EX.out _ K7.out.gr)).mono ?_
              rintro e w8 ⟨l2, st8, rfl, l21, l22, OK8, s8, g8⟩
              have K8 := Lib.hid (K7.out.draw g8 s8 HGS.out HGB.out HGC.out)
              have HOK8 := Lib.hid OK8
              have HL21 := Lib.hid l21
              have HL22 := Lib.hid l22
              obtain ⟨y8, hy8⟩ : ∃ z, mkS l2 = z := ⟨_, rfl⟩
              have HY8 := Lib.hid hy8
              rw [hy8]
              obtain ⟨c80, c81, c82, c83, c84⟩ := two_cells K8.out.crs
              obtain ⟨b80, b81, b82, b83, b84⟩ := two_cells K8.out.box
              have K9 := Lib.hid (K8.out.sety (.string y8) HGS.out HGB.out HGC.out)
              have HXO : Hid (crsOk ⟨x6, y8⟩ = true) := Lib.hid (crs_drawn (by rw [← HX6.out, bts_mkS]; exact HL12.out) (by rw [← HX6.out, mkS_size, HL11.out]; omega) (by rw [← HY8.out, bts_mkS]; exact HL22.out) (by rw [← HY8.out, mkS_size, HL21.out]; omega))
              have HCL9 := Lib.hid hcl
              clear s8 g8 l21 l22 hy8 OK8
              go_wp2_with (at_builtin; refine wpList_append_crs (base := w2.heap.size + 1) rfl _ _ rfl v cs ⟨x6, y8⟩ rfl rfl (by first | rfl | (show Value.slice _ 1 1 = _; simp)) K9.out.own (Nat.succ_le_of_lt (lt_of_block K9.out.box)) (by have := HCL9.out; omega) (crsOk_ok HXO.out) ?_; intro v' w9 ho9 g9; obtain ⟨a9, c9, rfl⟩ := ho9.shape; rw [List.length_append, List.length_singleton] at ho9 ⊢; have HO9 := Lib.hid ho9; have HB9 := Lib.hid (K9.out.app g9 HGS.out HGB.out HGC.out); obtain ⟨z0, z1, z2, z3, z4⟩ := two_cells HB9.out.2.1; clear ho9 g9)
              go_roundw
              case rel =>
                refine ⟨st8, j, .slice a9 (cs.length + 1) c9, cs ++ [⟨x6, y8⟩], by go_num, by rw [List.length_append, List.length_singleton]; omega, Lib.hid ⟨?_, ?_⟩, Lib.hid ?_⟩
                · rw [List.all_append, HAL.out, List.all_cons, HXO.out]; rfl
                · exact HOK8.out.mono (by rw [List.length_append, List.length_singleton]; omega)
                · exact kl_back HB9.out HO9.out HGS.out HGB.out
              case measure => simp [intOf]

end Go.Proofs.Ytnhmcmohnpbcjaa
