/- An opening is put into a row of the call's own: Go's slices.Insert at one element. -/
import Derived.Test.YtnhmcmohnpbcjaaAddI0
import Derived.Lib.Overlaps
import Derived.Lib.AppendZerosOnto
import Derived.Laws.CopyRow
import Derived.Deep.RegionLaw
namespace Go.Proofs.Ytnhmcmohnpbcjaa
open Go.RowKit Go.Lib
set_option linter.unusedSimpArgs false
set_option linter.unusedVariables false
set_option linter.unnecessarySimpa false

/-- elements of k cells are copied into a row -/
theorem run_copy_rowk {P : Program} (w : World) (dT sT ty elem : TypeId) (k : Nat) (g o dLen dCap : Nat) (a : Addr) (sLen sCap : Nat) (cur : Array Value) (t : TypeId) (cs : List Value)
    (hu : P.underlying dT = some (.slice elem)) (hs : (P.info? elem).map (·.size) = some k) (hg : w.heap[g]? = some (.cells cur t (0, 0))) (m : Nat) (hm : Nat.min sLen dLen = m) (hn : cs.length = m * k)
    (hsrc : ∀ j v, cs[j]? = some v → w.cell? (a.add j) = some v) (hfit : o + cs.length ≤ cur.size) (h1 : ∀ v ∈ cs, v.oneCell' = true) :
    (Builtin.copy_ #[dT, sT] ty #[.slice (some ⟨g, o, none⟩) dLen dCap, .slice (some a) sLen sCap]).run P w =
      .ok (goInt m) (w.setRow g (cur.toList.take o ++ cs ++ cur.toList.drop (o + cs.length)).toArray) := by
  have hl := run_loadCells_list (P := P) w a cs hsrc
  have hst := run_storeCells_at P g o t cs 0 cur w hg (by simpa using hfit) h1
  cases hq : P.info? elem with
  | none => simp [hq] at hs
  | some i =>
    have hi : i.size = k := by simpa [hq] using hs
    rw [hn] at hl
    simp [Builtin.copy_, run_underlying hu, Builtin.lenOf, Builtin.firstCells, sizeOf, typeInfo, hq, hi, hm, hl, hst]
theorem grown_setRow (w : World) (g : Nat) (cs : Array Value) : w.grownBy (w.setRow g cs) (some g) :=
  ⟨rfl, rfl, rfl, by rw [setRow_size]; exact Nat.le_refl _, fun k _ hne => setRow_other _ _ _ _ (fun e => hne (by rw [e]))⟩
theorem wp_copyk {P : Program} (w : World) {o : Oper} {a : Act} {K : Act → World → Prop} {Q : Exit → Act → World → Prop} (d s : Operand) (t t' : TypeId)
    (ho : o.op = .call { callee := .builtin .copy, args := #[d, s], argTypes := #[t, t'] }) (v u : Value) (hd : a.eval d = v) (hs : a.eval s = u) {v' : Value} {w' : World}
    (hr : (Builtin.copy_ #[t, t'] o.type #[v, u]).run P w = .ok v' w') (h : K (a.put o.dst v') w') : o.wp P a w K Q := by
  unfold Oper.wp execOp
  simp only [ho, resolve, invoke, builtin, Sem.run_bind, Sem.run_pure, Result.andThen_ok, List.map_toArray, List.map_cons, List.map_nil, hd, hs, hr]
  exact h
/-- openings are copied into a row, as an operation of the walk -/
theorem wpList_copy_opn (w : World) {ops : Array Oper} {rest : List Oper} {o : Oper} {a : Act} {Q : Exit → Act → World → Prop} (hgd : o.guard = none) (d s : Operand)
    (ho : o.op = .call { callee := .builtin .copy, args := #[d, s], argTypes := #[28, 28] }) (g off dLen dCap : Nat) (ad : Addr) (sLen sCap : Nat) (hd : a.eval d = .slice (some ⟨g, off, none⟩) dLen dCap) (hs : a.eval s = .slice (some ad) sLen sCap)
    (cur : Array Value) (zs : List Opn) (hg : w.heap[g]? = some (.cells cur 34 (0, 0))) (hm : Nat.min sLen dLen = zs.length) (hsrc : FlatAt w ad zs) (hfit : off + zs.length * 4 ≤ cur.size)
    (h : ∀ w', w'.heap[g]? = some (.cells (cur.toList.take off ++ zs.flatMap opnC ++ cur.toList.drop (off + zs.length * 4)).toArray 34 (0, 0)) → w.grownBy w' (some g) → wpList Try.prog ops Q rest (a.put o.dst (.int .i64 zs.length)) w') : wpList Try.prog ops Q (o :: rest) a w := by
  obtain ⟨i0, hi, hz0, hz1, hz2⟩ := info_parts info_opn
  have hr := fun ty => run_copy_rowk (P := Try.prog) w 28 28 ty 34 4 g off dLen dCap ad sLen sCap cur 34 (zs.flatMap opnC) Try.underlying28 (by rw [hi]; simp [hz1]) hg _ hm (by rw [flat_length]) hsrc (by rw [flat_length]; exact hfit)
    (fun u hu => by
      obtain ⟨o, _, ho⟩ := List.mem_flatMap.1 hu
      simp [opnC] at ho
      rcases ho with rfl | rfl | rfl | rfl <;> rfl)
  simp only [flat_length] at hr
  exact wpList_plain hgd fun _ hK => wp_copyk w d s _ _ ho _ _ hd hs (hr _) (hK _ _ (h _ (setRow_heap _ _ _ _ _ _ hg) (grown_setRow _ _ _)))
/-- .. and as a step of a region that draws -/
theorem step_copy_opn {ops : Array Oper} {o : Oper} {a : Act} {w : World} {K : Act → World → Prop} {Q : Exit → Act → World → Prop} {E : Prop} (hgd : o.guard = none) (d s : Operand)
    (ho : o.op = .call { callee := .builtin .copy, args := #[d, s], argTypes := #[28, 28] }) (g off dLen dCap : Nat) (ad : Addr) (sLen sCap : Nat) (hd : a.eval d = .slice (some ⟨g, off, none⟩) dLen dCap) (hs : a.eval s = .slice (some ad) sLen sCap)
    (cur : Array Value) (zs : List Opn) (hg : w.heap[g]? = some (.cells cur 34 (0, 0))) (hm : Nat.min sLen dLen = zs.length) (hsrc : FlatAt w ad zs) (hfit : off + zs.length * 4 ≤ cur.size)
    (h : ∀ w', w'.heap[g]? = some (.cells (cur.toList.take off ++ zs.flatMap opnC ++ cur.toList.drop (off + zs.length * 4)).toArray 34 (0, 0)) → w.grownBy w' (some g) → K (a.put o.dst (.int .i64 zs.length)) w') :
    if Region.wanted o (yielded ops a.tmps) = true then Oper.wp Try.prog o a w K Q else E := by
  have hw : Region.wanted o (yielded ops a.tmps) = true := by simp [Region.wanted, hgd]
  rw [if_pos hw]
  obtain ⟨i0, hi, hz0, hz1, hz2⟩ := info_parts info_opn
  have hr := fun ty => run_copy_rowk (P := Try.prog) w 28 28 ty 34 4 g off dLen dCap ad sLen sCap cur 34 (zs.flatMap opnC) Try.underlying28 (by rw [hi]; simp [hz1]) hg _ hm (by rw [flat_length]) hsrc (by rw [flat_length]; exact hfit)
    (fun u hu => by
      obtain ⟨o, _, ho⟩ := List.mem_flatMap.1 hu
      simp [opnC] at ho
      rcases ho with rfl | rfl | rfl | rfl <;> rfl)
  simp only [flat_length] at hr
  exact wp_copyk w d s _ _ ho _ _ hd hs (hr _) (h _ (setRow_heap _ _ _ _ _ _ hg) (grown_setRow _ _ _))
/-- the row's cells as a front of them stands -/
theorem OwnOpens.of_cells {w : World} {base g n cap : Nat} {os : List Opn} {cur : Array Value} (hb : base ≤ g) (hg : w.heap[g]? = some (.cells cur 34 (0, 0))) (hl : os.length = n) (hn : n ≤ cap) (hm : cap ≤ maxLen) (hs : cur.size = cap * 4) (ht : cur.toList.take (n * 4) = os.flatMap opnC) (ho : ∀ o ∈ os, o.ok) :
    OwnOpens w base (.slice (some ⟨g, 0, none⟩) n cap) os := by
  subst hl
  exact ⟨⟨by rw [flat_length], .inr ⟨g, cap, cur, rfl, hb, hg, hn, hm, hs, ht⟩⟩, ho⟩
theorem ins_take {X A B C : List Value} {i r : Nat} (hA : (X.take i).length = i) (ha : X.take i = A) (hB : B.length = 4) (hC : C.length = r) :
    (((X.take i ++ B ++ X.drop (i + 4)).take (i + 4) ++ C ++ (X.take i ++ B ++ X.drop (i + 4)).drop (i + 4 + r)).take (i + 4 + r)) = A ++ B ++ C := by
  have h1 : (X.take i ++ B).length = i + 4 := by rw [List.length_append, hA, hB]
  have h2 : (X.take i ++ B ++ X.drop (i + 4)).take (i + 4) = X.take i ++ B := by rw [← h1]; exact List.take_left' rfl
  rw [h2, List.take_append_of_le_length (by rw [List.length_append, h1, hC]; exact Nat.le_refl _), List.take_of_length_le (by rw [List.length_append, h1, hC]; exact Nat.le_refl _), ha]
theorem ins_take2 {X A B C : List Value} {i r : Nat} (hA : (X.take i).length = i) (ha : X.take i = A) (hB : B.length = 4) (hC : C.length = r) (hX : i + 4 + r ≤ X.length) :
    (((X.take (i + 4) ++ C ++ X.drop (i + 4 + r)).take i ++ B ++ (X.take (i + 4) ++ C ++ X.drop (i + 4 + r)).drop (i + 4)).take (i + 4 + r)) = A ++ B ++ C := by
  have h0 : (X.take (i + 4)).length = i + 4 := by rw [List.length_take]; omega
  have h2 : (X.take (i + 4) ++ C ++ X.drop (i + 4 + r)).take i = X.take i := by
    rw [List.append_assoc, List.take_append_of_le_length (by omega), List.take_take, Nat.min_eq_left (by omega)]
  have h3 : (X.take (i + 4) ++ C ++ X.drop (i + 4 + r)).drop (i + 4) = C ++ X.drop (i + 4 + r) := by
    rw [List.append_assoc, List.drop_left' h0]
  rw [h2, h3, ← List.append_assoc, List.take_append_of_le_length (by simp only [List.length_append]; omega), List.take_of_length_le (by simp only [List.length_append]; omega), ha]
theorem seg_len {X C : List Value} {o : Nat} (h : o + C.length ≤ X.length) : (X.take o ++ C ++ X.drop (o + C.length)).length = X.length := by
  simp only [List.length_append, List.length_take, List.length_drop]; omega
theorem unmarked {w : World} {b : Nat} {cs : Array Value} {T : TypeId} (h : w.heap[b]? = some (.cells cs T (0, 0))) (j : Nat) : w.frozen? ⟨b, j, none⟩ = false := by
  unfold World.frozen?
  rw [h]
  simp
/-- a longer row is made: what a row held ahead of a place, and zero values behind -/
theorem wpList_make_opn (w : World) {ops : Array Oper} {rest : List Oper} {o : Oper} {a : Act} {Q : Exit → Act → World → Prop} (hgd : o.guard = none) (s x : Operand)
    (ho : o.op = .call { callee := .builtin .append, args := #[s, x], argTypes := #[28, 3] }) (ad : Addr) (P c : Nat) (z : Int) (k : Nat) (hs : a.eval s = .slice (some ad) P c) (hx : a.eval x = .int .i64 z) (hz : z = k)
    (zs : List Opn) (hl : zs.length = P) (hsrc : FlatAt w ad zs) (h0 : 0 < k) (hc : c < P + k) (hb : P + k ≤ 1000)
    (h : ∀ w' ROW G, w'.heap[w.heap.size]? = some (.cells ROW 34 (0, 0)) → ROW.size = G * 4 → P + k ≤ G → G ≤ maxLen → ROW.toList.take (P * 4) = zs.flatMap opnC → Ext w w' → wpList Try.prog ops Q rest (a.put o.dst (.slice (some ⟨w.heap.size, 0, none⟩) (P + k) G)) w') : wpList Try.prog ops Q (o :: rest) a w := by
  obtain ⟨i0, hi, hz0, hz1, hz2⟩ := info_parts info_opn
  subst hz
  have hold : (Builtin.firstCells i0.size P (.slice (some ad) P c)).run Try.prog w.drew = .ok (zs.flatMap opnC).toArray w.drew := by
    rw [hz1]
    exact run_firstCells_some w.drew 4 P ad P c (zs.flatMap opnC) (by rw [flat_length, hl]) (fun j v hj => hsrc j v hj)
  have hr := fun ty => run_append_grow_zeros w 28 3 ty 34 i0 (.agg #[.int .i64 0, .int .i64 0, .int .i64 0, .int .i64 0]) .i64 .i64 Try.underlying28 Try.underlying3 hi hz0 (some ad) P c (zs.flatMap opnC) hold k h0 (by rw [hz1]; decide) hc (by omega) (by rw [hz2]; omega) (by rw [hz2]; exact growslice_fits hc (by omega))
  refine wpList_append_run w hgd s x _ _ ho _ _ hs hx _ _ (hr _) ?_
  refine h _ _ _ (heap_alloc_new w.drew _) ?_ (grownCap_ge w _ _ _) (grownCap_le_maxLen w _ _ _ (by unfold maxLen; omega)) ?_ ((Ext.refl w).drew.alloc _)
  · have h1 := grownCap_ge w (P + k) c 34
    have h2 : (zs.flatMap opnC).length = P * 4 := by rw [flat_length, hl]
    simp only [Array.size_append, List.size_toArray, h2, Builtin.zeroCells, Value.cells, Array.size_map, Array.size_range]
    show P * 4 + k * 4 + (grownCap w (P + k) c 34 - (P + k)) * 4 = _
    omega
  · have h2 : (zs.flatMap opnC).length = P * 4 := by rw [flat_length, hl]
    rw [Array.toList_append, Array.toList_append, List.append_assoc, List.take_append_of_le_length (by show _ ≤ (zs.flatMap opnC).length; omega)]
    exact List.take_of_length_le (by show (zs.flatMap opnC).length ≤ _; omega)
/-- an opening has been put in, in memory of the call's own or in the row itself -/
def RetIns (base : Nat) (os : List Opn) (row : Option Nat) (w : World) (e : Ending) (w' : World) : Prop := ∃ a cap, e = .returned (.slice a os.length cap) ∧ OwnOpens w' base (.slice a os.length cap) os ∧ w.grownBy w' row
theorem RetIns.mk {base : Nat} {os : List Opn} {row : Option Nat} {w w' : World} {v : Value} (h : OwnOpens w' base v os) (g : w.grownBy w' row) : RetIns base os row w (.returned v) w' := by
  rcases h.1.2 with ⟨hv, h0⟩ | ⟨_, cap, _, hv, _⟩
  · subst hv
    have h0' : os.length = 0 := h0
    exact ⟨none, 0, by rw [h0'], by rw [h0']; exact h, g⟩
  · subst hv
    exact ⟨_, cap, rfl, h, g⟩
set_option maxRecDepth 100000 in
set_option maxHeartbeats 4000000 in
theorem f_InsertO (base : Nat) (ao : Option Addr) (n c P vb : Nat) (os : List Opn) (x : Opn) (w : World) (hx : OwnOpens w base (.slice ao n c) os) (hl : os.length = n) (hn : n ≤ 8) (hP : P ≤ n) (hxo : x.ok)
    (hv : w.heap[vb]? = some (.cells #[.int .i64 x.fr, .int .i64 x.en, .int .i64 x.lo, .int .i64 x.hi] 34 (0, 0))) (hne : ∀ j, (Value.slice ao n c).ownBlock = some j → j ≠ vb) (hbase : base ≤ w.heap.size) :
    Calls Try.prog 58 #[.slice ao n c, .int .i64 P, .slice (some ⟨vb, 0, none⟩) 1 1] w (RetIns base (os.take P ++ x :: os.drop P) (Value.slice ao n c).ownBlock w) := by
  have HX := Lib.hid hx
  have HL := Lib.hid hl
  have HXO := Lib.hid hxo
  have HV := Lib.hid hv
  have HFV : Hid (∀ W, W.heap[vb]? = some (.cells #[.int .i64 x.fr, .int .i64 x.en, .int .i64 x.lo, .int .i64 x.hi] 34 (0, 0)) → FlatAt W ⟨vb, 0, none⟩ [x]) := Lib.hid (fun W h j u hu => by
    rw [Addr.add_lit, Nat.zero_add]
    unfold World.cell?
    rw [h]
    have : (opnC x)[j]? = some u := by simpa using hu
    simpa [opnC] using this)
  have HOK : Hid (∀ o ∈ os.take P ++ x :: os.drop P, o.ok) := Lib.hid (fun o ho => by
    rcases List.mem_append.1 ho with ho | ho
    · exact hx.2 o (List.mem_of_mem_take ho)
    · rcases List.mem_cons.1 ho with rfl | ho
      · exact hxo
      · exact hx.2 o (List.mem_of_mem_drop ho))
  have HLN : Hid ((os.take P ++ x :: os.drop P).length = n + 1) := Lib.hid (by rw [List.length_append, List.length_cons, List.length_take, List.length_drop]; omega)
  by_cases hend : P = n
  · subst hend
    have HN : Hid (os.take P ++ x :: os.drop P = os ++ [x]) := Lib.hid (by rw [List.take_of_length_le (by omega), List.drop_of_length_le (by omega)])
    cases ao
    all_goals
      have HF := HFV.out w hv
      clear hx hl hxo hv hne
      go_enter Try.func58, Try.ntmps58
      go_wp2_with (at_builtin; refine wpList_append_opens (base := base) rfl _ _ rfl _ os rfl HX.out hbase _ 1 1 [x] rfl rfl HF (by intro o ho; rw [List.mem_singleton] at ho; subst ho; exact HXO.out) (by rw [HL.out]; omega) ?_)
      all_goals
        intro v3 w3 ho3 hg3
        have HO3 := Lib.hid ho3
        have HG3 := Lib.hid hg3
        clear ho3 hg3 HF
        go_wp2
        go_ret
        exact RetIns.mk (by rw [HN.out]; exact HO3.out) HG3.out
  · have hlt : P < n := by omega
    obtain ⟨g, cur, rfl, hbg, hgc, hnc, hcm, hcs, htk⟩ : ∃ g cur, ao = some ⟨g, 0, none⟩ ∧ base ≤ g ∧ w.heap[g]? = some (.cells cur 34 (0, 0)) ∧ n ≤ c ∧ c ≤ maxLen ∧ cur.size = c * 4 ∧ cur.toList.take (n * 4) = os.flatMap opnC := by
      rcases hx.1.2 with ⟨h, h0⟩ | ⟨g, cap, cur, h, h1, h2, h3, h4, h5, h6⟩
      · simp only [Value.slice.injEq] at h; omega
      · simp only [Value.slice.injEq] at h
        obtain ⟨rfl, _, rfl⟩ := h
        rw [hl] at h3 h6
        exact ⟨g, cur, rfl, h1, h2, h3, h4, h5, h6⟩
    have hgv : g ≠ vb := hne g rfl
    have hc63 : c ≤ 9223372036854775807 := by unfold maxLen at hcm; omega
    have hFL := hx.opens.flat
    have HFT := Lib.hid (hFL.take P)
    have hfd := hFL.drop P (by omega)
    rw [Addr.add_lit, Nat.zero_add] at hfd
    have HFD := Lib.hid hfd
    have HTL : Hid ((os.take P).length = P) := Lib.hid (by rw [List.length_take]; omega)
    have HDL : Hid ((os.drop P).length = n - P) := Lib.hid (by rw [List.length_drop]; omega)
    have hi2 : ¬ ((P : Int) = (n : Int)) := by omega
    have hw1 : IntKind.i64.wrap ((P : Int) + 1) = (P : Int) + 1 := IntWalk.i64_in _ (by omega)
    have htn : ((P : Int) + 1).toNat = P + 1 := by omega
    have hb1 : (0 : Int) ≤ (P : Int) + 1 := by omega
    have hPn : (P : Int) ≤ (n : Int) := by omega
    by_cases hroom : n + 1 ≤ c
    · have hgr : ¬ (c : Int) < (n : Int) + 1 := by omega
      have hcP : ¬ c = P := by omega
      have hcP1 : ¬ c = P + 1 := by omega
      have hPn1 : (P : Int) ≤ (n : Int) + 1 := by omega
      have hov : ∀ lb cb, (callFunc 92 #[.slice (some ⟨vb, 0, none⟩) 1 1, .slice (some ⟨g, (P + 1) * 4, none⟩) lb cb]).run Try.prog w = .ok (.value (.bool false)) w := fun lb cb => by
        rw [run_callFunc_extern Try.func92 (by kernel_rfl) (by kernel_rfl) (by kernel_rfl) (e := Extern.SlicesOverlaps.overlaps #[28, 28] #[4]) (by kernel_rfl),
          run_overlaps_apart w 28 4 34 Try.underlying28 4 Try.sizeOf34 ⟨vb, 0, none⟩ ⟨g, (P + 1) * 4, none⟩ 1 1 lb cb (fun e => hgv e.symm) 34 34 4 cur.size (by unfold World.shape?; rw [hv]; rfl) (by unfold World.shape?; rw [hgc]) (by omega) (unmarked hv 0) (unmarked hv 4)]
        rfl
      have HGC := Lib.hid hgc
      have HTK := Lib.hid htk
      clear hx hl hxo hv hne hgc htk hFL hfd
      go_enter Try.func58, Try.ntmps58
      go_wp2_with (simp only [hov])
      go_region_law (refine step_copy_opn rfl (.tmp 73) (.tmp 76) rfl g ((P + 1) * 4) (n - P) (c - (P + 1)) ⟨g, P * 4, none⟩ (n + 1 - P) (c - P) (by simp [Act.eval, Act.put]) (by simp [Act.eval, Act.put]) cur (os.drop P) (by first | exact HGC.out | exact (Ext.refl _).drew.block HGC.out) (by rw [HDL.out]; simp only [Nat.min_def]; split <;> omega) (by first | exact HFD.out.ext (Ext.refl _).drew | exact HFD.out) (by rw [HDL.out]; omega) ?_; intro w4 h4 g4)
      all_goals
        obtain ⟨R4, h4', h4l⟩ : ∃ R4 : Array Value, w4.heap[g]? = some (.cells R4 34 (0, 0)) ∧ R4.toList = cur.toList.take (P * 4 + 4) ++ (os.drop P).flatMap opnC ++ cur.toList.drop (P * 4 + 4 + (n - P) * 4) := ⟨_, h4, by rw [HDL.out, show (P + 1) * 4 = P * 4 + 4 by omega]⟩
        have hR4 : R4.size = c * 4 := by
          rw [← hcs, ← Array.length_toList, h4l]
          have : ((os.drop P).flatMap opnC).length = (n - P) * 4 := by rw [flat_length, HDL.out]
          simp only [List.length_append, List.length_take, List.length_drop, Array.length_toList, this]; omega
        have H4 := Lib.hid h4'
        have HL4 := Lib.hid h4l
        have HG4 : Hid (w.grownBy w4 (some g)) := Lib.hid ((grown_ext_by (World.grownBy.refl _ (some g)) (Ext.refl _).drew).trans g4)
        have HV4 := Lib.hid (HFV.out _ ((HG4.out.block vb (lt_of_block HV.out) (fun e => hgv (Option.some.inj e).symm)).trans HV.out))
        clear h4 h4' h4l g4
        go_wp2_with (refine wpList_copy_opn _ rfl _ _ rfl g (P * 4) (n + 1 - P) _ ⟨vb, 0, none⟩ 1 1 rfl rfl R4 [x] H4.out (by simp only [Nat.min_def, List.length_singleton]; split <;> omega) HV4.out (by rw [List.length_singleton]; omega) ?_)
        intro w5 h5 g5
        obtain ⟨R5, h5', h5l⟩ : ∃ R5 : Array Value, w5.heap[g]? = some (.cells R5 34 (0, 0)) ∧ R5.toList = R4.toList.take (P * 4) ++ opnC x ++ R4.toList.drop (P * 4 + 4) := ⟨_, h5, by simp⟩
        have hR5 : R5.size = c * 4 := by
          rw [← hR4, ← Array.length_toList, h5l]
          have : (opnC x).length = 4 := rfl
          simp only [List.length_append, List.length_take, List.length_drop, Array.length_toList, this]; omega
        have hT5 : R5.toList.take ((n + 1) * 4) = (os.take P ++ x :: os.drop P).flatMap opnC := by
          have hA : (cur.toList.take (P * 4)).length = P * 4 := by rw [List.length_take, Array.length_toList]; omega
          have hC : ((os.drop P).flatMap opnC).length = (n - P) * 4 := by rw [flat_length, HDL.out]
          have ha : cur.toList.take (P * 4) = (os.take P).flatMap opnC := by
            have h1 := congrArg (List.take (P * 4)) HTK.out
            rw [List.take_take, Nat.min_eq_left (by omega)] at h1
            rw [h1]
            have h2 : os = os.take P ++ os.drop P := (List.take_append_drop P os).symm
            conv => lhs; rw [h2]
            rw [List.flatMap_append, List.take_append_of_le_length (by rw [flat_length, HTL.out]; omega), List.take_of_length_le (by rw [flat_length, HTL.out]; omega)]
          rw [h5l, HL4.out, show (n + 1) * 4 = P * 4 + 4 + (n - P) * 4 by omega, ins_take2 hA ha rfl hC (by rw [Array.length_toList]; omega), List.flatMap_append, List.flatMap_cons, List.append_assoc]
        have HO5 := Lib.hid (OwnOpens.of_cells (base := base) (n := n + 1) hbg h5' HLN.out hroom hcm hR5 hT5 HOK.out)
        have HG5 : Hid (w.grownBy w5 (some g)) := Lib.hid (HG4.out.trans g5)
        clear h5 h5' h5l g5 hR5 hT5 hR4
        go_wp2
        go_ret
        exact RetIns.mk HO5.out HG5.out
    · have hcn : c = n := by omega
      subst hcn
      have hgr : (c : Int) < (c : Int) + 1 := by omega
      have hcP : ¬ c = P := by omega
      have HGC := Lib.hid hgc
      have HHX := Lib.hid htk
      clear hx hl hxo hv hne hgc htk hFL hfd hcs
      go_enter Try.func58, Try.ntmps58
      go_wp2_with (at_builtin; refine wpList_make_opn _ rfl _ _ rfl ⟨g, 0, none⟩ P c _ (c + 1 - P) rfl rfl (by omega) (os.take P) HTL.out HFT.out (by omega) (by omega) (by omega) ?_)
      rw [show P + (c + 1 - P) = c + 1 by omega]
      intro w3 ROW G h3 hR hG hGm hT e3
      have H3 := Lib.hid h3
      have HE3 := Lib.hid e3
      have HT := Lib.hid hT
      have hG63 : G ≤ 9223372036854775807 := by unfold maxLen at hGm; omega
      have hGP : ¬ G = P := by omega
      have hGP1 : ¬ G = P + 1 := by omega
      have HFX := Lib.hid (HFV.out _ (e3.block HV.out))
      have HSZ : Hid (w.heap.size ≠ vb ∧ g < w.heap.size) := Lib.hid ⟨fun e => by have := lt_of_block HV.out; omega, lt_of_block HGC.out⟩
      obtain ⟨h, hh⟩ : ∃ h, w.heap.size = h := ⟨_, rfl⟩
      rw [hh] at H3 HSZ ⊢
      have HHH := Lib.hid hh
      clear h3 e3 hT hh
      go_wp2_with (refine wpList_copy_opn _ rfl _ _ rfl h (P * 4) (c + 1 - P) _ ⟨vb, 0, none⟩ 1 1 rfl rfl ROW [x] H3.out (by simp only [Nat.min_def, List.length_singleton]; split <;> omega) HFX.out (by rw [List.length_singleton]; omega) ?_)
      intro w4 h4 g4
      obtain ⟨R4, h4', h4l⟩ : ∃ R4 : Array Value, w4.heap[h]? = some (.cells R4 34 (0, 0)) ∧ R4.toList = ROW.toList.take (P * 4) ++ opnC x ++ ROW.toList.drop (P * 4 + 4) := ⟨_, h4, by simp⟩
      have H4 := Lib.hid h4'
      have HL4 := Lib.hid h4l
      have HG4 := Lib.hid g4
      have HE4 : Hid (Ext w w4) := Lib.hid (HE3.out.grown g4 (fun k hk => by cases hk; rw [HHH.out]; exact Nat.le_refl _))
      have HFD4 := Lib.hid (HFD.out.ext HE4.out)
      have hR4 : R4.size = G * 4 := by
        rw [← hR, ← Array.length_toList, h4l, ← Array.length_toList]
        have : (opnC x).length = 4 := rfl
        simp only [List.length_append, List.length_take, List.length_drop, Array.length_toList, this]; omega
      clear h4 h4' h4l g4
      go_upto_region 11 with fail
      go_region_law (refine step_copy_opn rfl (.tmp 50) (.tmp 53) rfl h ((P + 1) * 4) (c - P) (G - (P + 1)) ⟨g, P * 4, none⟩ (c - P) (c - P) (by simp [Act.eval, Act.put]) (by simp [Act.eval, Act.put]) R4 (os.drop P) (by first | exact H4.out | exact (Ext.refl _).drew.block H4.out) (by rw [HDL.out]; simp only [Nat.min_def]; split <;> omega) (by first | exact HFD4.out.ext (Ext.refl _).drew | exact HFD4.out) (by rw [HDL.out]; omega) ?_; intro w5 h5 g5)
      all_goals
        obtain ⟨R5, h5', h5l⟩ : ∃ R5 : Array Value, w5.heap[h]? = some (.cells R5 34 (0, 0)) ∧ R5.toList = R4.toList.take (P * 4 + 4) ++ (os.drop P).flatMap opnC ++ R4.toList.drop (P * 4 + 4 + (c - P) * 4) := ⟨_, h5, by rw [HDL.out, show (P + 1) * 4 = P * 4 + 4 by omega]⟩
        have hR5 : R5.size = G * 4 := by
          rw [← hR4, ← Array.length_toList, h5l]
          have : ((os.drop P).flatMap opnC).length = (c - P) * 4 := by rw [flat_length, HDL.out]
          simp only [List.length_append, List.length_take, List.length_drop, Array.length_toList, this]; omega
        have hT5 : R5.toList.take ((c + 1) * 4) = (os.take P ++ x :: os.drop P).flatMap opnC := by
          have hA : (ROW.toList.take (P * 4)).length = P * 4 := by rw [List.length_take, Array.length_toList]; omega
          have hC : ((os.drop P).flatMap opnC).length = (c - P) * 4 := by rw [flat_length, HDL.out]
          rw [h5l, HL4.out, show (c + 1) * 4 = P * 4 + 4 + (c - P) * 4 by omega, ins_take hA HT.out rfl hC, List.flatMap_append, List.flatMap_cons, List.append_assoc]
        have HO5 := Lib.hid (OwnOpens.of_cells (base := base) (n := c + 1) (by rw [← HHH.out]; exact hbase) h5' HLN.out hG hGm hR5 hT5 HOK.out)
        have HG5 : Hid (w.grownBy w5 (some g)) := Lib.hid (by
          have e5 : Ext w w5 := HE4.out.drew.grown g5 (fun k hk => by cases hk; rw [HHH.out]; exact Nat.le_refl _)
          exact grown_ext_by (World.grownBy.refl _ _) e5)
        clear h5 h5' h5l g5 hR5 hT5 hR4 hR
        go_wp2
        go_ret
        exact RetIns.mk HO5.out HG5.out
end Go.Proofs.Ytnhmcmohnpbcjaa
