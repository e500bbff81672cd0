/- A front as seen from the other side: both sides. -/
import Derived.Test.YtnhmcmohnpbcjaaSortO
import Derived.Test.YtnhmcmohnpbcjaaGaFd
namespace Go.Proofs.Ytnhmcmohnpbcjaa
open Go.RowKit
set_option linter.unusedSimpArgs false
set_option linter.unusedVariables false
set_option linter.unnecessarySimpa false

/-- an opening from the other side -/
def mirO (L : Int) (o : Opn) : Opn := ⟨L - o.en, L - o.fr, o.lo, o.hi⟩
def mirL (L : Int) (os : List Opn) : List Opn := os.map (mirO L)
theorem mirL_len (L : Int) (os : List Opn) : (mirL L os).length = os.length := by simp [mirL]
theorem mirL_at (L : Int) {os : List Opn} {k : Nat} (h : k < os.length) : (mirL L os).getD k default = mirO L (os.getD k default) := by
  unfold mirL
  rw [List.getD_eq_getElem?_getD, List.getElem?_map, List.getElem?_eq_getElem h, List.getD_eq_getElem?_getD, List.getElem?_eq_getElem h]; rfl
theorem mirL_take (L : Int) {os : List Opn} {k : Nat} (h : k < os.length) : (mirL L os).take (k + 1) = (mirL L os).take k ++ [mirO L (os.getD k default)] := by
  have h2 : k < (mirL L os).length := by rw [mirL_len]; exact h
  rw [List.take_succ_eq_append_getElem h2, ← getD_lt h2, mirL_at L h]
theorem mirO_opn {L C : Int} {o : Opn} (h : isOpn L C o = true) : isOpn L C (mirO L o) = true := by
  rw [isOpn_all] at *
  unfold mirO
  dsimp only
  omega
def mirF (L : Int) (os : List Opn) : List Opn := insTo (mirL L os) os.length
/-- .. as seeing a front from the other side does -/
def RetMir (L C : Int) (os : List Opn) (w : World) (e : Ending) (w' : World) : Prop :=
  if validF L C os then RetFrC L C (mirF L os) 0 w e w' else RetFrC 0 0 [] 1 w e w'
theorem mirF_len (L : Int) (os : List Opn) : (mirF L os).length = os.length := insTo_len _ _ (by rw [mirL_len]; exact Nat.le_refl _)
/-- a box of the call's own that holds a front, its openings in memory of the call's own -/
structure OB (mb base : Nat) (L C : Int) (a : Option Addr) (m cap : Nat) (os : List Opn) (W : World) : Prop where
  box : W.heap[mb]? = some (.cells #[.int .i64 L, .int .i64 C, .slice a m cap] 30 (0, 0))
  own : OwnOpens W base (.slice a m cap) os
  len : os.length = m
  ne : ∀ j, (Value.slice a m cap).ownBlock = some j → j ≠ mb
theorem OB.ext {mb base : Nat} {L C : Int} {a : Option Addr} {m cap : Nat} {os : List Opn} {W W' : World} (h : OB mb base L C a m cap os W) (e : Ext W W') : OB mb base L C a m cap os W' := ⟨e.block h.box, h.own.ext e, h.len, h.ne⟩
theorem OB.put {mb base base' : Nat} {L C : Int} {a a' : Option Addr} {m cap m' cap' : Nat} {os os' : List Opn} {W : World} (h : OB mb base L C a m cap os W) (ho : OwnOpens W base' (.slice a' m' cap') os') (hb : base ≤ base') (hl : os'.length = m') (hne : ∀ j, (Value.slice a' m' cap').ownBlock = some j → j ≠ mb) :
    OB mb base L C a' m' cap' os' (W.setCell ⟨mb, 2, none⟩ (.slice a' m' cap')) :=
  ⟨heap_setC 2 _ h.box, (ho.setOther (fun j hj e => hne j hj e.symm) _).mono hb, hl, hne⟩
theorem OB.mk2 {mb base : Nat} {L C : Int} {u : Value} {a' : Option Addr} {m' cap' : Nat} {os' : List Opn} {W : World} (h : W.heap[mb]? = some (.cells #[.int .i64 L, .int .i64 C, u] 30 (0, 0))) (ho : OwnOpens W base (.slice a' m' cap') os') (hl : os'.length = m') (hne : ∀ j, (Value.slice a' m' cap').ownBlock = some j → j ≠ mb) :
    OB mb base L C a' m' cap' os' (W.setCell ⟨mb, 2, none⟩ (.slice a' m' cap')) :=
  ⟨heap_setC 2 _ h, ho.setOther (fun j hj e => hne j hj e.symm) _, hl, hne⟩
theorem OB.cells {mb base : Nat} {L C : Int} {a : Option Addr} {m cap : Nat} {os : List Opn} {W : World} (h : OB mb base L C a m cap os W) :
    W.cell? ⟨mb, 0, none⟩ = some (.int .i64 L) ∧ W.cell? ⟨mb, 1, none⟩ = some (.int .i64 C) ∧ W.cell? ⟨mb, 2, none⟩ = some (.slice a m cap) ∧ W.frozen? ⟨mb, 2, none⟩ = false ∧ mb < W.heap.size := by
  obtain ⟨b0, b1, b2, _, _, f2, l⟩ := three_cells h.box
  exact ⟨b0, b1, b2, f2, l⟩
/-- the two boxes of the call -/
abbrev mirW (w : World) (L C : Int) (v : Value) : World := (w.alloc (.cells #[.int .i64 L, .int .i64 C, v] 30)).alloc (.cells #[.int .i64 0, .int .i64 0, .slice none 0 0] 30)
theorem mirW_ext (w : World) (L C : Int) (v : Value) : Ext w (mirW w L C v) := ((Ext.refl w).alloc _).alloc _
theorem mirW_three (w : World) (L C : Int) (v : Value) : Three (mirW w L C v) w.heap.size (.int .i64 L) (.int .i64 C) v :=
  (Three.new w (.int .i64 L) (.int .i64 C) v 30).ext ((Ext.refl _).alloc _)
theorem mirW_res (w : World) (L C : Int) (v : Value) : (mirW w L C v).heap[w.heap.size + 1]? = some (.cells #[.int .i64 0, .int .i64 0, .slice none 0 0] 30 (0, 0)) := blk_at _ _ _ (by simp)
set_option maxRecDepth 100000 in
set_option maxHeartbeats 4000000 in
theorem s_MirrorFront (L C : Int) (ao : Option Addr) (n c : Nat) (os : List Opn) (w : World) (hx : Opens w ao n os) :
    Calls Try.prog 28 #[.agg #[.int .i64 L, .int .i64 C, .slice ao n c]] w (RetMir L C os w) := by
  have hl := hx.1
  have HW := Lib.hid (mirW_ext w L C (.slice ao n c))
  have HA := Lib.hid (mirW_three w L C (.slice ao n c))
  have HR := Lib.hid (mirW_res w L C (.slice ao n c))
  have HX := Lib.hid (hx.ext HW.out)
  have HV := Lib.hid (s_l09Ok w.heap.size L C ao n c os _ HA.out HX.out)
  obtain ⟨WA, hWA⟩ : ∃ W, mirW w L C (.slice ao n c) = W := ⟨_, rfl⟩
  rw [hWA] at HW HA HR HX HV
  cases hv : validF L C os with
  | false =>
    have HC : Hid (RetMir L C os w = RetFrC 0 0 [] 1 w) := Lib.hid (by funext e w'; unfold RetMir; rw [hv]; rfl)
    rw [hv] at HV
    clear hv hx
    go_enter Try.func28, Try.ntmps28
    go_wp2_with fail
    clear hWA
    refine HV.out.mono ?_
    rintro e w1 ⟨rfl, e1⟩
    have EE := Lib.hid e1
    clear e1
    obtain ⟨r0, r1, r2, g0, g1, g2, _⟩ := three_cells (EE.out.block HR.out)
    go_wp2
    have hb := heap_setC 2 (.slice none 0 0) (heap_setC 1 (.int .i64 0) (heap_setC 0 (.int .i64 0) (EE.out.block HR.out)))
    obtain ⟨y0, y1, y2, _⟩ := three_cells hb
    refine bodyPost_ret (v := .tuple #[.agg #[.int .i64 0, .int .i64 0, .slice none 0 0], .int .i64 1]) (by simp [results, Try.results28, go_sem, y0, y1, y2]) rfl ?_
    rw [HC.out]
    exact ⟨none, 0, rfl, OwnOpens.nilv _ _, ext_set3 (HW.out.trans EE.out) (Nat.le_succ _) _ _ _⟩
  | true =>
    have HC : Hid (RetMir L C os w = RetFrC L C (mirF L os) 0 w) := Lib.hid (by funext e w'; unfold RetMir; rw [hv]; rfl)
    obtain ⟨⟨L1, L2⟩, ⟨C1, C2⟩, n8, hok⟩ := validF_bd hv
    rw [hv] at HV
    have HOK := Lib.hid hok
    have hn8 : n ≤ 8 := by omega
    clear hv hx hok n8
    go_enter Try.func28, Try.ntmps28
    go_wp2_with fail
    clear hWA
    refine HV.out.mono ?_
    rintro e w1 ⟨rfl, e1⟩
    have E1 := Lib.hid e1
    clear e1
    obtain ⟨t0, t1, t2, _⟩ := HA.out.ext E1.out
    go_upto_region 4 with fail
    have HB : Hid (OB (w1.heap.size + 1) (w.heap.size + 2) L C (some ⟨w1.heap.size, 0, none⟩) 0 0 [] ((w1.alloc (.cells #[] 34)).alloc (.cells #[.int .i64 L, .int .i64 C, .slice (some ⟨w1.heap.size, 0, none⟩) 0 0] 30))) := Lib.hid
      ⟨blk_at _ _ _ (by simp), ((OwnOpens.empty (Ext.refl w1)).ext ((Ext.refl _).alloc _)).mono (by have := lt_of_block (E1.out.block HR.out); omega), rfl, fun j hj e => by simp [Value.ownBlock] at hj; omega⟩
    have HE0 : Hid (Ext w1 ((w1.alloc (.cells #[] 34)).alloc (.cells #[.int .i64 L, .int .i64 C, .slice (some ⟨w1.heap.size, 0, none⟩) 0 0] 30))) := Lib.hid (((Ext.refl _).alloc _).alloc _)
    have HMB : Hid (w1.heap.size ≤ w1.heap.size + 1) := Lib.hid (Nat.le_succ _)
    obtain ⟨mb, hmb⟩ : ∃ b, w1.heap.size + 1 = b := ⟨_, rfl⟩
    obtain ⟨W2, hW2⟩ : ∃ W, (w1.alloc (.cells #[] 34)).alloc (.cells #[.int .i64 L, .int .i64 C, .slice (some ⟨w1.heap.size, 0, none⟩) 0 0] 30) = W := ⟨_, rfl⟩
    rw [hW2] at HB HE0 ⊢
    rw [hmb] at HB HMB ⊢
    clear hW2 hmb t0 t1 t2
    go_wp2
    go_loopw [5] (fun i wr => ∃ (k : Nat) (a : Option Addr) (m cap : Nat), k ≤ n ∧ i = .int .i64 k ∧ Hid (OB mb (w.heap.size + 2) L C a m cap (insTo (mirL L os) k) wr) ∧ Hid (Ext w1 wr)) (fun i _ => n - (intOf i).toNat)
    case atStart => exact ⟨0, _, 0, 0, Nat.zero_le _, rfl, HB, HE0⟩
    case round =>
      obtain ⟨k, a, m, cap, hk, rfl, HO, ER⟩ := hrel
      obtain ⟨t0, t1, t2, _⟩ := HA.out.ext (E1.out.trans ER.out)
      obtain ⟨m0, m1, m2, mf, ml⟩ := HO.out.cells
      by_cases hlt : k < n
      · have hki : (k : Int) < (n : Int) := by omega
        have hko : k < os.length := by omega
        have hop := okTo_opn HOK.out hko
        obtain ⟨bb, off, rfl, c0, c1, c2, c3⟩ := (HX.out.ext (E1.out.trans ER.out)).2.2.1 k hlt
        have hsu := insTo_succ (os := mirL L os) (k := k) (by rw [mirL_len]; exact hko)
        rw [mirL_at L hko] at hsu
        have hlen := HO.out.len
        rw [insTo_len _ k (by rw [mirL_len]; omega)] at hlen
        subst hlen
        have hPL := putO_len (insTo (mirL L os) k) (mirO L (os.getD k default))
        rw [insTo_len _ k (by rw [mirL_len]; omega)] at hPL
        have hmo := isOpn_ok (mirO_opn hop) L2 C2
        have hPut := fun W (e : Ext wr W) => s_l09Put a k cap (insTo (mirL L os) k) (mirO L (os.getD k default)) W (HO.out.own.opens.ext e) HO.out.own.cap HO.out.own.nilcap (by omega) HO.out.own.capmax hmo
        rw [isOpn_all] at hop
        obtain ⟨o, ho⟩ : ∃ o, os.getD k default = o := ⟨_, rfl⟩
        rw [ho] at c0 c1 c2 c3 hop hsu hPL hPut
        obtain ⟨ps, hps⟩ : ∃ ps, putO (insTo (mirL L os) k) (mirO L o) = ps := ⟨_, rfl⟩
        rw [hps] at hPL hPut hsu
        unfold RetOpens at hPut
        rw [hPL] at hPut
        have HPL := Lib.hid hPL
        have HPut := Lib.hid hPut
        have HSU := Lib.hid hsu
        obtain ⟨x1, x2, x3, x4⟩ := o
        dsimp only at c0 c1 c2 c3 hop
        have HW7 : Hid (Ext wr (wr.alloc (.cells #[.int .i64 x1, .int .i64 x2, .int .i64 x3, .int .i64 x4] 34))) := Lib.hid ((Ext.refl _).alloc _)
        clear hsu hPL hPut ho hps hmo hko
        go_wp2_with fail
        refine (HPut.out _ HW7.out).mono ?_
        rintro e w3 ⟨a3, cp3, rfl, o3, e3⟩
        have E3 := Lib.hid (HW7.out.trans e3)
        have HO3 := Lib.hid o3
        have HOB := Lib.hid (HO.out.ext E3.out)
        obtain ⟨n0, n1, n2, nf, nl⟩ := HOB.out.cells
        have HNE : Hid (∀ j, (Value.slice a3 (k + 1) cp3).ownBlock = some j → j ≠ mb) := Lib.hid (fun j hj e => by
          have := (HO3.out.1.lt j hj).1
          rw [World.size_alloc] at this
          omega)
        have HNB := Lib.hid (HOB.out.put HO3.out (by have h1 := lt_of_block (E1.out.block HR.out); have h2 := ER.out.size; rw [World.size_alloc]; omega) HPL.out HNE.out)
        have HEE : Hid (Ext w1 (w3.setCell ⟨mb, 2, none⟩ (.slice a3 (k + 1) cp3))) := Lib.hid (Ext.setCell (ER.out.trans E3.out) HMB.out _)
        clear o3 e3 c0 c1 c2 c3 t0 t1 t2 m0 m1 m2 mf
        go_wp2
        go_roundw
        case rel => first | exact ⟨k + 1, a3, k + 1, cp3, by omega, by go_num, by rw [HSU.out]; exact HNB, HEE⟩ | ((repeat apply Exists.intro); exact ⟨⟨k + 1, a3, k + 1, cp3, by omega, by go_num, by rw [HSU.out]; exact HNB, HEE⟩, rfl⟩)
        case measure => (simp [intOf] <;> omega)
      · obtain rfl : k = n := by omega
        have HM : Hid (insTo (mirL L os) k = mirF L os) := Lib.hid (by unfold mirF; rw [hl])
        have HLM : Hid ((mirF L os).length = m) := Lib.hid (by rw [← HM.out]; exact HO.out.len)
        have HOW := Lib.hid HO.out.own
        rw [HM.out] at HOW
        obtain ⟨r0, r1, r2, g0, g1, g2, _⟩ := three_cells ((E1.out.trans ER.out).block HR.out)
        go_wp2
        have hb := heap_setC 2 (.slice a m cap) (heap_setC 1 (.int .i64 C) (heap_setC 0 (.int .i64 L) ((E1.out.trans ER.out).block HR.out)))
        obtain ⟨y0, y1, y2, _⟩ := three_cells hb
        refine bodyPost_ret (v := .tuple #[.agg #[.int .i64 L, .int .i64 C, .slice a m cap], .int .i64 0]) (by simp [results, Try.results28, go_sem, y0, y1, y2]) rfl ?_
        rw [HC.out]
        unfold RetFrC
        rw [HLM.out]
        exact ⟨a, cap, rfl, ((((HOW.out.setBelow (by dsimp only; omega) _).setBelow (by dsimp only; omega) _).setBelow (by dsimp only; omega) _).mono (by omega)), ext_set3 (HW.out.trans (E1.out.trans ER.out)) (Nat.le_succ _) _ _ _⟩
set_option maxRecDepth 100000 in
set_option maxHeartbeats 4000000 in
theorem i_MirrorFront (L C : Int) (ao : Option Addr) (n c : Nat) (os : List Opn) (w : World) (hx : Opens w ao n os) (hnc : n ≤ c) :
    Calls Try.prog 29 #[.agg #[.int .i64 L, .int .i64 C, .slice ao n c]] w (RetMir L C os w) := by
  have hl := hx.1
  have HW := Lib.hid (mirW_ext w L C (.slice ao n c))
  have HA := Lib.hid (mirW_three w L C (.slice ao n c))
  have HR := Lib.hid (mirW_res w L C (.slice ao n c))
  have HX := Lib.hid (hx.ext HW.out)
  have HV := Lib.hid (i_ValidFront L C ao n c os _ HX.out hnc)
  obtain ⟨WA, hWA⟩ : ∃ W, mirW w L C (.slice ao n c) = W := ⟨_, rfl⟩
  rw [hWA] at HW HA HR HX HV
  cases hv : validF L C os with
  | false =>
    have HC : Hid (RetMir L C os w = RetFrC 0 0 [] 1 w) := Lib.hid (by funext e w'; unfold RetMir; rw [hv]; rfl)
    rw [hv] at HV
    clear hv hx
    obtain ⟨t0, t1, t2, _⟩ := HA.out
    go_enter Try.func29, Try.ntmps29
    go_wp2_with fail
    clear hWA t0 t1 t2
    refine HV.out.mono ?_
    rintro e w1 ⟨rfl, e1⟩
    have EE := Lib.hid e1
    clear e1
    obtain ⟨r0, r1, r2, g0, g1, g2, _⟩ := three_cells (EE.out.block HR.out)
    go_wp2
    have hb := heap_setC 2 (.slice none 0 0) (heap_setC 1 (.int .i64 0) (heap_setC 0 (.int .i64 0) (EE.out.block HR.out)))
    obtain ⟨y0, y1, y2, _⟩ := three_cells hb
    refine bodyPost_ret (v := .tuple #[.agg #[.int .i64 0, .int .i64 0, .slice none 0 0], .int .i64 1]) (by simp [results, Try.results29, go_sem, y0, y1, y2]) rfl ?_
    rw [HC.out]
    exact ⟨none, 0, rfl, OwnOpens.nilv _ _, ext_set3 (HW.out.trans EE.out) (Nat.le_succ _) _ _ _⟩
  | true =>
    have HC : Hid (RetMir L C os w = RetFrC L C (mirF L os) 0 w) := Lib.hid (by funext e w'; unfold RetMir; rw [hv]; rfl)
    obtain ⟨⟨L1, L2⟩, ⟨C1, C2⟩, n8, hok⟩ := validF_bd hv
    rw [hv] at HV
    have HOK := Lib.hid hok
    have hn8 : n ≤ 8 := by omega
    clear hv hx hok n8
    obtain ⟨t0, t1, t2, _⟩ := HA.out
    go_enter Try.func29, Try.ntmps29
    go_wp2_with fail
    clear hWA t0 t1 t2
    refine HV.out.mono ?_
    rintro e w1 ⟨rfl, e1⟩
    have E1 := Lib.hid e1
    clear e1
    obtain ⟨t0, t1, t2, _⟩ := HA.out.ext E1.out
    go_upto_region 4 with fail
    have HB : Hid (OB w1.heap.size (w1.heap.size + 1) L C none 0 0 [] (w1.alloc (.cells #[.int .i64 L, .int .i64 C, .slice none 0 0] 30))) := Lib.hid
      ⟨blk_at _ _ _ rfl, OwnOpens.nilv _ _, rfl, fun j hj => by simp [Value.ownBlock] at hj⟩
    have HE0 : Hid (Ext w1 (w1.alloc (.cells #[.int .i64 L, .int .i64 C, .slice none 0 0] 30))) := Lib.hid ((Ext.refl _).alloc _)
    have HMB : Hid (w1.heap.size ≤ w1.heap.size) := Lib.hid (Nat.le_refl _)
    obtain ⟨mb, hmb⟩ : ∃ b, w1.heap.size = b := ⟨_, rfl⟩
    have HSM : Hid (w.heap.size + 1 < mb) := Lib.hid (by rw [← hmb]; exact lt_of_block (E1.out.block HR.out))
    obtain ⟨W2, hW2⟩ : ∃ W, w1.alloc (.cells #[.int .i64 L, .int .i64 C, .slice none 0 0] 30) = W := ⟨_, rfl⟩
    rw [hW2] at HB HE0 ⊢
    rw [hmb] at HB ⊢
    have HMB : Hid (w1.heap.size ≤ mb) := Lib.hid (by omega)
    clear hW2 hmb t0 t1 t2
    obtain ⟨t0, t1, t2, _⟩ := HA.out.ext (E1.out.trans HE0.out)
    go_wp2
    clear t0 t1 t2
    go_loopw [19] (fun i wr => ∃ (k : Nat) (a : Option Addr) (m cap : Nat), k ≤ n ∧ i = .int .i64 k ∧ Hid (OB mb (mb + 1) L C a m cap ((mirL L os).take k) wr) ∧ Hid (Ext w1 wr)) (fun i _ => n - (intOf i).toNat)
    case atStart => exact ⟨0, _, 0, 0, Nat.zero_le _, rfl, HB, HE0⟩
    case round =>
      obtain ⟨k, a, m, cap, hk, rfl, HO, ER⟩ := hrel
      obtain ⟨t0, t1, t2, _⟩ := HA.out.ext (E1.out.trans ER.out)
      obtain ⟨m0, m1, m2, mf, ml⟩ := HO.out.cells
      by_cases hlt : k < n
      · have hki : (k : Int) < (n : Int) := by omega
        have hko : k < os.length := by omega
        have hop := okTo_opn HOK.out hko
        obtain ⟨bb, off, rfl, c0, c1, c2, c3⟩ := (HX.out.ext (E1.out.trans ER.out)).2.2.1 k hlt
        have hsu := mirL_take L hko
        have hlen := HO.out.len
        rw [List.length_take, mirL_len, Nat.min_eq_left (by omega)] at hlen
        subst hlen
        have HLK : Hid (((mirL L os).take k).length = k) := Lib.hid HO.out.len
        have hmo := isOpn_ok (mirO_opn hop) L2 C2
        rw [isOpn_all] at hop
        obtain ⟨o, ho⟩ : ∃ o, os.getD k default = o := ⟨_, rfl⟩
        rw [ho] at c0 c1 c2 c3 hop hsu hmo
        have HSU := Lib.hid hsu
        have HMO := Lib.hid hmo
        obtain ⟨x1, x2, x3, x4⟩ := o
        dsimp only at c0 c1 c2 c3 hop
        have HFN := Lib.hid (show FlatAt ((wr.alloc (.cells #[.int .i64 x1, .int .i64 x2, .int .i64 x3, .int .i64 x4] 34)).alloc (.cells #[.int .i64 (L - x2), .int .i64 (L - x1), .int .i64 x3, .int .i64 x4] 34)) ⟨wr.heap.size + 1, 0, none⟩ [mirO L ⟨x1, x2, x3, x4⟩] from by
          have := FlatAt.fresh (wr.alloc (.cells #[.int .i64 x1, .int .i64 x2, .int .i64 x3, .int .i64 x4] 34)) (mirO L ⟨x1, x2, x3, x4⟩) 34
          rwa [World.size_alloc] at this)
        have HE7 : Hid (Ext wr ((wr.alloc (.cells #[.int .i64 x1, .int .i64 x2, .int .i64 x3, .int .i64 x4] 34)).alloc (.cells #[.int .i64 (L - x2), .int .i64 (L - x1), .int .i64 x3, .int .i64 x4] 34))) := Lib.hid (((Ext.refl _).alloc _).alloc _)
        clear hsu hmo ho hko
        go_wp2_with (at_builtin; refine wpList_append_opens (base := mb + 1) rfl _ _ rfl _ ((mirL L os).take k) rfl (HO.out.own.ext HE7.out) (Nat.le_trans ml HE7.out.size) _ 1 1 [mirO L ⟨x1, x2, x3, x4⟩] rfl rfl HFN.out (by intro o ho; rw [List.mem_singleton] at ho; subst ho; exact HMO.out) (by rw [HLK.out]; omega) ?_)
        intro v3 w3 ho3 hg3
        rw [← HSU.out] at ho3
        obtain ⟨a3, m3, cp3, rfl⟩ : ∃ a m c, v3 = .slice a m c := by rcases ho3.1.2 with ⟨h, _⟩ | ⟨_, _, _, h, _⟩ <;> exact ⟨_, _, _, h⟩
        have hl3 := ho3.1
        have HO3 := Lib.hid ho3
        have HL3 : Hid (((mirL L os).take (k + 1)).length = m3) := Lib.hid (by have := ho3.recs4.len; rwa [List.length_map] at this)
        have HE3 : Hid (Ext w1 w3) := Lib.hid ((ER.out.trans HE7.out).grown hg3 (fun j hj => by have h1 := (HO.out.own.1.lt j hj).1; have h2 := HMB.out; omega))
        have HB3 := Lib.hid (blk_grownS (HE7.out.block HO.out.box) hg3 (fun e => by have h1 := (HO.out.own.1.lt mb e.symm).1; omega))
        have HNE : Hid (∀ j, (Value.slice a3 m3 cp3).ownBlock = some j → j ≠ mb) := Lib.hid (fun j hj e => by
          have := (HO3.out.1.lt j hj).1
          omega)
        have HNB := Lib.hid (OB.mk2 HB3.out HO3.out HL3.out HNE.out)
        have HEE : Hid (Ext w1 (w3.setCell ⟨mb, 2, none⟩ (.slice a3 m3 cp3))) := Lib.hid (Ext.setCell HE3.out HMB.out _)
        obtain ⟨n0, n1, n2, _, _, nf, _⟩ := three_cells HB3.out
        clear ho3 hg3 hl3 c0 c1 c2 c3 t0 t1 t2 m0 m1 m2 mf ml
        go_wp2
        go_roundw
        case rel => first | exact ⟨k + 1, a3, m3, cp3, by omega, by go_num, HNB, HEE⟩ | ((repeat apply Exists.intro); exact ⟨⟨k + 1, a3, m3, cp3, by omega, by go_num, HNB, HEE⟩, rfl⟩)
        case measure => (simp [intOf] <;> omega)
      · obtain rfl : k = n := by omega
        have hM : (mirL L os).take k = mirL L os := List.take_of_length_le (by rw [mirL_len]; omega)
        have hlm : (mirL L os).length = m := by have := HO.out.len; rwa [hM] at this
        have HLM : Hid ((mirF L os).length = m) := Lib.hid (by rw [mirF_len, ← hlm, mirL_len])
        have hmk : m = k := by rw [← hlm, mirL_len]; exact hl
        have hS := f_SortFunc (mb + 1) a m cap (mirL L os) wr (by have := HO.out.own; rwa [hM] at this) hlm (by omega)
        have HMF : Hid (insTo (mirL L os) (mirL L os).length = mirF L os) := Lib.hid (by unfold mirF; rw [mirL_len])
        unfold RetSorted at hS
        rw [HMF.out] at hS
        have HS := Lib.hid hS
        clear hM hlm hS hmk
        go_wp2_with fail
        refine HS.out.mono ?_
        rintro e w3 ⟨rfl, o3, g3⟩
        have HO3 := Lib.hid o3
        have HE3 : Hid (Ext w1 w3) := Lib.hid (ER.out.grown g3 (fun j hj => by have h1 := (HO.out.own.1.lt j hj).1; have h2 := HMB.out; omega))
        have HB3 := Lib.hid (blk_grownS HO.out.box g3 (fun e => by have h1 := (HO.out.own.1.lt mb e.symm).1; omega))
        obtain ⟨n0, n1, n2, _, _, nf, _⟩ := three_cells HB3.out
        obtain ⟨r0, r1, r2, q0, q1, q2, _⟩ := three_cells ((E1.out.trans HE3.out).block HR.out)
        clear o3 g3 t0 t1 t2 m0 m1 m2 mf ml
        go_wp2
        have hb := heap_setC 2 (.slice a m cap) (heap_setC 1 (.int .i64 C) (heap_setC 0 (.int .i64 L) ((E1.out.trans HE3.out).block HR.out)))
        obtain ⟨y0, y1, y2, _⟩ := three_cells hb
        refine bodyPost_ret (v := .tuple #[.agg #[.int .i64 L, .int .i64 C, .slice a m cap], .int .i64 0]) (by simp [results, Try.results29, go_sem, y0, y1, y2]) rfl ?_
        rw [HC.out]
        unfold RetFrC
        rw [HLM.out]
        have hsm := HSM.out
        exact ⟨a, cap, rfl, ((((HO3.out.setBelow (by dsimp only; omega) _).setBelow (by dsimp only; omega) _).setBelow (by dsimp only; omega) _).mono (by omega)), ext_set3 (HW.out.trans (E1.out.trans HE3.out)) (Nat.le_succ _) _ _ _⟩
end Go.Proofs.Ytnhmcmohnpbcjaa
