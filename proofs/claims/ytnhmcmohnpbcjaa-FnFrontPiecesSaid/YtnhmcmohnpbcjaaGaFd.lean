/- A group of texts, one behind the other: DrawG, FrontD. -/
import Derived.Test.YtnhmcmohnpbcjaaDrawF
import Derived.Test.YtnhmcmohnpbcjaaGaAdd
import Derived.Test.YtnhmcmohnpbcjaaGaA
/- Contracts: a front that is drawn. -/
namespace Go.Proofs.Ytnhmcmohnpbcjaa
open Go.RowKit
set_option linter.unusedSimpArgs false
set_option linter.unusedVariables false
set_option linter.unnecessarySimpa false

theorem OwnOpens.kept {w w' : World} {base : Nat} {v : Value} {os : List Opn} {k : Nat} (h : OwnOpens w base v os) (hg : w.grownBy w' (some k)) (hne : k < base) : OwnOpens w' base v os := by
  refine ⟨h.1.kept hg (.inr (fun e => ?_)), h.2⟩
  have := h.1.lt k e
  omega
theorem OwnOpens.setOther {w : World} {base g i : Nat} {v : Value} {os : List Opn} (h : OwnOpens w base v os) (hne : ∀ j, v.ownBlock = some j → g ≠ j) (u : Value) : OwnOpens (w.setCell ⟨g, i, none⟩ u) base v os := ⟨ownsRow_setCell_other h.1 hne u, h.2⟩
theorem OwnOpens.nilcap {w : World} {base n c : Nat} {ao : Option Addr} {os : List Opn} (h : OwnOpens w base (.slice ao n c) os) : ao = none → c = 0 := by
  intro e
  subst e
  rcases h.1.2 with ⟨hv, h0⟩ | ⟨g, cap, cur, hv, r⟩
  · simp only [Value.slice.injEq] at hv; exact hv.2.2
  · simp at hv
theorem OwnOpens.capmax {w : World} {base n c : Nat} {ao : Option Addr} {os : List Opn} (h : OwnOpens w base (.slice ao n c) os) : c ≤ 9223372036854775807 := by
  rcases h.1.2 with ⟨hv, h0⟩ | ⟨g, cap, cur, hv, _, _, _, hm, _⟩
  · simp only [Value.slice.injEq] at hv; omega
  · simp only [Value.slice.injEq] at hv; unfold maxLen at hm; omega
/-- an opening is added: in one form -/
def RetAdd1 (L C : Int) (os : List Opn) (x : Opn) (w : World) (e : Ending) (w' : World) : Prop :=
  ∃ L' C' os' k a m cap, e = .returned (.tuple #[.agg #[.int .i64 L', .int .i64 C', .slice a m cap], .int .i64 k]) ∧ os'.length = m ∧ OwnOpens w' w.heap.size (.slice a m cap) os' ∧ Ext w w' ∧ (k = 0 → L' = L ∧ C' = C ∧ validF L C os' = true)
theorem RetAdd.one {L C : Int} {os : List Opn} {x : Opn} {w w' : World} {e : Ending} (h : RetAdd L C os x w e w') : RetAdd1 L C os x w e w' := by
  unfold RetAdd at h
  split at h
  · rename_i hc
    obtain ⟨a, cap, rfl, ho, e1⟩ := h
    exact ⟨L, C, putO os x, 0, a, _, cap, rfl, rfl, ho, e1, fun _ => ⟨rfl, rfl, putO_valid hc⟩⟩
  · rename_i hc
    obtain ⟨a, cap, rfl, ho, e1⟩ := h
    exact ⟨0, 0, [], _, a, _, cap, rfl, rfl, ho, e1, fun h => absurd h hc⟩
abbrev zF : Obj := .cells #[.int .i64 0, .int .i64 0, .slice none 0 0] 30 (0, 0)
/-- what stands in memory between two openings of a front that is drawn -/
structure FB (w : World) (g : Nat) (ao : Option Addr) (n c fb : Nat) (L C : Int) (a : Option Addr) (m cap : Nat) (os : List Opn) (st : Src) (W : World) : Prop where
  res : W.heap[w.heap.size]? = some zF
  box : W.heap[fb]? = some (.cells #[.int .i64 L, .int .i64 C, .slice a m cap] 30 (0, 0))
  own : OwnOpens W (fb + 1) (.slice a m cap) os
  len : os.length = m
  src : SrcAt W g ao n c st
  gr : w.grownBy W (some g)
  lt : g < w.heap.size ∧ w.heap.size < fb
theorem FB.ext {w : World} {g : Nat} {ao : Option Addr} {n c fb : Nat} {L C : Int} {a : Option Addr} {m cap : Nat} {os : List Opn} {st : Src} {W W' : World} (h : FB w g ao n c fb L C a m cap os st W) (e : Ext W W') : FB w g ao n c fb L C a m cap os st W' :=
  ⟨e.block h.res, e.block h.box, h.own.ext e, h.len, e.block h.src, grown_ext_by h.gr e, h.lt⟩
theorem FB.draw {w : World} {g : Nat} {ao : Option Addr} {n c fb : Nat} {L C : Int} {a : Option Addr} {m cap : Nat} {os : List Opn} {st st' : Src} {W W' : World} (h : FB w g ao n c fb L C a m cap os st W) (hg : W.grownBy W' (some g)) (hs : SrcAt W' g ao n c st') : FB w g ao n c fb L C a m cap os st' W' := by
  obtain ⟨l1, l2⟩ := h.lt
  exact ⟨blk_grownS h.res hg (fun e => by have := Option.some.inj e; omega), blk_grownS h.box hg (fun e => by have := Option.some.inj e; omega), h.own.kept hg (by omega), h.len, hs, h.gr.trans hg, h.lt⟩
/-- another cell of another block -/
theorem FB.setOther {w : World} {g : Nat} {ao : Option Addr} {n c fb : Nat} {L C : Int} {a : Option Addr} {m cap : Nat} {os : List Opn} {st : Src} {W : World} (h : FB w g ao n c fb L C a m cap os st W) (k i : Nat) (x : Value) (h1 : fb < k) (hne : ∀ j, (Value.slice a m cap).ownBlock = some j → k ≠ j) : FB w g ao n c fb L C a m cap os st (W.setCell ⟨k, i, none⟩ x) := by
  obtain ⟨l1, l2⟩ := h.lt
  exact ⟨heap_setN _ _ _ h.res (by omega), heap_setN _ _ _ h.box (by omega), ⟨ownsRow_setCell_other h.own.1 hne x, h.own.2⟩, h.len, heap_setN _ _ _ h.src (by omega), grown_above h.gr (by dsimp only; omega) _, h.lt⟩
/-- the front is overwritten -/
theorem FB.put {w : World} {g : Nat} {ao : Option Addr} {n c fb : Nat} {L C : Int} {a : Option Addr} {m cap : Nat} {os : List Opn} {st : Src} {W : World} (h : FB w g ao n c fb L C a m cap os st W) {a' : Option Addr} {m' cap' : Nat} {os' : List Opn} (ho : OwnOpens W (fb + 1) (.slice a' m' cap') os') (hl : os'.length = m') :
    FB w g ao n c fb L C a' m' cap' os' st (((W.setCell ⟨fb, 0, none⟩ (.int .i64 L)).setCell ⟨fb, 1, none⟩ (.int .i64 C)).setCell ⟨fb, 2, none⟩ (.slice a' m' cap')) := by
  obtain ⟨l1, l2⟩ := h.lt
  exact ⟨heap_setN _ _ _ (heap_setN _ _ _ (heap_setN _ _ _ h.res (by omega)) (by omega)) (by omega), heap_setC 2 _ (heap_setC 1 _ (heap_setC 0 _ h.box)),
    ((ho.setBelow (by dsimp only; omega) _).setBelow (by dsimp only; omega) _).setBelow (by dsimp only; omega) _, hl,
    heap_setN _ _ _ (heap_setN _ _ _ (heap_setN _ _ _ h.src (by omega)) (by omega)) (by omega), grown_above (grown_above (grown_above h.gr (by dsimp only; omega) _) (by dsimp only; omega) _) (by dsimp only; omega) _, h.lt⟩
theorem FB.setC {w : World} {g : Nat} {ao : Option Addr} {n c fb : Nat} {L C : Int} {st : Src} {W : World} (h : FB w g ao n c fb L C none 0 0 [] st W) (y : Int) : FB w g ao n c fb L y none 0 0 [] st (W.setCell ⟨fb, 1, none⟩ (.int .i64 y)) := by
  obtain ⟨l1, l2⟩ := h.lt
  exact ⟨heap_setN _ _ _ h.res (by omega), heap_setC 1 _ h.box, OwnOpens.nilv _ _, rfl, heap_setN _ _ _ h.src (by omega), grown_above h.gr (by dsimp only; omega) _, h.lt⟩
theorem FB.cells {w : World} {g : Nat} {ao : Option Addr} {n c fb : Nat} {L C : Int} {a : Option Addr} {m cap : Nat} {os : List Opn} {st : Src} {W : World} (h : FB w g ao n c fb L C a m cap os st W) :
    W.cell? ⟨fb, 0, none⟩ = some (.int .i64 L) ∧ W.cell? ⟨fb, 1, none⟩ = some (.int .i64 C) ∧ W.cell? ⟨fb, 2, none⟩ = some (.slice a m cap) := by
  obtain ⟨b0, b1, b2, _⟩ := three_cells h.box
  exact ⟨b0, b1, b2⟩
/-- a new box beside the front is filled -/
theorem FB.fill {w : World} {g : Nat} {ao : Option Addr} {n c fb : Nat} {L C : Int} {a : Option Addr} {m cap : Nat} {os : List Opn} {st : Src} {W : World} (h : FB w g ao n c fb L C a m cap os st W) {b5 : Nat} (hb : W.heap[b5]? = some zF) (h1 : fb < b5) (hne : ∀ j, (Value.slice a m cap).ownBlock = some j → b5 ≠ j)
    {v' : Value} {os' : List Opn} {base : Nat} (ho : OwnOpens W base v' os') (hbase : fb + 1 ≤ base) (hne2 : ∀ j, v'.ownBlock = some j → b5 ≠ j) (L' C' : Int) :
    FB w g ao n c fb L C a m cap os st (((W.setCell ⟨b5, 0, none⟩ (.int .i64 L')).setCell ⟨b5, 1, none⟩ (.int .i64 C')).setCell ⟨b5, 2, none⟩ v') ∧
    (((W.setCell ⟨b5, 0, none⟩ (.int .i64 L')).setCell ⟨b5, 1, none⟩ (.int .i64 C')).setCell ⟨b5, 2, none⟩ v').heap[b5]? = some (.cells #[.int .i64 L', .int .i64 C', v'] 30 (0, 0)) ∧
    OwnOpens (((W.setCell ⟨b5, 0, none⟩ (.int .i64 L')).setCell ⟨b5, 1, none⟩ (.int .i64 C')).setCell ⟨b5, 2, none⟩ v') (fb + 1) v' os' :=
  ⟨((h.setOther b5 0 _ h1 hne).setOther b5 1 _ h1 hne).setOther b5 2 _ h1 hne, heap_setC 2 _ (heap_setC 1 _ (heap_setC 0 _ hb)),
   (((ho.setOther hne2 _).setOther hne2 _).setOther hne2 _).mono hbase⟩
theorem cells_far {W : World} {fb b5 : Nat} {p q r x y z : Value} (h : W.cell? ⟨fb, 0, none⟩ = some p ∧ W.cell? ⟨fb, 1, none⟩ = some q ∧ W.cell? ⟨fb, 2, none⟩ = some r) (hlt : fb < b5) :
    (((W.setCell ⟨b5, 0, none⟩ x).setCell ⟨b5, 1, none⟩ y).setCell ⟨b5, 2, none⟩ z).cell? ⟨fb, 0, none⟩ = some p ∧ (((W.setCell ⟨b5, 0, none⟩ x).setCell ⟨b5, 1, none⟩ y).setCell ⟨b5, 2, none⟩ z).cell? ⟨fb, 1, none⟩ = some q ∧ (((W.setCell ⟨b5, 0, none⟩ x).setCell ⟨b5, 1, none⟩ y).setCell ⟨b5, 2, none⟩ z).cell? ⟨fb, 2, none⟩ = some r :=
  ⟨cell_setN _ (cell_setN _ (cell_setN _ h.1 (by omega)) (by omega)) (by omega), cell_setN _ (cell_setN _ (cell_setN _ h.2.1 (by omega)) (by omega)) (by omega), cell_setN _ (cell_setN _ (cell_setN _ h.2.2 (by omega)) (by omega)) (by omega)⟩
theorem FB.far {w : World} {g : Nat} {ao : Option Addr} {n c fb : Nat} {L C : Int} {a : Option Addr} {m cap : Nat} {os : List Opn} {st : Src} {W : World} (h : FB w g ao n c fb L C a m cap os st W) : fb < W.heap.size ∧ ∀ j, (Value.slice a m cap).ownBlock = some j → W.heap.size ≠ j :=
  ⟨lt_of_block h.box, fun j hj e => by have := (h.own.1.lt j hj).2; omega⟩
/-- a valid front is handed back, and the source has gone on -/
def RetFrontD (g : Nat) (ao : Option Addr) (n c : Nat) (B : Nat) (w : World) (e : Ending) (w' : World) : Prop :=
  ∃ L C os st' a m cap, e = .returned (.agg #[.int .i64 L, .int .i64 C, .slice a m cap]) ∧ os.length = m ∧ validF L C os = true ∧ L ≤ 30 ∧ C ≤ 9 ∧ OwnOpens w' w.heap.size (.slice a m cap) os ∧ st'.Ok B ∧ SrcAt w' g ao n c st' ∧ w.grownBy w' (some g)
theorem validF_nil {L C : Int} (h1 : 1 ≤ L) (h2 : L ≤ 200) (h3 : 1 ≤ C) (h4 : C ≤ 40) : validF L C [] = true := by
  unfold validF
  simp only [Bool.and_eq_true, decide_eq_true_eq, inB_iff]
  exact ⟨⟨h1, h2⟩, ⟨h3, h4⟩, by simp, rfl⟩
set_option maxRecDepth 100000 in
set_option maxHeartbeats 4000000 in
theorem s_l09Draw (g : Nat) (ao : Option Addr) (n c : Nat) (bs : List UInt8) (st0 : Src) (w : World) (h : SrcAt w g ao n c st0) (W0 : World) (e0 : Ext W0 w) (hbW : U8s W0 ao n bs) (hg : W0.heap.size ≤ g) (B : Nat) (hB : B ≤ 1000000000000000000) (ha : st0.Ok B) :
    Calls Try.prog 63 #[.pointer (some ⟨g, 0, none⟩)] w (RetFrontD g ao n c (B + 100) w) := by
  have HGS : Hid (g < w.heap.size) := Lib.hid h.cells.2.2.2.2.2
  have EX : Hid (∀ W, w.grownBy W (some g) → Ext W0 W) := Lib.hid (fun W hw => e0.grown hw (fun k hk => by cases hk; exact hg))
  have HP := Lib.hid (fun (N : Int) (h1 : 1 ≤ N) (h2 : N ≤ 200) (d : Nat) (hd : d ≤ 10) st (hok : st.Ok (B + d)) W hs he => s_pickE (g := g) (ao := ao) (n := n) (c := c) N h1 h2 hbW hg (B + d) (by omega) st hok W hs he)
  have HNew := Lib.hid (fun (fb : Nat) (L C : Int) (v : Value) (hne : fb ≠ g) (L1 : 1 ≤ L) (L2 : L ≤ 200) (C1 : 1 ≤ C) (C2 : C ≤ 40) (d : Nat) (hd : d ≤ 100) st (hok : st.Ok (B + d)) W hs he hf => s_l09New g ao n c bs st W hs W0 he hbW hg (B + d) (by omega) hok fb L C v hf hne L1 L2 C1 C2)
  have HA0 : Hid (st0.Ok (B + 0)) := Lib.hid ha
  have HS0 := Lib.hid (blk_old (o := .cells #[.int .i64 0, .int .i64 0, .slice none 0 0] 30) h)
  have HR0 := Lib.hid (blk_at w (.cells #[.int .i64 0, .int .i64 0, .slice none 0 0] 30) w.heap.size rfl)
  have HGA : Hid (w.grownBy (w.alloc (.cells #[.int .i64 0, .int .i64 0, .slice none 0 0] 30)) (some g)) := Lib.hid (World.grownBy_alloc w _ _)
  clear h hbW ha e0 hg hB
  go_enter Try.func63, Try.ntmps63
  go_wp2_with fail
  refine (HP.out 30 (by decide) (by decide) 0 (by decide) st0 HA0.out _ HS0.out (EX.out _ HGA.out)).mono ?_
  rintro e w1 ⟨q1, st1, rfl, a1, b1, OK1, s1, g1⟩
  have HR1 := Lib.hid (blk_grownS HR0.out g1 (fun e => by have := Option.some.inj e; have := HGS.out; omega))
  have HS1 := Lib.hid s1
  have HG1 := Lib.hid (HGA.out.trans g1)
  have HOK1 := Lib.hid OK1
  have HZ1 : Hid (w.heap.size < w1.heap.size) := Lib.hid (lt_of_block HR1.out)
  have HN1 : Hid (FB w g ao n c w1.heap.size (1 + q1) 0 none 0 0 [] st1 (w1.alloc (.cells #[.int .i64 (1 + q1), .int .i64 0, .slice none 0 0] 30))) := Lib.hid
    ⟨blk_old HR1.out, blk_at _ _ _ rfl, OwnOpens.nilv _ _, rfl, blk_old HS1.out, grown_ext_by HG1.out ((Ext.refl _).alloc _), HGS.out, HZ1.out⟩
  clear s1 g1 OK1
  go_upto_region 2 with fail
  obtain ⟨W1, hW1⟩ : ∃ W1, w1.alloc (.cells #[.int .i64 (1 + q1), .int .i64 0, .slice none 0 0] 30) = W1 := ⟨_, rfl⟩
  obtain ⟨fb, hob⟩ : ∃ ob, w1.heap.size = ob := ⟨_, rfl⟩
  rw [hW1] at HN1 ⊢
  rw [hob] at HN1 ⊢
  clear hW1 hob HR1 HS1 HG1 HZ1
  go_wp2_with fail
  refine (HP.out 9 (by decide) (by decide) 2 (by decide) st1 HOK1.out _ HN1.out.src (EX.out _ HN1.out.gr)).mono ?_
  rintro e w2 ⟨q2, st2, rfl, a2, b2, OK2, s2, g2⟩
  have HN2 := Lib.hid (HN1.out.draw g2 s2)
  have HN3 := Lib.hid (HN2.out.setC (1 + q2))
  have HOK2 := Lib.hid OK2
  obtain ⟨c0, c1, c2, f0, f1, f2, _⟩ := three_cells HN2.out.box
  clear s2 g2 OK2
  go_upto_region 3 with fail
  obtain ⟨W3, hW3⟩ : ∃ W3, w2.setCell ⟨fb, 1, none⟩ (.int .i64 (1 + q2)) = W3 := ⟨_, rfl⟩
  rw [hW3] at HN3 ⊢
  clear hW3 HN2 HN1 c0 c1 c2 f0 f1 f2
  go_wp2_with fail
  refine (HP.out 6 (by decide) (by decide) 4 (by decide) st2 HOK2.out _ HN3.out.src (EX.out _ HN3.out.gr)).mono ?_
  rintro e w4 ⟨q4, st4, rfl, a4, b4, OK4, s4, g4⟩
  have HN4 := Lib.hid (HN3.out.draw g4 s4)
  have HOK4 := Lib.hid OK4
  have HLC : Hid (validF (1 + q1) (1 + q2) [] = true) := Lib.hid (validF_nil (by omega) (by omega) (by omega) (by omega))
  obtain ⟨t, rfl⟩ := Int.eq_ofNat_of_zero_le a4
  obtain ⟨L, hL⟩ : ∃ L, 1 + q1 = L := ⟨_, rfl⟩
  obtain ⟨C, hC⟩ : ∃ C, 1 + q2 = C := ⟨_, rfl⟩
  have L1 : 1 ≤ L := by omega
  have L2 : L ≤ 30 := by omega
  have C1 : 1 ≤ C := by omega
  have C2 : C ≤ 9 := by omega
  rw [hL] at HN4 HLC
  rw [hC] at HN4 HLC
  clear s4 g4 OK4 HN3 HOK2 HOK1 HA0 HS0 HR0 HGA hL hC a1 b1 a2 b2
  go_wp2
  go_loopw [4] (fun i wr => ∃ (k : Nat) (a : Option Addr) (m cap : Nat) (os : List Opn) (st : Src), k ≤ 5 ∧ i = .int .i64 k ∧ Hid (FB w g ao n c fb L C a m cap os st wr) ∧ Hid (validF L C os = true) ∧ Hid (st.Ok (B + 6 + 8 * (5 - k)))) (fun i _ => (intOf i).toNat)
  case atStart => exact ⟨t, none, 0, 0, [], st4, by omega, rfl, HN4, HLC, Lib.hid (HOK4.out.mono (by omega))⟩
  case round =>
    obtain ⟨k, a, m, cap, os, st, hk, rfl, HFB, HVF, HOK⟩ := hrel
    by_cases hlt : 0 < k
    · have hki : (0 : Int) < (k : Int) := by omega
      go_upto_region 6 with fail
      go_cut [5, 6] (fun v5 v6 W => ∃ b5 L' C' a' m' cap' os' st' k', v5 = .pointer (some ⟨b5, 0, none⟩) ∧ v6 = .int .i64 k' ∧ Hid (W.heap[b5]? = some (.cells #[.int .i64 L', .int .i64 C', .slice a' m' cap'] 30 (0, 0))) ∧ Hid (FB w g ao n c fb L C a m cap os st' W) ∧ Hid (st'.Ok (B + 6 + 8 * (5 - k) + 8)) ∧ Hid (k' = 0 → L' = L ∧ C' = C ∧ OwnOpens W (fb + 1) (.slice a' m' cap') os' ∧ os'.length = m' ∧ validF L C os' = true))
      case first =>
        have fb0 := HFB.out.ext (Ext.refl wr).drew
        have fb1 := fb0.ext ((Ext.refl wr.drew).alloc (.cells #[.int .i64 0, .int .i64 0, .slice none 0 0] 30))
        have hb1 := blk_at wr.drew (.cells #[.int .i64 0, .int .i64 0, .slice none 0 0] 30) wr.heap.size rfl
        have hne : fb ≠ g := by have := HFB.out.lt; omega
        have hAdd : ∀ W x, Opens W a m os → x.ok → Calls Try.prog 11 #[.agg #[.int .i64 L, .int .i64 C, .slice a m cap], opnV x] W (RetAdd1 L C os x W) := fun W x h1 h2 => (s_AddOpening L C a m cap os x W h1 HFB.out.own.cap HFB.out.own.nilcap HFB.out.own.capmax h2).mono (fun e w' h => h.one)
        have HAdd := Lib.hid hAdd
        have HFAR0 := Lib.hid fb0.far
        have HB1 := Lib.hid hb1
        have HF0 := Lib.hid fb0
        have HF1 := Lib.hid fb1
        clear hAdd hb1 fb0 fb1
        go_region_held3 (fun W => W.cell? ⟨fb, 0, none⟩ = some (.int .i64 L) ∧ W.cell? ⟨fb, 1, none⟩ = some (.int .i64 C) ∧ W.cell? ⟨fb, 2, none⟩ = some (.slice a m cap)) (first | exact FB.cells HF0.out | exact FB.cells HF1.out | exact FB.cells (by assumption) | exact FB.cells (FB.ext (by assumption) ((Ext.refl _).alloc _)) | exact cells_far (FB.cells fb6) (by first | exact HF0.out.far.1 | exact fb5.far.1) | exact cells_far (FB.cells (FB.ext fb6 ((Ext.refl _).alloc _))) fb6.far.1) (first
          | (go_at_call 71; refine (HNew.out fb L C (.slice a m cap) hne L1 (by omega) C1 (by omega) (6 + 8 * (5 - k)) (by omega) st (HOK.out.mono (by omega)) _ (by first | exact HF0.out.src | exact HF1.out.src) (by first | exact EX.out _ HF0.out.gr | exact EX.out _ HF1.out.gr) (by first | exact HF0.out.box | exact HF1.out.box)).mono ?_; rintro e w5 ⟨o, st5, rfl, ho5, OK5, s5, g5⟩; have fb5 := (by first | exact HF0.out.draw g5 s5 | exact HF1.out.draw g5 s5 : FB w g ao n c fb L C a m cap os st5 w5); (first | skip | skip); (try have hz5 := blk_grownS HB1.out g5 (fun e => by have h1 : wr.heap.size = g := Option.some.inj e; have h2 : fb < wr.heap.size := HF0.out.far.1; have h3 := HF0.out.lt; omega)); clear s5 g5)
          | (go_at_call 11; refine (HAdd.out _ o (by first | exact fb5.own.opens | exact (fb5.ext ((Ext.refl _).alloc _)).own.opens) (isOpn_ok ho5 (by omega) (by omega))).mono ?_; rintro e w6 ⟨L', C', os', k', a', m', cap', rfl, hl6, ho6, e6, hk6⟩; have fb6 := (by first | exact fb5.ext e6 | exact (fb5.ext ((Ext.refl _).alloc _)).ext e6 : FB w g ao n c fb L C a m cap os st5 w6); (try (have hq5 := e6.block hz5; obtain ⟨z0, z1, z2, x0, x1, x2, _⟩ := three_cells hq5)); (try (have hq6 := e6.block (blk_at w5 (.cells #[.int .i64 0, .int .i64 0, .slice none 0 0] 30) w5.heap.size rfl); obtain ⟨z0, z1, z2, x0, x1, x2, _⟩ := three_cells hq6))))
        all_goals
          have hOK := OK5.mono (show B + (6 + 8 * (5 - k)) + 8 ≤ B + 6 + 8 * (5 - k) + 8 by omega)
          have hf5 := fb5.far
          go_wp2
          go_meet
          first
          | exact ⟨_, L', C', a', m', cap', os', st5, k', rfl, rfl, Lib.hid (blk_at _ _ _ rfl), Lib.hid (FB.ext fb6 ((Ext.refl _).alloc _)), Lib.hid hOK, Lib.hid (fun h => ⟨(hk6 h).1, (hk6 h).2.1, (ho6.ext ((Ext.refl _).alloc _)).mono hf5.1, hl6, (hk6 h).2.2⟩)⟩
          | (have hf := FB.fill fb6 hq6 hf5.1 hf5.2 ho6 (by rw [World.size_alloc]; omega) (fun j hj e => by have := (ho6.1.lt j hj).1; rw [World.size_alloc] at this; omega) L' C'
             exact ⟨_, L', C', a', m', cap', os', st5, k', rfl, rfl, Lib.hid hf.2.1, Lib.hid hf.1, Lib.hid hOK, Lib.hid (fun h => ⟨(hk6 h).1, (hk6 h).2.1, hf.2.2, hl6, (hk6 h).2.2⟩)⟩)
          | (have hf := FB.fill fb6 hq5 (show fb < wr.heap.size from HF0.out.far.1) (fun j hj => (HF0.out.far.2 j hj : wr.heap.size ≠ j)) ho6 hf5.1 (fun j hj e => by have h1 := (ho6.1.lt j hj).1; have h2 := lt_of_block hz5; omega) L' C'
             exact ⟨_, L', C', a', m', cap', os', st5, k', rfl, rfl, Lib.hid hf.2.1, Lib.hid hf.1, Lib.hid hOK, Lib.hid (fun h => ⟨(hk6 h).1, (hk6 h).2.1, hf.2.2, hl6, (hk6 h).2.2⟩)⟩)
      case rest =>
        obtain ⟨b5, L', C', a', m', cap', os', st', k', rfl, rfl, HB5, HFB5, HOK5, HK⟩ := hcut
        have hkk : ((k : Int) - 1) = ((k - 1 : Nat) : Int) := by omega
        by_cases h0 : k' = 0
        · obtain ⟨hL', hC', ho', hl', hv'⟩ := HK.out h0
          subst hL'
          subst hC'
          subst h0
          obtain ⟨z0, z1, z2, _⟩ := three_cells HB5.out
          obtain ⟨c0, c1, c2, f0, f1, f2, _⟩ := three_cells HFB5.out.box
          have HPut := Lib.hid (HFB5.out.put ho' hl')
          have HV' := Lib.hid hv'
          clear ho' hl' hv' HK
          go_wp2
          go_roundw
          case rel => first | exact ⟨k - 1, a', m', cap', os', st', by omega, by rw [← hkk], HPut, HV', Lib.hid (HOK5.out.mono (by omega))⟩ | ((repeat apply Exists.intro); exact ⟨⟨k - 1, a', m', cap', os', st', by omega, by rw [← hkk], HPut, HV', Lib.hid (HOK5.out.mono (by omega))⟩, rfl⟩)
          case measure => (simp [intOf] <;> omega)
        · have hbq : (k' == 0) = false := by simp [h0]
          go_wp2
          go_roundw
          case rel => first | exact ⟨k - 1, a, m, cap, os, st', by omega, by rw [← hkk], HFB5, HVF, Lib.hid (HOK5.out.mono (by omega))⟩ | ((repeat apply Exists.intro); exact ⟨⟨k - 1, a, m, cap, os, st', by omega, by rw [← hkk], HFB5, HVF, Lib.hid (HOK5.out.mono (by omega))⟩, rfl⟩)
          case measure => (simp [intOf] <;> omega)
    · obtain rfl : k = 0 := by omega
      obtain ⟨c0, c1, c2⟩ := HFB.out.cells
      obtain ⟨r0, r1, r2, z0, z1, z2, _⟩ := three_cells HFB.out.res
      go_wp2
      have hb := heap_setC 2 (.slice a m cap) (heap_setC 1 (.int .i64 C) (heap_setC 0 (.int .i64 L) HFB.out.res))
      obtain ⟨y0, y1, y2, _⟩ := three_cells hb
      refine bodyPost_ret (v := .agg #[.int .i64 L, .int .i64 C, .slice a m cap]) (by simp [results, Try.results63, go_sem, y0, y1, y2]) rfl ?_
      have hl := HFB.out.lt
      exact ⟨L, C, os, st, a, m, cap, rfl, HFB.out.len, HVF.out, L2, C2, (((HFB.out.own.setBelow (by dsimp only; omega) _).setBelow (by dsimp only; omega) _).setBelow (by dsimp only; omega) _).mono (by omega), HOK.out.mono (by omega), heap_setN _ _ _ (heap_setN _ _ _ (heap_setN _ _ _ HFB.out.src (by omega)) (by omega)) (by omega), grown_above (grown_above (grown_above HFB.out.gr (Nat.le_refl _) _) (Nat.le_refl _) _) (Nat.le_refl _) _⟩
end Go.Proofs.Ytnhmcmohnpbcjaa

/- Contracts: a front and an opening that are drawn off some bytes. -/
namespace Go.Proofs.Ytnhmcmohnpbcjaa
open Go.RowKit
set_option linter.unusedSimpArgs false
set_option linter.unusedVariables false
set_option linter.unnecessarySimpa false

/-- a valid front is handed back, its openings in memory of the call's own -/
def RetFrontA (w : World) (e : Ending) (w' : World) : Prop :=
  ∃ (L C : Int) (os : List Opn) (a : Option Addr) (m cap : Nat), e = .returned (.agg #[.int .i64 L, .int .i64 C, .slice a m cap]) ∧ validF L C os = true ∧ L ≤ 30 ∧ C ≤ 9 ∧ OwnOpens w' w.heap.size (.slice a m cap) os ∧ Opens w' a m os ∧ m ≤ cap ∧ Ext w w'
set_option maxHeartbeats 800000 in
theorem s_A2Front (ao : Option Addr) (n c : Nat) (bs : List UInt8) (w : World) (hb : U8s w ao n bs) : Calls Try.prog 19 #[.slice ao n c] w (RetFrontA w) := by
  have H1 := Lib.hid (fun W (h : SrcAt W (w.heap.size + 1) ao n c ⟨0, 0⟩) (e : Ext w W) => s_l09Draw (w.heap.size + 1) ao n c bs ⟨0, 0⟩ W h w e hb (Nat.le_succ _) 0 (by decide) ⟨by decide, by decide⟩)
  have B0 := Lib.hid (blk_at w (.cells #[.int .i64 0, .int .i64 0, .slice none 0 0] 30) w.heap.size rfl)
  clear hb
  go_enter Try.func19, Try.ntmps19
  go_wp2_with fail
  refine (s_l00From ao n c _).mono ?_
  rintro e w1 ⟨rfl, s1, e1, z1⟩
  rw [show (w.alloc (.cells #[.int .i64 0, .int .i64 0, .slice none 0 0] 30)).heap.size = w.heap.size + 1 by simp] at s1 ⊢
  have HS1 := Lib.hid s1
  have HE1 := Lib.hid (((Ext.refl w).alloc _).trans e1)
  have HR1 := Lib.hid (e1.block B0.out)
  clear s1 e1 z1
  go_wp2_with fail
  refine (H1.out _ HS1.out HE1.out).mono ?_
  rintro e w2 ⟨L, C, os, st', a, m, cap, rfl, hl, hv, hL, hC, ho, _, s2, g2⟩
  have HR2 := Lib.hid (blk_grownS HR1.out g2 (fun e => by have h := Option.some.inj e; omega))
  obtain ⟨r0, r1, r2, f0, f1, f2, _⟩ := three_cells HR2.out
  have HE2 := Lib.hid (ext_of_src g2 HE1.out (Nat.le_succ _))
  have HO2 := Lib.hid (ho.mono (show w.heap.size + 1 ≤ w1.heap.size from Nat.succ_le_of_lt (lt_of_block HR1.out)))
  have HV := Lib.hid hv
  clear s2 g2 ho hv hl
  go_wp2
  have hb := heap_setC 2 (.slice a m cap) (heap_setC 1 (.int .i64 C) (heap_setC 0 (.int .i64 L) HR2.out))
  obtain ⟨y0, y1, y2, _⟩ := three_cells hb
  refine bodyPost_ret (v := .agg #[.int .i64 L, .int .i64 C, .slice a m cap]) (by simp [results, Try.results19, go_sem, y0, y1, y2]) rfl ?_
  have ho3 := (((HO2.out.setBelow (Nat.lt_succ_self _) (.int .i64 L) (a := ⟨w.heap.size, 0, none⟩)).setBelow (Nat.lt_succ_self _) (.int .i64 C) (a := ⟨w.heap.size, 1, none⟩)).setBelow (Nat.lt_succ_self _) (.slice a m cap) (a := ⟨w.heap.size, 2, none⟩)).mono (Nat.le_succ _)
  exact ⟨L, C, os, a, m, cap, rfl, HV.out, hL, hC, ho3, ho3.opens, ho3.cap, ext_set3 HE2.out (Nat.le_refl _) _ _ _⟩
/-- an opening of the front is handed back -/
def RetOpnA (L C : Int) (w : World) (e : Ending) (w' : World) : Prop := ∃ o, e = .returned (opnV o) ∧ isOpn L C o = true ∧ Ext w w'
set_option maxHeartbeats 1600000 in
theorem s_A2Opening (ao : Option Addr) (n c : Nat) (bs : List UInt8) (L C : Int) (v : Value) (w : World) (hb : U8s w ao n bs) (L1 : 1 ≤ L) (L2 : L ≤ 200) (C1 : 1 ≤ C) (C2 : C ≤ 40) :
    Calls Try.prog 30 #[.slice ao n c, .agg #[.int .i64 L, .int .i64 C, v]] w (RetOpnA L C w) := by
  obtain ⟨W1, hW1⟩ : ∃ W1, (w.alloc (.cells #[.int .i64 L, .int .i64 C, v] 30)).alloc (.cells #[.int .i64 0, .int .i64 0, .int .i64 0, .int .i64 0] 34) = W1 := ⟨_, rfl⟩
  have HW : Hid (Ext w W1) := Lib.hid (by rw [← hW1]; exact ((Ext.refl w).alloc _).alloc _)
  have HF0 : Hid (W1.heap[w.heap.size]? = some (.cells #[.int .i64 L, .int .i64 C, v] 30 (0, 0))) := Lib.hid (by rw [← hW1]; exact blk_old (heap_alloc_new w _))
  have HR0 : Hid (W1.heap[w.heap.size + 1]? = some (.cells #[.int .i64 0, .int .i64 0, .int .i64 0, .int .i64 0] 34 (0, 0))) := Lib.hid (by rw [← hW1]; exact blk_at _ _ _ (by simp))
  have HSZ : Hid (W1.heap.size = w.heap.size + 2) := Lib.hid (by rw [← hW1]; simp)
  have HN := Lib.hid (fun W (h : SrcAt W W1.heap.size ao n c ⟨0, 0⟩) (e : Ext W1 W) (hf : W.heap[w.heap.size]? = some (.cells #[.int .i64 L, .int .i64 C, v] 30 (0, 0))) => s_l09New W1.heap.size ao n c bs ⟨0, 0⟩ W h W1 e (hb.ext HW.out) (Nat.le_refl _) 0 (by decide) ⟨by decide, by decide⟩ w.heap.size L C v hf (by have := HSZ.out; omega) L1 L2 C1 C2)
  clear hb
  go_enter Try.func30, Try.ntmps30
  go_wp2_with fail
  try rw [hW1]
  clear hW1
  refine (s_l00From ao n c W1).mono ?_
  rintro e w1 ⟨rfl, s1, e1, z1⟩
  have HS1 := Lib.hid s1
  have HE1 := Lib.hid e1
  have HR1 := Lib.hid (e1.block HR0.out)
  clear s1 e1 z1
  go_wp2_with fail
  refine (HN.out _ HS1.out HE1.out (HE1.out.block HF0.out)).mono ?_
  rintro e w2 ⟨o, st', rfl, ho, _, s2, g2⟩
  have HR2 := Lib.hid (blk_grownS HR1.out g2 (fun e => by have h := Option.some.inj e; have := HSZ.out; omega))
  obtain ⟨r0, r1, r2, r3, f0, f1, f2, f3, _⟩ := four_cells HR2.out
  have HE2 := Lib.hid (ext_of_src g2 HE1.out (Nat.le_refl _))
  have HO := Lib.hid ho
  clear s2 g2 ho
  obtain ⟨x1, x2, x3, x4⟩ := o
  unfold opnV
  go_wp2
  have hb := heap_setC 3 (.int .i64 x4) (heap_setC 2 (.int .i64 x3) (heap_setC 1 (.int .i64 x2) (heap_setC 0 (.int .i64 x1) HR2.out)))
  obtain ⟨y0, y1, y2, y3, _⟩ := four_cells hb
  refine bodyPost_ret (v := opnV ⟨x1, x2, x3, x4⟩) (by simp [results, Try.results30, go_sem, y0, y1, y2, y3, opnV]) rfl ?_
  exact ⟨_, rfl, HO.out, Ext.setCell (Ext.setCell (Ext.setCell (Ext.setCell (HW.out.trans HE2.out) (Nat.le_succ _) _) (Nat.le_succ _) _) (Nat.le_succ _) _) (Nat.le_succ _) _⟩
end Go.Proofs.Ytnhmcmohnpbcjaa
