/- Contracts: an opening that is drawn for a front. -/
import Derived.Test.YtnhmcmohnpbcjaaGaDb
import Derived.Test.YtnhmcmohnpbcjaaFrontV0
import Derived.Test.YtnhmcmohnpbcjaaChg
import Derived.Deep.RegionHeld3
import Derived.Deep.DeepCutAuto
namespace Go.Proofs.Ytnhmcmohnpbcjaa
open Go.RowKit
set_option linter.unusedSimpArgs false
set_option linter.unusedVariables false
set_option linter.unnecessarySimpa false

def mxF (a b : Int) : Int := if a > b then a else b
theorem s_l00Max (a b : Int) (w : World) : Calls Try.prog 105 #[.int .i64 a, .int .i64 b] w (RetV (.int .i64 (mxF a b)) w) := by
  by_cases h : b < a
  all_goals
    go_enter Try.func105, Try.ntmps105
    go_wp2
    go_ret
    exact RetV.mk (int_eq (by unfold mxF; split <;> omega))
/-- what stands in memory while an opening is drawn -/
structure NB (w : World) (g : Nat) (ao : Option Addr) (n c fb : Nat) (L C : Int) (v : Value) (ob : Nat) (x1 x2 x3 x4 : Int) (st : Src) (W : World) : Prop where
  res : W.heap[w.heap.size]? = some (.cells #[.int .i64 0, .int .i64 0, .int .i64 0, .int .i64 0] 34 (0, 0))
  box : W.heap[ob]? = some (.cells #[.int .i64 x1, .int .i64 x2, .int .i64 x3, .int .i64 x4] 34 (0, 0))
  fr : W.heap[fb]? = some (.cells #[.int .i64 L, .int .i64 C, v] 30 (0, 0))
  src : SrcAt W g ao n c st
  gr : w.grownBy W (some g)
  lt : g < w.heap.size ∧ fb < w.heap.size ∧ fb ≠ g ∧ w.heap.size < ob
theorem NB.ext {w : World} {g : Nat} {ao : Option Addr} {n c fb : Nat} {L C : Int} {v : Value} {ob : Nat} {x1 x2 x3 x4 : Int} {st : Src} {W W' : World} (h : NB w g ao n c fb L C v ob x1 x2 x3 x4 st W) (e : Ext W W') : NB w g ao n c fb L C v ob x1 x2 x3 x4 st W' :=
  ⟨e.block h.res, e.block h.box, e.block h.fr, e.block h.src, grown_ext_by h.gr e, h.lt⟩
theorem NB.draw {w : World} {g : Nat} {ao : Option Addr} {n c fb : Nat} {L C : Int} {v : Value} {ob : Nat} {x1 x2 x3 x4 : Int} {st st' : Src} {W W' : World} (h : NB w g ao n c fb L C v ob x1 x2 x3 x4 st W) (hg : W.grownBy W' (some g)) (hs : SrcAt W' g ao n c st') : NB w g ao n c fb L C v ob x1 x2 x3 x4 st' W' := by
  obtain ⟨l1, l2, l3, l4⟩ := h.lt
  exact ⟨blk_grownS h.res hg (fun e => by have := Option.some.inj e; omega), blk_grownS h.box hg (fun e => by have := Option.some.inj e; omega), blk_grownS h.fr hg (fun e => l3 (Option.some.inj e)), hs, h.gr.trans hg, h.lt⟩
theorem NB.set1 {w : World} {g : Nat} {ao : Option Addr} {n c fb : Nat} {L C : Int} {v : Value} {ob : Nat} {x1 x2 x3 x4 : Int} {st : Src} {W : World} (h : NB w g ao n c fb L C v ob x1 x2 x3 x4 st W) (y : Int) : NB w g ao n c fb L C v ob x1 y x3 x4 st (W.setCell ⟨ob, 1, none⟩ (.int .i64 y)) := by
  obtain ⟨l1, l2, l3, l4⟩ := h.lt
  exact ⟨heap_setN _ _ _ h.res (by omega), heap_setC _ _ h.box, heap_setN _ _ _ h.fr (by omega), heap_setN _ _ _ h.src (by omega), grown_above h.gr (by dsimp only; omega) _, h.lt⟩
theorem NB.set2 {w : World} {g : Nat} {ao : Option Addr} {n c fb : Nat} {L C : Int} {v : Value} {ob : Nat} {x1 x2 x3 x4 : Int} {st : Src} {W : World} (h : NB w g ao n c fb L C v ob x1 x2 x3 x4 st W) (y : Int) : NB w g ao n c fb L C v ob x1 x2 y x4 st (W.setCell ⟨ob, 2, none⟩ (.int .i64 y)) := by
  obtain ⟨l1, l2, l3, l4⟩ := h.lt
  exact ⟨heap_setN _ _ _ h.res (by omega), heap_setC _ _ h.box, heap_setN _ _ _ h.fr (by omega), heap_setN _ _ _ h.src (by omega), grown_above h.gr (by dsimp only; omega) _, h.lt⟩
theorem NB.set3 {w : World} {g : Nat} {ao : Option Addr} {n c fb : Nat} {L C : Int} {v : Value} {ob : Nat} {x1 x2 x3 x4 : Int} {st : Src} {W : World} (h : NB w g ao n c fb L C v ob x1 x2 x3 x4 st W) (y : Int) : NB w g ao n c fb L C v ob x1 x2 x3 y st (W.setCell ⟨ob, 3, none⟩ (.int .i64 y)) := by
  obtain ⟨l1, l2, l3, l4⟩ := h.lt
  exact ⟨heap_setN _ _ _ h.res (by omega), heap_setC _ _ h.box, heap_setN _ _ _ h.fr (by omega), heap_setN _ _ _ h.src (by omega), grown_above h.gr (by dsimp only; omega) _, h.lt⟩
/-- the cells that are read and written -/
abbrev NC (fb : Nat) (L C : Int) (v : Value) (ob : Nat) (x1 x2 x3 x4 : Int) (W : World) : Prop := (W.cell? ⟨ob, 0, none⟩ = some (.int .i64 x1) ∧ W.cell? ⟨ob, 1, none⟩ = some (.int .i64 x2) ∧ W.cell? ⟨ob, 2, none⟩ = some (.int .i64 x3) ∧ W.cell? ⟨ob, 3, none⟩ = some (.int .i64 x4)) ∧
  (W.frozen? ⟨ob, 0, none⟩ = false ∧ W.frozen? ⟨ob, 1, none⟩ = false ∧ W.frozen? ⟨ob, 2, none⟩ = false ∧ W.frozen? ⟨ob, 3, none⟩ = false) ∧ W.cell? ⟨fb, 0, none⟩ = some (.int .i64 L) ∧ W.cell? ⟨fb, 1, none⟩ = some (.int .i64 C)
theorem NB.cells {w : World} {g : Nat} {ao : Option Addr} {n c fb : Nat} {L C : Int} {v : Value} {ob : Nat} {x1 x2 x3 x4 : Int} {st : Src} {W : World} (h : NB w g ao n c fb L C v ob x1 x2 x3 x4 st W) : NC fb L C v ob x1 x2 x3 x4 W := by
  obtain ⟨a0, a1, a2, a3, f0, f1, f2, f3, _⟩ := four_cells h.box
  obtain ⟨b0, b1, _⟩ := three_cells h.fr
  exact ⟨⟨a0, a1, a2, a3⟩, ⟨f0, f1, f2, f3⟩, b0, b1⟩
theorem NB.c0 {w : World} {g : Nat} {ao : Option Addr} {n c fb : Nat} {L C : Int} {v : Value} {ob : Nat} {x1 x2 x3 x4 : Int} {st : Src} {W : World} (h : NB w g ao n c fb L C v ob x1 x2 x3 x4 st W) : W.cell? ⟨ob, 0, none⟩ = some (.int .i64 x1) ∧ W.cell? ⟨fb, 0, none⟩ = some (.int .i64 L) := ⟨h.cells.1.1, h.cells.2.2.1⟩
theorem NB.c2 {w : World} {g : Nat} {ao : Option Addr} {n c fb : Nat} {L C : Int} {v : Value} {ob : Nat} {x1 x2 x3 x4 : Int} {st : Src} {W : World} (h : NB w g ao n c fb L C v ob x1 x2 x3 x4 st W) : W.cell? ⟨ob, 2, none⟩ = some (.int .i64 x3) ∧ W.cell? ⟨fb, 1, none⟩ = some (.int .i64 C) := ⟨h.cells.1.2.2.1, h.cells.2.2.2⟩
/-- an opening of the front is handed back, and the source has gone on -/
def RetOpnD (g : Nat) (ao : Option Addr) (n c : Nat) (L C : Int) (B : Nat) (w : World) (e : Ending) (w' : World) : Prop :=
  ∃ o st', e = .returned (opnV o) ∧ isOpn L C o = true ∧ st'.Ok B ∧ SrcAt w' g ao n c st' ∧ w.grownBy w' (some g)
theorem isOpn_of {L C a b x y : Int} (h1 : 0 ≤ a) (h2 : a < b) (h3 : b ≤ L) (h4 : 0 ≤ x) (h5 : x < y) (h6 : y ≤ C) : isOpn L C ⟨a, b, x, y⟩ = true := by
  unfold isOpn
  simp only [Bool.and_eq_true, decide_eq_true_eq]
  exact ⟨h1, h2, h3, h4, h5, h6⟩
set_option maxRecDepth 100000 in
set_option maxHeartbeats 4000000 in
theorem s_l09New (g : Nat) (ao : Option Addr) (n c : Nat) (bs : List UInt8) (st0 : Src) (w : World) (h : SrcAt w g ao n c st0) (W0 : World) (e0 : Ext W0 w) (hbW : U8s W0 ao n bs) (hg : W0.heap.size ≤ g) (B : Nat) (hB : B ≤ 2000000000000000000) (ha : st0.Ok B)
    (fb : Nat) (L C : Int) (v : Value) (hf : w.heap[fb]? = some (.cells #[.int .i64 L, .int .i64 C, v] 30 (0, 0))) (hne : fb ≠ g) (L1 : 1 ≤ L) (L2 : L ≤ 200) (C1 : 1 ≤ C) (C2 : C ≤ 40) :
    Calls Try.prog 71 #[.pointer (some ⟨g, 0, none⟩), .pointer (some ⟨fb, 0, none⟩)] w (RetOpnD g ao n c L C (B + 8) w) := by
  have HGS : Hid (g < w.heap.size) := Lib.hid h.cells.2.2.2.2.2
  have HFS : Hid (fb < w.heap.size) := Lib.hid (lt_of_block hf)
  have HNE := Lib.hid hne
  have EX : Hid (∀ W, w.grownBy W (some g) → Ext W0 W) := Lib.hid (fun W hw => e0.grown hw (fun k hk => by cases hk; exact hg))
  have HP := Lib.hid (fun (N : Int) (h1 : 1 ≤ N) (h2 : N ≤ 200) (d : Nat) (hd : d ≤ 10) st (hok : st.Ok (B + d)) W hs he => s_pickE (g := g) (ao := ao) (n := n) (c := c) N h1 h2 hbW hg (B + d) (by omega) st hok W hs he)
  have HM := Lib.hid (fun (N : Int) (h1 : 1 ≤ N) W => (show Calls Try.prog 105 #[.int .i64 1, .int .i64 N] W (RetV (.int .i64 N) W) from by have := s_l00Max 1 N W; rwa [show mxF 1 N = N by unfold mxF; split <;> omega] at this))
  have HA0 : Hid (st0.Ok (B + 0)) := Lib.hid ha
  have HS0 := Lib.hid (blk_old (o := .cells #[.int .i64 0, .int .i64 0, .int .i64 0, .int .i64 0] 34) h)
  have HR0 := Lib.hid (blk_at w (.cells #[.int .i64 0, .int .i64 0, .int .i64 0, .int .i64 0] 34) w.heap.size rfl)
  have HF0 := Lib.hid (blk_old (o := .cells #[.int .i64 0, .int .i64 0, .int .i64 0, .int .i64 0] 34) hf)
  have HGA : Hid (w.grownBy (w.alloc (.cells #[.int .i64 0, .int .i64 0, .int .i64 0, .int .i64 0] 34)) (some g)) := Lib.hid (World.grownBy_alloc w _ _)
  obtain ⟨f0, f1, _⟩ := three_cells HF0.out
  clear h hbW ha e0 hg hB hf hne
  go_enter Try.func71, Try.ntmps71
  go_wp2_with (go_at_call 105; refine (HM.out L L1 _).mono ?_; rintro e w' ⟨rfl, rfl⟩)
  refine (HP.out L L1 L2 0 (by decide) st0 HA0.out _ HS0.out (EX.out _ HGA.out)).mono ?_
  rintro e w1 ⟨q1, st1, rfl, a1, b1, OK1, s1, g1⟩
  have HR1 := Lib.hid (blk_grownS HR0.out g1 (fun e => by have := Option.some.inj e; have := HGS.out; omega))
  have HF1 := Lib.hid (blk_grownS HF0.out g1 (fun e => HNE.out (Option.some.inj e)))
  have HS1 := Lib.hid s1
  have HG1 := Lib.hid (HGA.out.trans g1)
  have HOK1 := Lib.hid OK1
  have HZ1 : Hid (w.heap.size < w1.heap.size) := Lib.hid (lt_of_block HR1.out)
  have HN1 : Hid (NB w g ao n c fb L C v w1.heap.size q1 0 0 0 st1 (w1.alloc (.cells #[.int .i64 q1, .int .i64 0, .int .i64 0, .int .i64 0] 34))) := Lib.hid
    ⟨blk_old HR1.out, blk_at _ _ _ rfl, blk_old HF1.out, blk_old HS1.out, grown_ext_by HG1.out ((Ext.refl _).alloc _), HGS.out, HFS.out, HNE.out, HZ1.out⟩
  clear f0 f1 s1 g1 OK1
  go_upto_region 2 with fail
  obtain ⟨W1, hW1⟩ : ∃ W1, w1.alloc (.cells #[.int .i64 q1, .int .i64 0, .int .i64 0, .int .i64 0] 34) = W1 := ⟨_, rfl⟩
  obtain ⟨ob, hob⟩ : ∃ ob, w1.heap.size = ob := ⟨_, rfl⟩
  rw [hW1] at HN1 ⊢
  rw [hob] at HN1 ⊢
  clear hW1 hob HR1 HF1 HS1 HG1 HZ1
  go_cut [] (fun W => ∃ q2 st, 0 ≤ q2 ∧ q2 < L - q1 ∧ Hid (NB w g ao n c fb L C v ob q1 (q1 + 1 + q2) 0 0 st W) ∧ Hid (st.Ok (B + 4)))
  case first =>
    have hN := HN1.out
    have hL1 : 1 ≤ L - q1 := by omega
    have hL2 : L - q1 ≤ 200 := by omega
    have hwr : IntKind.i64.wrap (L - q1) = L - q1 := IntWalk.i64_in _ (by omega)
    have hwq : IntKind.i64.wrap (q1 + 1) = q1 + 1 := IntWalk.i64_in _ (by omega)
    go_region_held3 (fun W => W.cell? ⟨ob, 0, none⟩ = some (.int .i64 q1) ∧ W.cell? ⟨fb, 0, none⟩ = some (.int .i64 L)) (first | exact NB.c0 (NB.ext hN (Ext.refl _).drew) | exact NB.c0 (by assumption) | exact NB.c0 (NB.set1 (by assumption) _)) (first
      | (go_at_call 105; (try rw [hwr]); refine (HM.out (L - q1) hL1 _).mono ?_; rintro e w' ⟨rfl, rfl⟩)
      | (go_at_call 95; refine (HP.out (L - q1) hL1 hL2 2 (by decide) st1 HOK1.out _ (NB.ext hN (Ext.refl _).drew).src (EX.out _ (NB.ext hN (Ext.refl _).drew).gr)).mono ?_; rintro e w2 ⟨q2, st2, rfl, a2, b2, OK2, s2, g2⟩; have hN2 := (NB.ext hN (Ext.refl _).drew).draw g2 s2; have hw2 : IntKind.i64.wrap (q1 + 1 + q2) = q1 + 1 + q2 := IntWalk.i64_in _ (by omega); obtain ⟨c0, c1, c2⟩ := hN2.cells))
    all_goals
      go_wp2
      go_meet
      exact ⟨q2, st2, a2, b2, Lib.hid (hN2.set1 _), Lib.hid OK2⟩
  case rest =>
    obtain ⟨q2, st2, a2, b2, HN2, OK2⟩ := hcut
    obtain ⟨W2, hW2⟩ : ∃ W2, wc = W2 := ⟨_, rfl⟩
    rw [hW2] at HN2 ⊢
    clear hW2 HN1 HOK1
    obtain ⟨⟨k0, k1, k2, k3⟩, ⟨z0, z1, z2, z3⟩, l0, l1⟩ := HN2.out.cells
    go_wp2_with (go_at_call 105; refine (HM.out C C1 _).mono ?_; rintro e w' ⟨rfl, rfl⟩)
    refine (HP.out C C1 (by omega) 4 (by decide) st2 OK2.out _ HN2.out.src (EX.out _ HN2.out.gr)).mono ?_
    rintro e w3 ⟨q3, st3, rfl, a3, b3, OK3, s3, g3⟩
    clear k0 k1 k2 k3 z0 z1 z2 z3 l0 l1
    have HN3 := Lib.hid (HN2.out.draw g3 s3)
    have HN4 := Lib.hid (HN3.out.set2 q3)
    have HOK3 := Lib.hid OK3
    obtain ⟨⟨k0, k1, k2, k3⟩, ⟨z0, z1, z2, z3⟩, l0, l1⟩ := HN3.out.cells
    clear g3 s3 OK3
    go_upto_region 4 with fail
    obtain ⟨W4, hW4⟩ : ∃ W4, w3.setCell ⟨ob, 2, none⟩ (.int .i64 q3) = W4 := ⟨_, rfl⟩
    rw [hW4] at HN4 ⊢
    clear hW4 k0 k1 k2 k3 z0 z1 z2 z3 l0 l1 HN3 HN2 OK2
    go_cut [] (fun W => ∃ q4 st, 0 ≤ q4 ∧ q4 < C - q3 ∧ Hid (NB w g ao n c fb L C v ob q1 (q1 + 1 + q2) q3 (q3 + 1 + q4) st W) ∧ Hid (st.Ok (B + 8)))
    case first =>
      have hN := HN4.out
      have hL1 : 1 ≤ C - q3 := by omega
      have hL2 : C - q3 ≤ 200 := by omega
      have hwr : IntKind.i64.wrap (C - q3) = C - q3 := IntWalk.i64_in _ (by omega)
      have hwq : IntKind.i64.wrap (q3 + 1) = q3 + 1 := IntWalk.i64_in _ (by omega)
      go_region_held3 (fun W => W.cell? ⟨ob, 2, none⟩ = some (.int .i64 q3) ∧ W.cell? ⟨fb, 1, none⟩ = some (.int .i64 C)) (first | exact NB.c2 (NB.ext hN (Ext.refl _).drew) | exact NB.c2 (by assumption) | exact NB.c2 (NB.set3 (by assumption) _)) (first
        | (go_at_call 105; (try rw [hwr]); refine (HM.out (C - q3) hL1 _).mono ?_; rintro e w' ⟨rfl, rfl⟩)
        | (go_at_call 95; refine (HP.out (C - q3) hL1 hL2 6 (by decide) st3 HOK3.out _ (NB.ext hN (Ext.refl _).drew).src (EX.out _ (NB.ext hN (Ext.refl _).drew).gr)).mono ?_; rintro e w5 ⟨q4, st4, rfl, a4, b4, OK4, s4, g4⟩; have hN5 := (NB.ext hN (Ext.refl _).drew).draw g4 s4; have hw2 : IntKind.i64.wrap (q3 + 1 + q4) = q3 + 1 + q4 := IntWalk.i64_in _ (by omega); obtain ⟨c0, c1, c2⟩ := hN5.cells))
      all_goals
        go_wp2
        go_meet
        exact ⟨q4, st4, a4, b4, Lib.hid (hN5.set3 _), Lib.hid OK4⟩
    case rest =>
      obtain ⟨q4, st4, a4, b4, HN5, OK5⟩ := hcut
      obtain ⟨⟨k0, k1, k2, k3⟩, ⟨z0, z1, z2, z3⟩, l0, l1⟩ := HN5.out.cells
      obtain ⟨p0, p1, p2, p3, e0, e1, e2, e3, _⟩ := four_cells HN5.out.res
      go_wp2
      have hb := heap_setC 3 (.int .i64 (q3 + 1 + q4)) (heap_setC 2 (.int .i64 q3) (heap_setC 1 (.int .i64 (q1 + 1 + q2)) (heap_setC 0 (.int .i64 q1) HN5.out.res)))
      obtain ⟨y0, y1, y2, y3, _⟩ := four_cells hb
      refine bodyPost_ret (v := opnV ⟨q1, q1 + 1 + q2, q3, q3 + 1 + q4⟩) (by simp [results, Try.results71, go_sem, y0, y1, y2, y3, opnV]) rfl ?_
      have hl := HN5.out.lt
      exact ⟨_, st4, rfl, isOpn_of a1 (by omega) (by omega) a3 (by omega) (by omega), OK5.out, heap_setN _ _ _ (heap_setN _ _ _ (heap_setN _ _ _ (heap_setN _ _ _ HN5.out.src (by omega)) (by omega)) (by omega)) (by omega), grown_above (grown_above (grown_above (grown_above HN5.out.gr (Nat.le_refl _) _) (Nat.le_refl _) _) (Nat.le_refl _) _) (Nat.le_refl _) _⟩
end Go.Proofs.Ytnhmcmohnpbcjaa
