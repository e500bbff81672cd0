/- Contracts: a mould is drawn, and spoilt seldom. -/
import Derived.Test.YtdedamamjkpcpaaGreatDoorDs
import Derived.Test.YtdedamamjkpcpaaGreatDoorMould2
import Derived.Test.YtdedamamjkpcpaaGreatDoorHouse0
import Derived.Deep.RegionHeld3
import Derived.Deep.DeepCutAuto
namespace Go.Proofs.YtdedamamjkpcpaaGreatDoor
open Go.RowKit
set_option linter.unusedSimpArgs false
set_option linter.unusedVariables false
set_option linter.unnecessarySimpa false

abbrev four (x y z u : Int) : Array Value := #[.int .i64 x, .int .i64 y, .int .i64 z, .int .i64 u]
/-- what stands in memory while a struct of four numbers is drawn: the result's cells at w's end, the variable's at lb -/
structure LB (T : TypeId) (w : World) (g : Nat) (ao : Option Addr) (n c : Nat) (bs : List UInt8) (W0 : World) (B lb : Nat) (x y z u : Int) (W : World) : Prop where
  ds : DS g ao n c bs W0 B W
  gr : w.grownBy W (some g)
  res : W.heap[w.heap.size]? = some (.cells #[.int .i64 0, .int .i64 0, .int .i64 0, .int .i64 0] T (0, 0))
  box : W.heap[lb]? = some (.cells #[.int .i64 x, .int .i64 y, .int .i64 z, .int .i64 u] T (0, 0))
  lt : w.heap.size < lb
  gs : g < w.heap.size
theorem LB.go {T : TypeId} {w : World} {g : Nat} {ao : Option Addr} {n c : Nat} {bs : List UInt8} {W0 : World} {B B' lb : Nat} {x y z u : Int} {W W' : World} (h : LB T w g ao n c bs W0 B lb x y z u W) (d : DS g ao n c bs W0 B' W') (gr : W.grownBy W' (some g)) : LB T w g ao n c bs W0 B' lb x y z u W' :=
  have h1 := h.gs
  have h2 := h.lt
  ⟨d, h.gr.trans gr, blkQ_grown h.res gr (fun e => by simp at e; omega), blkQ_grown h.box gr (fun e => by simp at e; omega), h.lt, h.gs⟩
theorem LB.ext {T : TypeId} {w : World} {g : Nat} {ao : Option Addr} {n c : Nat} {bs : List UInt8} {W0 : World} {B lb : Nat} {x y z u : Int} {W W' : World} (h : LB T w g ao n c bs W0 B lb x y z u W) (e : Ext W W') : LB T w g ao n c bs W0 B lb x y z u W' :=
  ⟨h.ds.ext e, grownQ_ext h.gr e, e.block h.res, e.block h.box, h.lt, h.gs⟩
theorem LB.low {T : TypeId} {w : World} {g : Nat} {ao : Option Addr} {n c : Nat} {bs : List UInt8} {W0 : World} {B lb : Nat} {x y z u : Int} {W : World} (h : LB T w g ao n c bs W0 B lb x y z u W) : W0.heap.size ≤ lb ∧ W0.heap.size ≤ w.heap.size ∧ g ≠ lb ∧ g ≠ w.heap.size ∧ w.heap.size ≠ lb ∧ lb < W.heap.size := by
  have h1 := h.gs; have h2 := h.lt; have h3 := h.ds.low; have h4 := lt_of_block h.box; omega
theorem LB.set {T : TypeId} {w : World} {g : Nat} {ao : Option Addr} {n c : Nat} {bs : List UInt8} {W0 : World} {B lb : Nat} {x y z u : Int} {W : World} (h : LB T w g ao n c bs W0 B lb x y z u W) (i : Nat) (v : Value) {x' y' z' u' : Int} (hc : (four x y z u).setIfInBounds i v = four x' y' z' u') : LB T w g ao n c bs W0 B lb x' y' z' u' (W.setCell ⟨lb, i, none⟩ v) := by
  obtain ⟨l1, l2, l3, l4, l5, l6⟩ := h.low
  have hl := h.lt
  refine ⟨h.ds.set lb i v l1 l3, grownQ_above h.gr (by dsimp only; omega) _, heapQ_setO _ _ _ h.res l5, ?_, h.lt, h.gs⟩
  have := heap_setS W lb i v h.box
  rw [hc] at this
  exact this
theorem LB.cells {T : TypeId} {w : World} {g : Nat} {ao : Option Addr} {n c : Nat} {bs : List UInt8} {W0 : World} {B lb : Nat} {x y z u : Int} {W : World} (h : LB T w g ao n c bs W0 B lb x y z u W) :
    (W.cell? ⟨lb, 0, none⟩ = some (.int .i64 x) ∧ W.cell? ⟨lb, 1, none⟩ = some (.int .i64 y) ∧ W.cell? ⟨lb, 2, none⟩ = some (.int .i64 z) ∧ W.cell? ⟨lb, 3, none⟩ = some (.int .i64 u)) ∧
    (W.frozen? ⟨lb, 0, none⟩ = false ∧ W.frozen? ⟨lb, 1, none⟩ = false ∧ W.frozen? ⟨lb, 2, none⟩ = false ∧ W.frozen? ⟨lb, 3, none⟩ = false) ∧ lb < W.heap.size := by
  have hb := h.box
  exact ⟨⟨by simp [World.cell?, hb], by simp [World.cell?, hb], by simp [World.cell?, hb], by simp [World.cell?, hb]⟩, ⟨by simp [World.frozen?, hb], by simp [World.frozen?, hb], by simp [World.frozen?, hb], by simp [World.frozen?, hb]⟩, lt_of_block hb⟩
theorem LB.resc {T : TypeId} {w : World} {g : Nat} {ao : Option Addr} {n c : Nat} {bs : List UInt8} {W0 : World} {B lb : Nat} {x y z u : Int} {W : World} (h : LB T w g ao n c bs W0 B lb x y z u W) :
    (W.cell? ⟨w.heap.size, 0, none⟩ = some (.int .i64 0) ∧ W.cell? ⟨w.heap.size, 1, none⟩ = some (.int .i64 0) ∧ W.cell? ⟨w.heap.size, 2, none⟩ = some (.int .i64 0) ∧ W.cell? ⟨w.heap.size, 3, none⟩ = some (.int .i64 0)) ∧
    (W.frozen? ⟨w.heap.size, 0, none⟩ = false ∧ W.frozen? ⟨w.heap.size, 1, none⟩ = false ∧ W.frozen? ⟨w.heap.size, 2, none⟩ = false ∧ W.frozen? ⟨w.heap.size, 3, none⟩ = false) ∧ w.heap.size < W.heap.size := by
  have hb := h.res
  exact ⟨⟨by simp [World.cell?, hb], by simp [World.cell?, hb], by simp [World.cell?, hb], by simp [World.cell?, hb]⟩, ⟨by simp [World.frozen?, hb], by simp [World.frozen?, hb], by simp [World.frozen?, hb], by simp [World.frozen?, hb]⟩, lt_of_block hb⟩
/-- the variable is made -/
theorem LB.first {T : TypeId} {w : World} {g : Nat} {ao : Option Addr} {n c : Nat} {bs : List UInt8} {W0 : World} {B : Nat} {w1 : World} {o : Obj} (ho : o = .cells #[.int .i64 0, .int .i64 0, .int .i64 0, .int .i64 0] T) (hg : g < w.heap.size) (d : DS g ao n c bs W0 B w1) (gr : (w.alloc o).grownBy w1 (some g)) (x y z u : Int) :
    LB T w g ao n c bs W0 B w1.heap.size x y z u (w1.alloc (.cells #[.int .i64 x, .int .i64 y, .int .i64 z, .int .i64 u] T)) := by
  subst ho
  have hr := blkQ_grown (blk_at w (.cells #[.int .i64 0, .int .i64 0, .int .i64 0, .int .i64 0] T) _ rfl) gr (fun e => by simp at e; omega)
  exact ⟨d.ext ((Ext.refl _).alloc _), grownQ_ext ((World.grownBy_alloc w _ _).trans gr) ((Ext.refl _).alloc _), blk_old hr, blk_at _ _ _ rfl, lt_of_block hr, hg⟩
/-- four numbers are drawn, and the source has gone on -/
def RetD4 (P : Int → Int → Int → Int → Prop) (g : Nat) (ao : Option Addr) (n c : Nat) (bs : List UInt8) (W0 : World) (B : Nat) (w : World) (e : Ending) (w' : World) : Prop :=
  ∃ x y z u, e = .returned (.agg #[.int .i64 x, .int .i64 y, .int .i64 z, .int .i64 u]) ∧ P x y z u ∧ DS g ao n c bs W0 B w' ∧ w.grownBy w' (some g)
theorem LB.fin {P : Int → Int → Int → Int → Prop} {T : TypeId} {w : World} {g : Nat} {ao : Option Addr} {n c : Nat} {bs : List UInt8} {W0 : World} {B B' lb : Nat} {x y z u : Int} {W : World} (h : LB T w g ao n c bs W0 B lb x y z u W) (hP : P x y z u) (hB : B ≤ B') (v0 v1 v2 v3 : Value) :
    RetD4 P g ao n c bs W0 B' w (.returned (.agg #[.int .i64 x, .int .i64 y, .int .i64 z, .int .i64 u])) ((((W.setCell ⟨w.heap.size, 0, none⟩ v0).setCell ⟨w.heap.size, 1, none⟩ v1).setCell ⟨w.heap.size, 2, none⟩ v2).setCell ⟨w.heap.size, 3, none⟩ v3) := by
  obtain ⟨l1, l2, l3, l4, l5, l6⟩ := h.low
  refine ⟨x, y, z, u, rfl, hP, ?_, ?_⟩
  · exact ((((h.ds.mono hB).set _ _ _ l2 l4).set _ _ _ l2 l4).set _ _ _ l2 l4).set _ _ _ l2 l4
  · exact grownQ_above (grownQ_above (grownQ_above (grownQ_above h.gr (Nat.le_refl _) _) (Nat.le_refl _) _) (Nat.le_refl _) _) (Nat.le_refl _) _
set_option maxRecDepth 100000 in
set_option maxHeartbeats 4000000 in
theorem s_l05New {g : Nat} {ao : Option Addr} {n c : Nat} {bs : List UInt8} {W0 : World} {B : Nat} (hB : B ≤ 2800000000000000000) (w : World) (h : DS g ao n c bs W0 B w) :
    Calls Tryz.prog 53 #[.pointer (some ⟨g, 0, none⟩)] w (RetD4 (fun x y z u => mouldB x y z u = true) g ao n c bs W0 (B + 8) w) := by
  have HP := Lib.hid (fun (N : Int) (h1 : 1 ≤ N) (h2 : N ≤ 1000000) (B : Nat) (hB : B ≤ 2900000000000000000) (W : World) (h : DS g ao n c bs W0 B W) => pickD N h1 h2 hB h)
  have HG := Lib.hid h.low.2
  have HD := Lib.hid (h.ext ((Ext.refl w).alloc (.cells #[.int .i64 0, .int .i64 0, .int .i64 0, .int .i64 0] 29)))
  clear h
  go_enter Tryz.func53, Tryz.ntmps53
  go_wp2_with fail
  refine (HP.out 60 (by decide) (by decide) _ (by omega) _ HD.out).mono ?_
  rintro e w1 ⟨q1, rfl, a1, a2, d1, g1⟩
  have L1 := LB.first rfl HG.out d1 g1 (200 + q1) 0 0 0
  have HL1 := Lib.hid L1
  obtain ⟨⟨p0, p1, p2, p3⟩, ⟨f0, f1, f2, f3⟩, pl⟩ := L1.cells
  clear L1 HD d1 g1
  go_wp2_with fail
  refine (HP.out 40 (by decide) (by decide) _ (by omega) _ HL1.out.ds).mono ?_
  rintro e w2 ⟨q2, rfl, b1, b2, d2, g2⟩
  have L2 := HL1.out.go d2 g2
  have HL2 := Lib.hid (L2.set 1 (.int .i64 (100 + q2)) (x' := 200 + q1) (y' := 100 + q2) (z' := 0) (u' := 0) rfl)
  clear p0 p1 p2 p3 f0 f1 f2 f3 pl
  obtain ⟨⟨p0, p1, p2, p3⟩, ⟨f0, f1, f2, f3⟩, pl⟩ := L2.cells
  clear L2 HL1 d2 g2
  go_wp2_with fail
  refine (HP.out 40 (by decide) (by decide) _ (by omega) _ HL2.out.ds).mono ?_
  rintro e w3 ⟨q3, rfl, c1, c2, d3, g3⟩
  have L3 := HL2.out.go d3 g3
  have HL3 := Lib.hid (L3.set 2 (.int .i64 (60 + q3)) (x' := 200 + q1) (y' := 100 + q2) (z' := 60 + q3) (u' := 0) rfl)
  clear p0 p1 p2 p3 f0 f1 f2 f3 pl
  obtain ⟨⟨p0, p1, p2, p3⟩, ⟨f0, f1, f2, f3⟩, pl⟩ := L3.cells
  clear L3 HL2 d3 g3
  go_wp2_with fail
  refine (HP.out 12 (by decide) (by decide) _ (by omega) _ HL3.out.ds).mono ?_
  rintro e w4 ⟨q4, rfl, k1, k2, d4, g4⟩
  have L4 := HL3.out.go d4 g4
  have HL4 := Lib.hid (L4.set 3 (.int .i64 (10 * q4)) (x' := 200 + q1) (y' := 100 + q2) (z' := 60 + q3) (u' := 10 * q4) rfl)
  clear p0 p1 p2 p3 f0 f1 f2 f3 pl
  obtain ⟨⟨p0, p1, p2, p3⟩, ⟨f0, f1, f2, f3⟩, pl⟩ := L4.cells
  obtain ⟨⟨r0, r1, r2, r3⟩, ⟨s0, s1, s2, s3⟩, rl⟩ := L4.resc
  have hne : w1.heap.size ≠ w.heap.size := fun e => L4.low.2.2.2.2.1 e.symm
  clear L4 HL3 d4 g4
  go_wp2
  refine bodyPost_ret (v := .agg #[.int .i64 (200 + q1), .int .i64 (100 + q2), .int .i64 (60 + q3), .int .i64 (10 * q4)]) (by simp [results, Tryz.results53, go_sem, r0, r1, r2, r3, hne]) rfl ?_
  exact HL4.out.fin (by unfold mouldB; simp only [Bool.and_eq_true, inB_iff]; omega) (by omega) _ _ _ _
def l_s5 : List Int := [29, 30, 800, 801, -9223372036854775808]
theorem l_s5_ok : ∀ x ∈ l_s5, IsI64 x := fun x hx => by
  simp [l_s5] at hx
  unfold IsI64
  omega
def l_w4 : List Int := [-1, 30, 800, 801]
theorem l_w4_ok : ∀ x ∈ l_w4, IsI64 x := fun x hx => by
  simp [l_w4] at hx
  unfold IsI64
  omega
def l_h4 : List Int := [29, 30, 800, 801]
theorem l_h4_ok : ∀ x ∈ l_h4, IsI64 x := fun x hx => by
  simp [l_h4] at hx
  unfold IsI64
  omega
def l_u4 : List Int := [-1, 0, 100000, 100001]
theorem l_u4_ok : ∀ x ∈ l_u4, IsI64 x := fun x hx => by
  simp [l_u4] at hx
  unfold IsI64
  omega
def l_n4 : List Int := [-1, 0, 200, 201]
theorem l_n4_ok : ∀ x ∈ l_n4, IsI64 x := fun x hx => by
  simp [l_n4] at hx
  unfold IsI64
  omega
theorem L_among {g : Nat} {ao : Option Addr} {n c : Nat} {bs : List UInt8} {W0 : World} (ys : List Int) (hi : ∀ x ∈ ys, IsI64 x) (cs : Array Value) (hcs : cs = (ys.map (Value.int .i64)).toArray) (m : Nat) (hm : ys.length = m) (hm1 : 1 ≤ m) (hm2 : m ≤ 200) {B : Nat} (hB : B ≤ 2900000000000000000) {W : World} (h : DS g ao n c bs W0 B W) :
    Calls Tryz.prog 41 #[.pointer (some ⟨g, 0, none⟩), .slice (some ⟨W.heap.size, 0, none⟩) m m] (W.alloc (.cells cs 2)) (fun e w' => ∃ x, e = .returned (.int .i64 x) ∧ x ∈ ys ∧ DS g ao n c bs W0 (B + 2) w' ∧ (W.alloc (.cells cs 2)).grownBy w' (some g)) :=
  amongD ys cs hcs hi m hm hm1 hm2 hB (h.ext ((Ext.refl W).alloc _)) W.heap.size (heap_alloc_new W _) (by have := h.low; omega)
set_option maxRecDepth 100000 in
set_option maxHeartbeats 4000000 in
theorem s_l05Spoil {w : World} {g : Nat} {ao : Option Addr} {n c : Nat} {bs : List UInt8} {W0 : World} {B lb : Nat} {x y z u : Int} (hB : B ≤ 2800000000000000000) (W : World) (h : LB 29 w g ao n c bs W0 B lb x y z u W) :
    Calls Tryz.prog 61 #[.pointer (some ⟨g, 0, none⟩), .pointer (some ⟨lb, 0, none⟩)] W (fun e w' => e = .returned (.tuple #[]) ∧ ∃ x' y' z' u', LB 29 w g ao n c bs W0 (B + 4) lb x' y' z' u' w') := by
  have HP := Lib.hid (pickD (g := g) (ao := ao) (n := n) (c := c) (bs := bs) (W0 := W0) 4 (by decide) (by decide) (by omega) h.ds)
  have HL := Lib.hid h
  clear h
  go_enter Tryz.func61, Tryz.ntmps61
  go_wp2_with fail
  refine HP.out.mono ?_
  rintro e w1 ⟨q, rfl, a1, a2, d1, g1⟩
  have HL1 := Lib.hid (HL.out.go d1 g1)
  have HA := Lib.hid (fun (ys : List Int) (hi : ∀ x ∈ ys, IsI64 x) (cs : Array Value) (hcs : cs = (ys.map (Value.int .i64)).toArray) (m : Nat) (hm : ys.length = m) (hm1 : 1 ≤ m) (hm2 : m ≤ 200) => L_among ys hi cs hcs m hm hm1 hm2 (by omega) d1)
  clear d1 g1 HL HP
  have hq : q = 0 ∨ q = 1 ∨ q = 2 ∨ q = 3 := by omega
  rcases hq with rfl | rfl | rfl | rfl
  · go_wp2_with fail
    refine (HA.out l_s5 l_s5_ok _ (by rfl) 5 rfl (by decide) (by decide)).mono ?_
    rintro e w2 ⟨v, rfl, hv, d2, g2⟩
    have L2 := (HL1.out.ext ((Ext.refl _).alloc _)).go d2 g2
    have HL2 := Lib.hid (L2.set 0 (.int .i64 v) (x' := v) (y' := y) (z' := z) (u' := u) rfl)
    obtain ⟨⟨p0, p1, p2, p3⟩, ⟨f0, f1, f2, f3⟩, pl⟩ := L2.cells
    clear L2 d2 g2 hv HA HL1
    go_wp2
    go_end0
    exact ⟨rfl, _, _, _, _, HL2.out⟩
  · go_wp2_with fail
    refine (HA.out l_w4 l_w4_ok _ (by rfl) 4 rfl (by decide) (by decide)).mono ?_
    rintro e w2 ⟨v, rfl, hv, d2, g2⟩
    have L2 := (HL1.out.ext ((Ext.refl _).alloc _)).go d2 g2
    have HL2 := Lib.hid (L2.set 1 (.int .i64 v) (x' := x) (y' := v) (z' := z) (u' := u) rfl)
    obtain ⟨⟨p0, p1, p2, p3⟩, ⟨f0, f1, f2, f3⟩, pl⟩ := L2.cells
    clear L2 d2 g2 hv HA HL1
    go_wp2
    go_end0
    exact ⟨rfl, _, _, _, _, HL2.out⟩
  · go_wp2_with fail
    refine (HA.out l_h4 l_h4_ok _ (by rfl) 4 rfl (by decide) (by decide)).mono ?_
    rintro e w2 ⟨v, rfl, hv, d2, g2⟩
    have L2 := (HL1.out.ext ((Ext.refl _).alloc _)).go d2 g2
    have HL2 := Lib.hid (L2.set 2 (.int .i64 v) (x' := x) (y' := y) (z' := v) (u' := u) rfl)
    obtain ⟨⟨p0, p1, p2, p3⟩, ⟨f0, f1, f2, f3⟩, pl⟩ := L2.cells
    clear L2 d2 g2 hv HA HL1
    go_wp2
    go_end0
    exact ⟨rfl, _, _, _, _, HL2.out⟩
  · go_wp2_with fail
    refine (HA.out l_u4 l_u4_ok _ (by rfl) 4 rfl (by decide) (by decide)).mono ?_
    rintro e w2 ⟨v, rfl, hv, d2, g2⟩
    have L2 := (HL1.out.ext ((Ext.refl _).alloc _)).go d2 g2
    have HL2 := Lib.hid (L2.set 3 (.int .i64 v) (x' := x) (y' := y) (z' := z) (u' := v) rfl)
    obtain ⟨⟨p0, p1, p2, p3⟩, ⟨f0, f1, f2, f3⟩, pl⟩ := L2.cells
    clear L2 d2 g2 hv HA HL1
    go_wp2
    go_end0
    exact ⟨rfl, _, _, _, _, HL2.out⟩
set_option maxRecDepth 100000 in
set_option maxHeartbeats 4000000 in
theorem s_l05Other {g : Nat} {ao : Option Addr} {n c : Nat} {bs : List UInt8} {W0 : World} {B : Nat} (hB : B ≤ 2700000000000000000) (w : World) (h : DS g ao n c bs W0 B w) :
    Calls Tryz.prog 34 #[.pointer (some ⟨g, 0, none⟩)] w (RetD4 (fun _ _ _ _ => True) g ao n c bs W0 (B + 14) w) := by
  have HG := Lib.hid h.low.2
  have HN := Lib.hid (s_l05New (by omega) _ (h.ext ((Ext.refl w).alloc (.cells #[.int .i64 0, .int .i64 0, .int .i64 0, .int .i64 0] 29))))
  clear h
  go_enter Tryz.func34, Tryz.ntmps34
  go_wp2_with fail
  refine HN.out.mono ?_
  rintro e w1 ⟨x, y, z, u, rfl, _, d1, g1⟩
  have L1 := LB.first rfl HG.out d1 g1 x y z u
  have HL1 := Lib.hid L1
  have HO := Lib.hid (oneD (g := g) (ao := ao) (n := n) (c := c) (bs := bs) (W0 := W0) 6 (by decide) (by decide) (by omega) L1.ds)
  clear L1 d1 g1 HN
  go_wp2_with fail
  refine HO.out.mono ?_
  rintro e w2 ⟨b, rfl, d2, g2⟩
  have L2 := HL1.out.go d2 g2
  have HL2 := Lib.hid L2
  have HS := Lib.hid (s_l05Spoil (by omega) _ L2)
  obtain ⟨⟨p0, p1, p2, p3⟩, ⟨f0, f1, f2, f3⟩, pl⟩ := L2.cells
  obtain ⟨⟨r0, r1, r2, r3⟩, ⟨s0, s1, s2, s3⟩, rl⟩ := L2.resc
  clear L2 d2 g2 HL1 HO
  cases b with
  | false =>
    go_wp2
    refine bodyPost_ret (v := .agg #[.int .i64 x, .int .i64 y, .int .i64 z, .int .i64 u]) (by simp [results, Tryz.results34, go_sem, r0, r1, r2, r3]) rfl ?_
    exact HL2.out.fin trivial (by omega) _ _ _ _
  | true =>
    go_wp2_with fail
    refine HS.out.mono ?_
    rintro e w3 ⟨rfl, x', y', z', u', L3⟩
    have HL3 := Lib.hid L3
    clear p0 p1 p2 p3 f0 f1 f2 f3 pl r0 r1 r2 r3 s0 s1 s2 s3 rl HL2 HS
    obtain ⟨⟨p0, p1, p2, p3⟩, ⟨f0, f1, f2, f3⟩, pl⟩ := L3.cells
    obtain ⟨⟨r0, r1, r2, r3⟩, ⟨s0, s1, s2, s3⟩, rl⟩ := L3.resc
    clear L3
    go_wp2
    refine bodyPost_ret (v := .agg #[.int .i64 x', .int .i64 y', .int .i64 z', .int .i64 u']) (by simp [results, Tryz.results34, go_sem, r0, r1, r2, r3]) rfl ?_
    exact HL3.out.fin trivial (by omega) _ _ _ _
/-- a number is drawn, and the source has gone on -/
def RetD1 (g : Nat) (ao : Option Addr) (n c : Nat) (bs : List UInt8) (W0 : World) (B : Nat) (w : World) (e : Ending) (w' : World) : Prop := ∃ x, e = .returned (.int .i64 x) ∧ DS g ao n c bs W0 B w' ∧ w.grownBy w' (some g)
set_option maxHeartbeats 4000000 in
theorem s_l05Shrink {g : Nat} {ao : Option Addr} {n c : Nat} {bs : List UInt8} {W0 : World} {B : Nat} (hB : B ≤ 2800000000000000000) (w : World) (h : DS g ao n c bs W0 B w) :
    Calls Tryz.prog 26 #[.pointer (some ⟨g, 0, none⟩)] w (RetD1 g ao n c bs W0 (B + 4) w) := by
  have HO := Lib.hid (oneD (g := g) (ao := ao) (n := n) (c := c) (bs := bs) (W0 := W0) 10 (by decide) (by decide) (by omega) h)
  clear h
  go_enter Tryz.func26, Tryz.ntmps26
  go_wp2_with fail
  refine HO.out.mono ?_
  rintro e w1 ⟨b, rfl, d1, g1⟩
  have HG1 := Lib.hid g1
  have HA := Lib.hid (L_among l_n4 l_n4_ok _ rfl 4 rfl (by decide) (by decide) (by omega) d1)
  have HP := Lib.hid (pickD (g := g) (ao := ao) (n := n) (c := c) (bs := bs) (W0 := W0) 120 (by decide) (by decide) (by omega) d1)
  clear d1 g1 HO
  cases b with
  | true =>
    go_wp2_with fail
    refine HA.out.mono ?_
    rintro e w2 ⟨v, rfl, hv, d2, g2⟩
    have HD2 := Lib.hid d2
    have HG2 := Lib.hid ((HG1.out.trans (World.grownBy_alloc _ _ _)).trans g2)
    clear d2 g2 hv HA HP
    go_wp2
    go_ret
    exact ⟨v, rfl, HD2.out, HG2.out⟩
  | false =>
    go_wp2_with fail
    refine HP.out.mono ?_
    rintro e w2 ⟨v, rfl, v1, v2, d2, g2⟩
    have HD2 := Lib.hid d2
    have HG2 := Lib.hid (HG1.out.trans g2)
    clear d2 g2 HA HP
    go_wp2
    go_ret
    exact ⟨_, rfl, HD2.out, HG2.out⟩
end Go.Proofs.YtdedamamjkpcpaaGreatDoor
