/- For every front and every opening the law FnExactAddOpening answers true: the program's AddOpening returns what the reference's returns, leaves its arguments as they were, and hands back memory of its own. No condition. -/
import Derived.Test.YtnhmcmohnpbcjaaAddI
import Derived.Test.YtnhmcmohnpbcjaaGaFd
import Derived.Test.YtnhmcmohnpbcjaaFrontH
import Derived.Test.YtnhmcmohnpbcjaaOpen2
import Derived.Deep.RegionHeld3
import Derived.Deep.DeepCutAuto
namespace Go.Proofs.Ytnhmcmohnpbcjaa
open Go.RowKit
set_option linter.unusedSimpArgs false
set_option linter.unusedVariables false
set_option linter.unnecessarySimpa false

theorem keepTT {w2 W W' : World} {b1 b2 : Nat} {x1 y1 z1 x2 y2 z2 : Value} (h : Three W b1 x1 y1 z1 ∧ Three W b2 x2 y2 z2 ∧ Ext w2 W) (e : Ext W W') : Three W' b1 x1 y1 z1 ∧ Three W' b2 x2 y2 z2 ∧ Ext w2 W' := ⟨h.1.ext e, h.2.1.ext e, h.2.2.trans e⟩
theorem heldTT {w2 W : World} {b1 b2 : Nat} {x1 y1 z1 x2 y2 z2 : Value} (h : Three W b1 x1 y1 z1 ∧ Three W b2 x2 y2 z2 ∧ Ext w2 W) : Ext w2 W := h.2.2
theorem add_form (L C : Int) (os : List Opn) (x : Opn) : ∃ L' C' ps r, ps.length ≤ 9 ∧ ∀ w, RetAdd L C os x w = RetFrC L' C' ps r w := by
  by_cases h : addC L C os x = 0
  · exact ⟨L, C, putO os x, 0, by rw [putO_len]; have := (addC_valid h).2.2.2; omega, fun w => by funext e w'; unfold RetAdd; rw [if_pos h]⟩
  · exact ⟨0, 0, [], addC L C os x, by simp, fun w => by funext e w'; unfold RetAdd; rw [if_neg h]⟩
theorem blk_grown {w w' : World} {row : Option Nat} {b : Nat} {o : Obj} (h : w.heap[b]? = some o) (g : w.grownBy w' row) (hne : some b ≠ row) : w'.heap[b]? = some o := (g.block b (lt_of_block h) hne).trans h
/-- a front lies in a box of the call's own -/
structure FrAt (W0 : World) (b : Nat) (L C : Int) (a : Option Addr) (n cap : Nat) (ps : List Opn) (W : World) : Prop where
  lo : W0.heap.size ≤ b
  hi : b < W.heap.size
  box : W.heap[b]? = some (.cells #[.int .i64 L, .int .i64 C, .slice a n cap] 30 (0, 0))
  own : OwnOpens W W0.heap.size (.slice a n cap) ps
  ne : ∀ j, (Value.slice a n cap).ownBlock = some j → b ≠ j
  ext : Ext W0 W
theorem FrAt.fill {W0 W : World} {b : Nat} {a : Option Addr} {n cap base : Nat} {ps : List Opn} (hz : W.heap[b]? = some zF) (hb : W0.heap.size ≤ b) (ho : OwnOpens W base (.slice a n cap) ps) (hbase : W0.heap.size ≤ base) (hlt : b < base) (e : Ext W0 W) (L C : Int) :
    FrAt W0 b L C a n cap ps (((W.setCell ⟨b, 0, none⟩ (.int .i64 L)).setCell ⟨b, 1, none⟩ (.int .i64 C)).setCell ⟨b, 2, none⟩ (.slice a n cap)) := by
  have hne : ∀ j, (Value.slice a n cap).ownBlock = some j → b ≠ j := fun j hj h => by have := (ho.1.lt j hj).1; omega
  have hb2 := heap_setC 2 (.slice a n cap) (heap_setC 1 (.int .i64 C) (heap_setC 0 (.int .i64 L) hz))
  exact ⟨hb, lt_of_block hb2, hb2, (((ho.setOther hne _).setOther hne _).setOther hne _).mono hbase, hne, ext_set3 e hb _ _ _⟩
theorem FrAt.new {W0 W : World} {a : Option Addr} {n cap base : Nat} {ps : List Opn} (ho : OwnOpens W base (.slice a n cap) ps) (hbase : W0.heap.size ≤ base) (e : Ext W0 W) (L C : Int) :
    FrAt W0 W.heap.size L C a n cap ps (W.alloc (.cells #[.int .i64 L, .int .i64 C, .slice a n cap] 30)) :=
  ⟨e.size, by rw [World.size_alloc]; exact Nat.lt_succ_self _, heap_alloc_new W _, (ho.ext ((Ext.refl _).alloc _)).mono hbase, fun j hj h => by have := (ho.1.lt j hj).2; omega, e.alloc _⟩

set_option maxRecDepth 100000 in
set_option maxHeartbeats 4000000 in
theorem walk_FnExactAddOpening (p q : Int) (ao : Option Addr) (n c : Nat) (xs : List Opn) (o1 o2 o3 o4 : Int) (w : World) (hp : IsI64 p) (hq : IsI64 q) (hx : Opens w ao n xs) (k1 : IsI64 o1) (k2 : IsI64 o2) (k3 : IsI64 o3) (k4 : IsI64 o4) :
    Calls Try.prog 3 #[.agg #[.int .i64 p, .int .i64 q, .slice ao n c], .agg #[.int .i64 o1, .int .i64 o2, .int .i64 o3, .int .i64 o4]] w fun e w' => e = .returned (.bool true) ∧ Below w.heap.size w w' := by
  have hxm := hx.2.1
  have hxl := hx.1
  have hok : (⟨o1, o2, o3, o4⟩ : Opn).ok := ⟨k1, k2, k3, k4⟩
  have e0 : Ext w ((w.alloc (.cells #[.int .i64 p, .int .i64 q, .slice ao n c] 24)).alloc (.cells #[.int .i64 o1, .int .i64 o2, .int .i64 o3, .int .i64 o4] 26)) := ((Ext.refl w).alloc _).alloc _
  by_cases h1 : (n : Int) ≤ 1048576
  · have hl1 : sel (decide ((n : Int) ≤ 1048576)) (1048576 - n) (-1) = 1048576 - n := by simp [sel, h1]
    have HL1 := Lib.hid hl1
    have hA := fun W (e : Ext w W) => l_toFront p q ao n c xs W (hx.ext e) (by omega)
    have HA := Lib.hid hA
    have HB := Lib.hid (fun W => l_toOpening o1 o2 o3 o4 W)
    have hS := fun ao c W (h : Opens W ao xs.length xs) (hnc : xs.length ≤ c) (hc : ao = none → c = 0) (hc2 : c ≤ 9223372036854775807) => s_AddOpening p q ao xs.length c xs ⟨o1, o2, o3, o4⟩ W h hnc hc hc2 hok
    have hI := fun ao c W (h : Opens W ao xs.length xs) (hnc : xs.length ≤ c) (hc : ao = none → c = 0) => i_AddOpening p q ao xs.length c xs ⟨o1, o2, o3, o4⟩ W h hnc hc hok
    obtain ⟨L', C', ps, r, hpl, hform⟩ := add_form p q xs ⟨o1, o2, o3, o4⟩
    simp only [hform, opnV] at hS hI
    have HS := Lib.hid hS
    have HI := Lib.hid hI
    have tr : (r != r) = false := by simp
    have HEQ := Lib.hid (fun W ao bo c d h1 h2 => show Calls Try.prog 15 #[.agg #[.int .i64 L', .int .i64 C', .slice ao ps.length c], .agg #[.int .i64 L', .int .i64 C', .slice bo ps.length d]] W (RetE (.bool true) W) from (by have := l_eqFront L' C' L' C' ao bo ps.length ps.length c d ps ps W h1 h2; rwa [show sameF L' C' L' C' ps ps = true by simp [sameF]] at this))
    have hxn : xs.length ≤ 1048576 := by omega
    have HXL := Lib.hid hxl
    have A0 := (Three.new w (.int .i64 p) (.int .i64 q) (.slice ao n c) 24).ext ((Ext.refl _).alloc (.cells #[.int .i64 o1, .int .i64 o2, .int .i64 o3, .int .i64 o4] 26))
    have B0 : Four ((w.alloc (.cells #[.int .i64 p, .int .i64 q, .slice ao n c] 24)).alloc (.cells #[.int .i64 o1, .int .i64 o2, .int .i64 o3, .int .i64 o4] 26)) (w.heap.size + 1) 0 o1 o2 o3 o4 := by
      have := four_new (w.alloc (.cells #[.int .i64 p, .int .i64 q, .slice ao n c] 24)) o1 o2 o3 o4 26
      rwa [World.size_alloc] at this
    have HA0 := Lib.hid A0
    have HB0 := Lib.hid B0
    have HE0 := Lib.hid e0
    obtain ⟨W0, hW0⟩ : ∃ W, (w.alloc (.cells #[.int .i64 p, .int .i64 q, .slice ao n c] 24)).alloc (.cells #[.int .i64 o1, .int .i64 o2, .int .i64 o3, .int .i64 o4] 26) = W := ⟨_, rfl⟩
    rw [hW0] at HA0 HB0 HE0
    have HST : Hid (∀ W, Ext W0 W → (W.cell? ⟨w.heap.size, 0, none⟩ = some (.int .i64 p) ∧ W.cell? ⟨w.heap.size, 1, none⟩ = some (.int .i64 q) ∧ W.cell? ⟨w.heap.size, 2, none⟩ = some (.slice ao n c)) ∧ (W.cell? ⟨w.heap.size + 1, 0, none⟩ = some (.int .i64 o1) ∧ W.cell? ⟨w.heap.size + 1, 1, none⟩ = some (.int .i64 o2) ∧ W.cell? ⟨w.heap.size + 1, 2, none⟩ = some (.int .i64 o3) ∧ W.cell? ⟨w.heap.size + 1, 3, none⟩ = some (.int .i64 o4))) := Lib.hid (fun W e => by
      obtain ⟨a, b, c, _⟩ := HA0.out.ext e
      have h := HB0.out.ext e
      simp only [Four, Nat.zero_add] at h
      exact ⟨⟨a, b, c⟩, h⟩)
    obtain ⟨⟨t0, t1, t2⟩, u0, u1, u2, u3⟩ := HST.out W0 (Ext.refl _)
    clear hl1 hA hS hI hxl hform hp hq hx hok A0 B0 e0 k1 k2 k3 k4
    go_enter Try.func3, Try.ntmps3
    go_wp2_with fail
    clear hW0
    refine (l_szFront _ _ _ _ _ _ _ hxm (by omega) (by omega)).mono ?_
    rw [HL1.out]
    rintro e w1 ⟨rfl, e1⟩
    have E1 := Lib.hid e1
    clear e1 t0 t1 t2 u0 u1 u2 u3
    go_upto_region 5 with fail
    go_cut [6, 7] (fun v6 v7 W => ∃ b6 aw cw, v6 = .pointer (some ⟨b6, 0, none⟩) ∧ v7 = .int .i64 r ∧ Hid (FrAt w1 b6 L' C' aw ps.length cw ps W))
    case first =>
      have hE := E1.out
      have hE0 := HE0.out
      go_region_held3 (fun W => (W.cell? ⟨w.heap.size, 0, none⟩ = some (.int .i64 p) ∧ W.cell? ⟨w.heap.size, 1, none⟩ = some (.int .i64 q) ∧ W.cell? ⟨w.heap.size, 2, none⟩ = some (.slice ao n c)) ∧ (W.cell? ⟨w.heap.size + 1, 0, none⟩ = some (.int .i64 o1) ∧ W.cell? ⟨w.heap.size + 1, 1, none⟩ = some (.int .i64 o2) ∧ W.cell? ⟨w.heap.size + 1, 2, none⟩ = some (.int .i64 o3) ∧ W.cell? ⟨w.heap.size + 1, 3, none⟩ = some (.int .i64 o4))) (first
        | exact HST.out _ hE.drew
        | exact HST.out _ (hE.drew.alloc _)
        | exact HST.out _ (hE.trans (by assumption))
        | exact HST.out _ ((hE.trans (by assumption)).alloc _)
        | exact HST.out _ (ext_set3 (hE.trans (by assumption)) (Nat.le_trans hE.size (by assumption)) _ _ _)) (first
        | (go_at_call 12; first
            | (refine (HA.out _ (hE0.trans hE.drew)).mono ?_; rintro e w2 ⟨a2, c2, rfl, ow2, e2⟩; have f2 : Ext w1 w2 := (Ext.refl w1).drew.trans e2)
            | (refine (HA.out _ (hE0.trans (hE.drew.alloc _))).mono ?_; rintro e w2 ⟨a2, c2, rfl, ow2, e2⟩; have f2 : Ext w1 w2 := ((Ext.refl w1).drew.alloc _).trans e2; have hz2 := e2.block (blk_at w1.drew zF w1.heap.size rfl); have hlo : w1.heap.size ≤ w1.heap.size := Nat.le_refl _))
        | (go_at_call 13; refine (HB.out _).mono ?_; rintro e w3 ⟨rfl, e3⟩; first
            | (have f3 : Ext w2 w3 := e3; have g3 : Ext w1 w3 := f2.trans f3; (try have hz3 := e3.block hz2))
            | (have f3 : Ext w2 w3 := ((Ext.refl w2).alloc _).trans e3; have g3 : Ext w1 w3 := f2.trans f3; have hz3 := e3.block (blk_at w2 zF w2.heap.size rfl); have hlo : w1.heap.size ≤ w2.heap.size := f2.size))
        | (go_at_call 11; first
            | (refine (HS.out a2 c2 _ (ow2.opens.ext f3) ow2.cap ow2.nilcap ow2.capmax).mono ?_; rintro e w4 ⟨aw, cw, rfl, ow4, e4⟩; have g4 : Ext w1 w4 := g3.trans e4; have hbb : w1.heap.size ≤ w3.heap.size := g3.size; (try (have hz4 := e4.block hz3; have hzl := lt_of_block hz3; obtain ⟨z0, z1, z2, y0, y1, y2, _⟩ := three_cells hz4)))
            | (refine (HS.out a2 c2 _ (ow2.opens.ext (f3.alloc _)) ow2.cap ow2.nilcap ow2.capmax).mono ?_; rintro e w4 ⟨aw, cw, rfl, ow4, e4⟩; have g4 : Ext w1 w4 := (g3.alloc _).trans e4; have hz4 := e4.block (blk_at w3 zF w3.heap.size rfl); have hzl : w3.heap.size < (w3.alloc zF).heap.size := (by rw [World.size_alloc]; exact Nat.lt_succ_self _); have hlo : w1.heap.size ≤ w3.heap.size := g3.size; have hbb : w1.heap.size ≤ (w3.alloc zF).heap.size := (g3.alloc _).size; obtain ⟨z0, z1, z2, y0, y1, y2, _⟩ := three_cells hz4)))
      all_goals
        go_wp2
        go_meet
        first
        | exact ⟨_, aw, cw, rfl, rfl, Lib.hid (FrAt.fill hz4 hlo ow4 hbb hzl g4 L' C')⟩
        | exact ⟨_, aw, cw, rfl, rfl, Lib.hid (FrAt.new ow4 hbb g4 L' C')⟩
    case rest =>
      obtain ⟨b6, aw, cw, rfl, rfl, HF6⟩ := hcut
      obtain ⟨wA, hwA⟩ : ∃ W, wc = W := ⟨_, rfl⟩
      rw [hwA] at HF6 ⊢
      clear hwA
      have HEA := Lib.hid (HE0.out.trans (E1.out.trans HF6.out.ext))
      have HWA := Lib.hid (E1.out.trans HF6.out.ext)
      obtain ⟨⟨t0, t1, t2⟩, u0, u1, u2, u3⟩ := HST.out wA HWA.out
      go_wp2_with fail
      refine (HA.out _ HEA.out).mono ?_
      rintro e w4 ⟨a4, c4, rfl, ow4, e4⟩
      have HE45 : Hid (Ext wA (w4.alloc (.cells #[.int .i64 p, .int .i64 q, .slice a4 xs.length c4] 30))) := Lib.hid (e4.alloc _)
      have HX4 : Hid (OwnOpens (w4.alloc (.cells #[.int .i64 p, .int .i64 q, .slice a4 xs.length c4] 30)) wA.heap.size (.slice a4 xs.length c4) xs) := Lib.hid (ow4.ext ((Ext.refl _).alloc _))
      have HB4 : Hid (∀ j, (Value.slice a4 xs.length c4).ownBlock = some j → wA.heap.size ≤ j ∧ j < w4.heap.size) := Lib.hid (fun j hj => ow4.1.lt j hj)
      have HC : Hid (Three (w4.alloc (.cells #[.int .i64 p, .int .i64 q, .slice a4 xs.length c4] 30)) w4.heap.size (.int .i64 p) (.int .i64 q) (.slice a4 xs.length c4)) := Lib.hid (Three.new w4 _ _ _ _)
      clear e4 ow4 t0 t1 t2 u0 u1 u2 u3
      go_upto_region 7 with fail
      obtain ⟨W5, hW5⟩ : ∃ W, w4.alloc (.cells #[.int .i64 p, .int .i64 q, .slice a4 xs.length c4] 30) = W := ⟨_, rfl⟩
      have HZ5 : Hid (W5.heap.size = w4.heap.size + 1) := Lib.hid (by rw [← hW5]; simp)
      obtain ⟨b8, hb8⟩ : ∃ b, w4.heap.size = b := ⟨_, rfl⟩
      rw [hW5] at HE45 HX4 HC ⊢
      rw [hb8] at HB4 HC HZ5 ⊢
      clear hW5 hb8
      have HST7 : Hid (∀ W, Ext W5 W → (W.cell? ⟨b8, 0, none⟩ = some (.int .i64 p) ∧ W.cell? ⟨b8, 1, none⟩ = some (.int .i64 q) ∧ W.cell? ⟨b8, 2, none⟩ = some (.slice a4 xs.length c4)) ∧ (W.cell? ⟨w.heap.size + 1, 0, none⟩ = some (.int .i64 o1) ∧ W.cell? ⟨w.heap.size + 1, 1, none⟩ = some (.int .i64 o2) ∧ W.cell? ⟨w.heap.size + 1, 2, none⟩ = some (.int .i64 o3) ∧ W.cell? ⟨w.heap.size + 1, 3, none⟩ = some (.int .i64 o4))) := Lib.hid (fun W e => by
        obtain ⟨a, b, c, _⟩ := HC.out.ext e
        exact ⟨⟨a, b, c⟩, (HST.out W (HWA.out.trans (HE45.out.trans e))).2⟩)
      go_cut [9, 10] (fun v9 v10 W => ∃ b9 ag cg, v9 = .pointer (some ⟨b9, 0, none⟩) ∧ v10 = .int .i64 r ∧ Hid (FrAt W5 b9 L' C' ag ps.length cg ps W))
      case first =>
        have hE7 := Ext.refl W5
        go_region_held3 (fun W => (W.cell? ⟨b8, 0, none⟩ = some (.int .i64 p) ∧ W.cell? ⟨b8, 1, none⟩ = some (.int .i64 q) ∧ W.cell? ⟨b8, 2, none⟩ = some (.slice a4 xs.length c4)) ∧ (W.cell? ⟨w.heap.size + 1, 0, none⟩ = some (.int .i64 o1) ∧ W.cell? ⟨w.heap.size + 1, 1, none⟩ = some (.int .i64 o2) ∧ W.cell? ⟨w.heap.size + 1, 2, none⟩ = some (.int .i64 o3) ∧ W.cell? ⟨w.heap.size + 1, 3, none⟩ = some (.int .i64 o4))) (first
          | exact HST7.out _ hE7.drew
          | exact HST7.out _ (hE7.drew.alloc _)
          | exact HST7.out _ (by assumption)
          | exact HST7.out _ ((by assumption : Ext W5 _).alloc _)
          | exact HST7.out _ (ext_set3 (by assumption) (by assumption) _ _ _)) (first
          | (go_at_call 13; refine (HB.out _).mono ?_; rintro e w6 ⟨rfl, e6⟩; first
              | (have g6 : Ext W5 w6 := (Ext.refl W5).drew.trans e6)
              | (have g6 : Ext W5 w6 := ((Ext.refl W5).drew.alloc _).trans e6; have hz6 := e6.block (blk_at W5.drew zF W5.heap.size rfl); have hlo : W5.heap.size ≤ W5.heap.size := Nat.le_refl _))
          | (go_at_call 14; first
              | (refine (HI.out a4 c4 _ (HX4.out.opens.ext g6) HX4.out.cap HX4.out.nilcap).mono ?_; rintro e w7 ⟨ag, cg, rfl, ow7, e7⟩; have g7 : Ext W5 w7 := g6.trans e7; have hbb : W5.heap.size ≤ w6.heap.size := g6.size; (try (have hz7 := e7.block hz6; have hzl := lt_of_block hz6; obtain ⟨z0, z1, z2, y0, y1, y2, _⟩ := three_cells hz7)))
              | (refine (HI.out a4 c4 _ (HX4.out.opens.ext (g6.alloc _)) HX4.out.cap HX4.out.nilcap).mono ?_; rintro e w7 ⟨ag, cg, rfl, ow7, e7⟩; have g7 : Ext W5 w7 := (g6.alloc _).trans e7; have hz7 := e7.block (blk_at w6 zF w6.heap.size rfl); have hzl : w6.heap.size < (w6.alloc zF).heap.size := (by rw [World.size_alloc]; exact Nat.lt_succ_self _); have hlo : W5.heap.size ≤ w6.heap.size := g6.size; have hbb : W5.heap.size ≤ (w6.alloc zF).heap.size := (g6.alloc _).size; obtain ⟨z0, z1, z2, y0, y1, y2, _⟩ := three_cells hz7)))
        all_goals
          go_wp2
          go_meet
          first
          | exact ⟨_, ag, cg, rfl, rfl, Lib.hid (FrAt.fill hz7 hlo ow7 hbb hzl g7 L' C')⟩
          | exact ⟨_, ag, cg, rfl, rfl, Lib.hid (FrAt.new ow7 hbb g7 L' C')⟩
      case rest =>
        obtain ⟨b9, ag, cg, rfl, rfl, HF9⟩ := hcut
        obtain ⟨wB, hwB⟩ : ∃ W, wc = W := ⟨_, rfl⟩
        rw [hwB] at HF9 ⊢
        clear hwB
        have HOW5 := Lib.hid (HF6.out.own.ext (HE45.out.trans HF9.out.ext))
        have HB65 := Lib.hid ((HE45.out.trans HF9.out.ext).block HF6.out.box)
        obtain ⟨p0, p1, p2, p3, p4, p5, p6⟩ := three_cells HF9.out.box
        obtain ⟨q0, q1, q2, q3, q4, q5, q6⟩ := three_cells HB65.out
        go_upto_region 10 with (go_at_call 15; refine (HEQ.out _ _ _ _ _ HF9.out.own.opens HOW5.out.opens).mono ?_; rintro e w6 ⟨rfl, e6⟩; have HE56 := Lib.hid e6; have HE5 := Lib.hid (HF9.out.ext.trans e6))
        have A := HA0.out.ext (HWA.out.trans (HE45.out.trans HE5.out))
        have C := HC.out.ext HE5.out
        clear p0 p1 p2 p3 p4 p5 p6 q0 q1 q2 q3 q4 q5 q6
        have HQ1 : Hid (∀ W, Ext w6 W → ∀ bo d, Opens W bo xs.length xs → Calls Try.prog 15 #[.agg #[.int .i64 p, .int .i64 q, .slice a4 xs.length c4], .agg #[.int .i64 p, .int .i64 q, .slice bo xs.length d]] W (RetE (.bool true) W)) := Lib.hid (fun W e bo d h => by
          have := l_eqFront p q p q a4 bo xs.length xs.length c4 d xs xs W ((HX4.out.opens.ext HE5.out).ext e) h
          rwa [show sameF p q p q xs xs = true by simp [sameF]] at this)
        have E5 := HEA.out.trans (HE45.out.trans HE5.out)
        go_region_held3 (fun W => Three W w.heap.size (.int .i64 p) (.int .i64 q) (.slice ao n c) ∧ Three W b8 (.int .i64 p) (.int .i64 q) (.slice a4 xs.length c4) ∧ Ext w6 W) (first | exact ⟨A.ext (Ext.refl _).drew, C.ext (Ext.refl _).drew, (Ext.refl _).drew⟩ | exact keepTT (by assumption) (by assumption)) (first | (go_at_call 12; refine (HA.out _ ?_).mono ?_; exact E5.trans (heldTT (by assumption)); rintro e w' ⟨a', c', rfl, o', e'⟩) | (go_at_call 15; refine (HQ1.out _ ?_ _ _ ?_).mono ?_; exact heldTT (by assumption); exact OwnOpens.opens (by assumption); rintro e w' ⟨rfl, e'⟩))
        all_goals
          have hfin := (by assumption : Three _ w.heap.size (.int .i64 p) (.int .i64 q) (.slice ao n c) ∧ Three _ b8 (.int .i64 p) (.int .i64 q) (.slice a4 xs.length c4) ∧ Ext w6 _)
          obtain ⟨A7, C7, e7⟩ := hfin
          have OG7 := Lib.hid ((HF9.out.own.ext HE56.out).ext e7)
          have OX7 := Lib.hid ((HX4.out.ext HE5.out).ext e7)
          have EW7 := Lib.hid (HE45.out.trans (HE5.out.trans e7))
          have HB97 := Lib.hid ((HE56.out.trans e7).block HF9.out.box)
          clear A C E5 e7
          go_wp2_with fail
          refine (l_markFrontS _ p q a4 xs.length c4 1 xs _ OX7.out (by omega) (by omega) (by omega)).mono ?_
          rintro e w8 ⟨rfl, _, g8⟩
          have OG8 := Lib.hid (OG7.out.apart g8 (fun j j' hj hj' => by have h1 := (HB4.out j' hj').2; have h2 := (HF9.out.own.1.lt j hj).1; have h3 := HZ5.out; omega))
          have EW8 := Lib.hid (EW7.out.grown g8 (fun j hj => (HB4.out j hj).1))
          have HB98 := Lib.hid (blk_grown HB97.out g8 (fun e => by have h := HB4.out _ e.symm; have h2 := HF9.out.lo; have h3 := HZ5.out; omega))
          have HB68 := Lib.hid (EW8.out.block HF6.out.box)
          clear g8 A7 C7 OG7 OX7
          have OW8 := Lib.hid (HF6.out.own.ext EW8.out)
          obtain ⟨p0, p1, p2, p3, p4, p5, p6⟩ := three_cells HB98.out
          obtain ⟨q0, q1, q2, q3, q4, q5, q6⟩ := three_cells HB68.out
          go_wp2_with fail
          refine (HEQ.out _ _ _ _ _ OG8.out.opens OW8.out.opens).mono ?_
          rintro e w9 ⟨rfl, e9⟩
          have OG9 := Lib.hid (OG8.out.ext e9)
          have EW9 := Lib.hid (EW8.out.trans e9)
          have HB99 := Lib.hid (e9.block HB98.out)
          clear e9 OG8 OW8 p0 p1 p2 p3 p4 p5 p6 q0 q1 q2 q3 q4 q5 q6
          obtain ⟨p0, p1, p2, p3, p4, p5, p6⟩ := three_cells HB99.out
          go_wp2_with fail
          refine (l_markFrontS _ L' C' ag ps.length cg 1 ps _ OG9.out (by omega) (by omega) (by omega)).mono ?_
          rintro e w10 ⟨rfl, om, g10⟩
          have HM10 := Lib.hid om
          have EW10 := Lib.hid (EW9.out.grown g10 (fun j hj => by have h := (HF9.out.own.1.lt j hj).1; have h2 := HE45.out.size; omega))
          have HB910 := Lib.hid (blk_grown HB99.out g10 (fun e => HF9.out.ne _ e.symm rfl))
          clear om g10 p0 p1 p2 p3 p4 p5 p6
          obtain ⟨p0, p1, p2, p3, p4, p5, p6⟩ := three_cells HB910.out
          go_wp2_with fail
          refine (l_heldFront L' C' ag ps.length cg 1 _ HM10.out.opens (by omega) (by omega) (by omega)).mono ?_
          rintro e wm ⟨rfl, e10⟩
          have HM11 := Lib.hid (HM10.out.ext e10)
          have EW11 := Lib.hid (EW10.out.trans e10)
          have HB911 := Lib.hid (e10.block HB910.out)
          have EM := Lib.hid (HWA.out.trans EW11.out)
          clear e10 p0 p1 p2 p3 p4 p5 p6
          go_upto_region 24 with fail
          go_cut [14, 15] (fun v6 v7 W => ∃ b6 aw cw, v6 = .pointer (some ⟨b6, 0, none⟩) ∧ v7 = .int .i64 r ∧ Hid (FrAt wm b6 L' C' aw ps.length cw ps W))
          case first =>
            have hE := EM.out
            have hE0 := HE0.out
            go_region_held3 (fun W => (W.cell? ⟨w.heap.size, 0, none⟩ = some (.int .i64 p) ∧ W.cell? ⟨w.heap.size, 1, none⟩ = some (.int .i64 q) ∧ W.cell? ⟨w.heap.size, 2, none⟩ = some (.slice ao n c)) ∧ (W.cell? ⟨w.heap.size + 1, 0, none⟩ = some (.int .i64 o1) ∧ W.cell? ⟨w.heap.size + 1, 1, none⟩ = some (.int .i64 o2) ∧ W.cell? ⟨w.heap.size + 1, 2, none⟩ = some (.int .i64 o3) ∧ W.cell? ⟨w.heap.size + 1, 3, none⟩ = some (.int .i64 o4))) (first
              | exact HST.out _ hE.drew
              | exact HST.out _ (hE.drew.alloc _)
              | exact HST.out _ (hE.trans (by assumption))
              | exact HST.out _ ((hE.trans (by assumption)).alloc _)
              | exact HST.out _ (ext_set3 (hE.trans (by assumption)) (Nat.le_trans hE.size (by assumption)) _ _ _)) (first
              | (go_at_call 12; first
                  | (refine (HA.out _ (hE0.trans hE.drew)).mono ?_; rintro e w2 ⟨a2, c2, rfl, ow2, e2⟩; have f2 : Ext wm w2 := (Ext.refl wm).drew.trans e2)
                  | (refine (HA.out _ (hE0.trans (hE.drew.alloc _))).mono ?_; rintro e w2 ⟨a2, c2, rfl, ow2, e2⟩; have f2 : Ext wm w2 := ((Ext.refl wm).drew.alloc _).trans e2; have hz2 := e2.block (blk_at wm.drew zF wm.heap.size rfl); have hlo : wm.heap.size ≤ wm.heap.size := Nat.le_refl _))
              | (go_at_call 13; refine (HB.out _).mono ?_; rintro e w3 ⟨rfl, e3⟩; first
                  | (have f3 : Ext w2 w3 := e3; have g3 : Ext wm w3 := f2.trans f3; (try have hz3 := e3.block hz2))
                  | (have f3 : Ext w2 w3 := ((Ext.refl w2).alloc _).trans e3; have g3 : Ext wm w3 := f2.trans f3; have hz3 := e3.block (blk_at w2 zF w2.heap.size rfl); have hlo : wm.heap.size ≤ w2.heap.size := f2.size))
              | (go_at_call 14; first
                  | (refine (HI.out a2 c2 _ (ow2.opens.ext f3) ow2.cap ow2.nilcap).mono ?_; rintro e w4 ⟨aw, cw, rfl, ow4, e4⟩; have g4 : Ext wm w4 := g3.trans e4; have hbb : wm.heap.size ≤ w3.heap.size := g3.size; (try (have hz4 := e4.block hz3; have hzl := lt_of_block hz3; obtain ⟨z0, z1, z2, y0, y1, y2, _⟩ := three_cells hz4)))
                  | (refine (HI.out a2 c2 _ (ow2.opens.ext (f3.alloc _)) ow2.cap ow2.nilcap).mono ?_; rintro e w4 ⟨aw, cw, rfl, ow4, e4⟩; have g4 : Ext wm w4 := (g3.alloc _).trans e4; have hz4 := e4.block (blk_at w3 zF w3.heap.size rfl); have hzl : w3.heap.size < (w3.alloc zF).heap.size := (by rw [World.size_alloc]; exact Nat.lt_succ_self _); have hlo : wm.heap.size ≤ w3.heap.size := g3.size; have hbb : wm.heap.size ≤ (w3.alloc zF).heap.size := (g3.alloc _).size; obtain ⟨z0, z1, z2, y0, y1, y2, _⟩ := three_cells hz4)))
            all_goals
              go_wp2
              go_meet
              first
              | exact ⟨_, aw, cw, rfl, rfl, Lib.hid (FrAt.fill hz4 hlo ow4 hbb hzl g4 L' C')⟩
              | exact ⟨_, aw, cw, rfl, rfl, Lib.hid (FrAt.new ow4 hbb g4 L' C')⟩

          case rest =>
            obtain ⟨b12, ah, ch, rfl, rfl, HF12⟩ := hcut
            obtain ⟨wC, hwC⟩ : ∃ W, wc = W := ⟨_, rfl⟩
            rw [hwC] at HF12 ⊢
            clear hwC
            have HM12 := Lib.hid (HM11.out.ext HF12.out.ext)
            have EW12 := Lib.hid (EW11.out.trans HF12.out.ext)
            have OW12 := Lib.hid (HF6.out.own.ext EW12.out)
            have HB912 := Lib.hid (HF12.out.ext.block HB911.out)
            obtain ⟨p0, p1, p2, p3, p4, p5, p6⟩ := three_cells HF12.out.box
            obtain ⟨q0, q1, q2, q3, q4, q5, q6⟩ := three_cells (EW12.out.block HF6.out.box)
            go_wp2_with fail
            refine (HEQ.out _ _ _ _ _ HF12.out.own.opens OW12.out.opens).mono ?_
            rintro e w13 ⟨rfl, e13⟩
            have HM13 := Lib.hid (HM12.out.ext e13)
            have EW13 := Lib.hid (EW12.out.trans e13)
            clear p0 p1 p2 p3 p4 p5 p6 q0 q1 q2 q3 q4 q5 q6
            obtain ⟨p0, p1, p2, p3, p4, p5, p6⟩ := three_cells (e13.block HB912.out)
            clear e13
            go_wp2_with fail
            refine (l_heldFront L' C' ag ps.length cg 1 _ HM13.out.opens (by omega) (by omega) (by omega)).mono ?_
            rintro e w14 ⟨rfl, e14⟩
            have EF := Lib.hid (HEA.out.trans (EW13.out.trans e14))
            go_wp2
            go_ret
            exact ⟨rfl, EF.out⟩
  · have hl1 : sel (decide ((n : Int) ≤ 1048576)) (1048576 - n) (-1) = -1 := by simp [sel, h1]
    have HL1 := Lib.hid hl1
    have E0 := Lib.hid e0
    clear hl1 e0 hx
    go_enter Try.func3, Try.ntmps3
    go_wp2_with fail
    refine (l_szFront _ _ _ _ _ _ _ hxm (by omega) (by omega)).mono ?_
    rw [HL1.out]
    rintro e w1 ⟨rfl, e1⟩
    have E1 := Lib.hid (E0.out.trans e1)
    clear e1
    go_wp2
    go_ret
    exact ⟨rfl, E1.out⟩
/-! ### the row's step: written by a program of mine (frame.py) after the guide's own frame -/
namespace fnExactAddOpening
open Go.ChangeShapes Go.WideShapes Go.ChangeAt Go.RowKit Go.Joins
open Go.ChangeMaps (open_string shut_string)
set_option linter.unusedVariables false
theorem own : ownKnob Try.prog.godebug = none := by kernel_rfl
theorem laidOut : laidOutB Try.prog = true := by kernel_rfl
set_option maxRecDepth 100000 in
theorem lifted (os : Os) (started : os.Started) (H : Type) (enc : TypeId × Value → H) :
    ReturnsInHanded {} Try.checked os 3 .any (Rows.fnExactAddOpeningSpec.pre6 enc Try.prog Try.f3 Rows.fnExactAddOpeningRow.domain false) (Rows.fnExactAddOpeningSpec.post enc Try.prog Try.f3 false true false false) := by
  refine returnsInHanded_of_change (C := Try.checked) own started (by kernel_rfl) Try.func3
    (ChangeSpec.witness6 (enc := enc) (C := Try.checked) false ⟨#[], #[.agg #[.int .i64 0, .int .i64 0, .slice none 0 0], .agg #[.int .i64 0, .int .i64 0, .int .i64 0, .int .i64 0]], []⟩ 8 (by kernel_rfl) (by kernel_rfl) (by kernel_rfl) (by kernel_rfl)) ?_
  intro W base args ds gs before hval0 hW hcnd _
  have hval : ∀ (j : Nat) t v, Try.f3.params[j]? = some t → args[j]? = some v → Value.okWide Try.prog W .any base t v := hval0
  have hW' := hW
  obtain ⟨p, q, hA0, hV, rfl, hfz, hnd⟩ := hW
  have hA : DataW.TrodAll enc Try.prog W 0 (fun _ => true) true Try.f3.params.toList args.toList ds p := hA0
  rw [Try.params3] at hA hval
  obtain ⟨v0, vs0, d0, ds0, p0, q0, hargs, rfl, rfl, h0, r0⟩ := trodAll_cons hA
  obtain ⟨v1, vs1, d1, ds1, p1, q1, rfl, rfl, rfl, h1, r1⟩ := trodAll_cons r0
  obtain ⟨rfl, rfl, rfl⟩ := trodAll_nil r1
  obtain rfl : args = #[v0, v1] := by cases args; simp_all
  obtain ⟨rfl, rfl⟩ := trodVars_none hV
  have k0 := h0
  have lt0 : ∀ x ∈ p0, x.block < W.heap.size := by obtain ⟨m, hm⟩ := k0; exact DataW.trod_lt m _ _ _ hm
  have k1 := h1
  have lt1 : ∀ x ∈ p1, x.block < W.heap.size := by obtain ⟨m, hm⟩ := k1; exact DataW.trod_lt m _ _ _ hm
  obtain ⟨g0, k0c, k0d, y0a, y0b, y0c, m0, rfl, rfl, rfl, t0a, t0b, t0c⟩ := open_agg3 Try.underlying24 (by kernel_rfl) (by kernel_rfl) (hval 0 24 v0 rfl rfl) h0
  obtain ⟨x0a, rfl, i0a⟩ := int_of_field Try.underlying2 ⟨_, _, t0a⟩
  obtain ⟨x0b, rfl, i0b⟩ := int_of_field Try.underlying2 ⟨_, _, t0b⟩
  obtain ⟨b0, l0, c0, z0, rfl, w0⟩ := opens_of_field Try.underlying22 Try.underlying26 (by kernel_rfl) (by kernel_rfl) Try.underlying2 Try.underlying2 Try.underlying2 Try.underlying2 ⟨_, _, t0c⟩
  obtain ⟨g1, k1c, k1d, k1e, y1a, y1b, y1c, y1d, m1, rfl, rfl, rfl, t1a, t1b, t1c, t1d⟩ := open_agg4 Try.underlying26 (by kernel_rfl) (by kernel_rfl) (hval 1 26 v1 rfl rfl) h1
  obtain ⟨x1a, rfl, i1a⟩ := int_of_field Try.underlying2 ⟨_, _, t1a⟩
  obtain ⟨x1b, rfl, i1b⟩ := int_of_field Try.underlying2 ⟨_, _, t1b⟩
  obtain ⟨x1c, rfl, i1c⟩ := int_of_field Try.underlying2 ⟨_, _, t1c⟩
  obtain ⟨x1d, rfl, i1d⟩ := int_of_field Try.underlying2 ⟨_, _, t1d⟩
  clear hA0 hval0
  refine (walk_FnExactAddOpening x0a x0b b0 l0 c0 z0 x1a x1b x1c x1d W i0a i0b w0 i1a i1b i1c i1d).mono fun e W' ⟨he, bel⟩ => ?_
  subst he
  exact ⟨_, rfl, _, _, _, [], _, [], hW', trodAll_mk1 (shut_bool Try.underlying4 _), (trodAll_cons_mk (Below.trod laidOut (by kernel_rfl) (of_decide_eq_true (by kernel_rfl)) k0 bel lt0) (trodAll_cons_mk (Below.trod laidOut (by kernel_rfl) (of_decide_eq_true (by kernel_rfl)) k1 bel lt1) trodAll_mk0)), rfl, bel.frame _, fun h => by cases h⟩
theorem over : Rows.fnExactAddOpeningRow.holds Try.pinned (OpenSpec.ofChange Rows.fnExactAddOpeningSpec) :=
  OpenClaim.holds_of_wide 3 Try.f3 rfl rfl rfl rfl rfl rfl rfl ⟨rfl, rfl, rfl, rfl, rfl⟩ rfl rfl rfl rfl rfl (by kernel_rfl) Try.func3 (by kernel_rfl)
    (of_decide_eq_true (by kernel_rfl)) (by unfold Func.isWrapper; first | (rw [if_pos (by decide +kernel)]; kernel_rfl) | (rw [if_neg (by decide +kernel)]; exact ⟨rfl, rfl⟩))
    (fun os started H enc _ => lifted os started H enc)
theorem proved : Rows.FnExactAddOpeningSaid := over
#print axioms proved
end fnExactAddOpening
end Go.Proofs.Ytnhmcmohnpbcjaa
