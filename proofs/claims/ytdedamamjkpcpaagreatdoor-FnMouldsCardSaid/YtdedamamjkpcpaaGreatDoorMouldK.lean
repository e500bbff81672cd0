/- Contracts: what the law draws: a text of a mould that is spoilt seldom, and a mould, a format and two numbers. -/
import Derived.Test.YtdedamamjkpcpaaGreatDoorMouldG
import Derived.Test.YtdedamamjkpcpaaGreatDoorMouldE
import Derived.Test.YtdedamamjkpcpaaGreatDoorMould3
import Derived.Test.YtdedamamjkpcpaaGreatDoorSpoil
namespace Go.Proofs.YtdedamamjkpcpaaGreatDoor
open Go.RowKit
set_option linter.unusedSimpArgs false
set_option linter.unusedVariables false
set_option linter.unnecessarySimpa false

set_option maxRecDepth 100000 in
set_option maxHeartbeats 4000000 in
theorem s_DrawReadMould (ao : Option Addr) (n c : Nat) (bs : List UInt8) (w : World) (hbW : U8s w ao n bs) : Calls Tryz.prog 20 #[.slice ao n c] w (RetTxt w 400) := by
  have HF := Lib.hid (s_fromD ao n c bs w w hbW (Ext.refl w))
  clear hbW
  go_enter Tryz.func20, Tryz.ntmps20
  go_wp2_with fail
  refine HF.out.mono ?_
  rintro e w1 ⟨rfl, d1, e1, z1⟩
  have HN := Lib.hid (s_l05New (by omega) _ d1)
  clear d1 e1 HF
  go_wp2_with fail
  refine HN.out.mono ?_
  rintro e w2 ⟨x, y, z, u, rfl, hm, d2, g2⟩
  have d3 := d2.ext ((Ext.refl w2).alloc (.cells #[.int .i64 x, .int .i64 y, .int .i64 z, .int .i64 u] 29))
  have HT := Lib.hid (s_l05Text w2.heap.size x y z u hm _ (heap_alloc_new w2 (.cells #[.int .i64 x, .int .i64 y, .int .i64 z, .int .i64 u] 29)))
  have hlen := mtxt_len hm
  have hpos : 1 ≤ (mtxt x y z u).length := List.length_pos_iff.2 (mtxt_ne x y z u)
  rw [← mkS_size] at hlen hpos
  have HD3 := Lib.hid d3
  generalize mkS (mtxt x y z u) = t at *
  clear d2 g2 d3 hm HN
  go_wp2_with fail
  refine HT.out.mono ?_
  rintro e w4 ⟨rfl, e4⟩
  have d4 := HD3.out.ext e4
  have HD4 := Lib.hid d4
  have HO := Lib.hid (oneD 3 (by decide) (by decide) (by omega) d4)
  clear e4 d4 HT HD3
  go_wp2_with fail
  refine HO.out.mono ?_
  rintro e w5 ⟨b, rfl, d5, g5⟩
  have HE5 := Lib.hid d5.base
  obtain ⟨st, ok, hs, _, hu, hl⟩ := d5
  have HS := Lib.hid (s_l01Spoil hu hl _ (by omega) st ok t hpos (by omega) w5 hs HE5.out)
  clear ok hs hu g5 HO HD4
  cases b with
  | false =>
    go_wp2
    go_ret
    exact ⟨t, rfl, by omega, HE5.out⟩
  | true =>
    go_wp2_with fail
    refine HS.out.mono ?_
    rintro e w6 ⟨t', rfl, ht', e6⟩
    go_wp2
    go_ret
    exact ⟨t', rfl, ht', e6⟩
/-- what stands in memory while the draw of a fault is made: the two results, the format, the mould -/
structure SF (w : World) (g : Nat) (ao : Option Addr) (n c : Nat) (bs : List UInt8) (B fb mb : Nat) (x y z u a b k d : Int) (W : World) : Prop where
  ds : DS g ao n c bs w B W
  r1 : W.heap[w.heap.size]? = some (.cells #[.int .i64 0, .int .i64 0, .int .i64 0, .int .i64 0] 29 (0, 0))
  r2 : W.heap[w.heap.size + 1]? = some (.cells #[.int .i64 0, .int .i64 0, .int .i64 0, .int .i64 0] 25 (0, 0))
  fm : W.heap[fb]? = some (.cells #[.int .i64 x, .int .i64 y, .int .i64 z, .int .i64 u] 25 (0, 0))
  mm : W.heap[mb]? = some (.cells #[.int .i64 a, .int .i64 b, .int .i64 k, .int .i64 d] 29 (0, 0))
  l1 : w.heap.size + 1 < g
  l2 : g < fb
  l3 : fb < mb
theorem SF.go {w : World} {g : Nat} {ao : Option Addr} {n c : Nat} {bs : List UInt8} {B fb mb : Nat} {x y z u a b k d : Int} {W : World} {W' : World} {B' : Nat} (h : SF w g ao n c bs B fb mb x y z u a b k d W) (d' : DS g ao n c bs w B' W') (gr : W.grownBy W' (some g)) : SF w g ao n c bs B' fb mb x y z u a b k d W' :=
  have h1 := h.l1; have h2 := h.l2; have h3 := h.l3
  ⟨d', blkQ_grown h.r1 gr (fun e => by simp at e; omega), blkQ_grown h.r2 gr (fun e => by simp at e; omega), blkQ_grown h.fm gr (fun e => by simp at e; omega), blkQ_grown h.mm gr (fun e => by simp at e; omega), h.l1, h.l2, h.l3⟩
theorem SF.ext {w : World} {g : Nat} {ao : Option Addr} {n c : Nat} {bs : List UInt8} {B fb mb : Nat} {x y z u a b k d : Int} {W : World} {W' : World} (h : SF w g ao n c bs B fb mb x y z u a b k d W) (e : Ext W W') : SF w g ao n c bs B fb mb x y z u a b k d W' :=
  ⟨h.ds.ext e, e.block h.r1, e.block h.r2, e.block h.fm, e.block h.mm, h.l1, h.l2, h.l3⟩
theorem SF.mono {w : World} {g : Nat} {ao : Option Addr} {n c : Nat} {bs : List UInt8} {B fb mb : Nat} {x y z u a b k d : Int} {W : World} {B' : Nat} (h : SF w g ao n c bs B fb mb x y z u a b k d W) (hb : B ≤ B') : SF w g ao n c bs B' fb mb x y z u a b k d W :=
  ⟨h.ds.mono hb, h.r1, h.r2, h.fm, h.mm, h.l1, h.l2, h.l3⟩
theorem SF.set {w : World} {g : Nat} {ao : Option Addr} {n c : Nat} {bs : List UInt8} {B fb mb : Nat} {x y z u a b k d : Int} {W : World} (h : SF w g ao n c bs B fb mb x y z u a b k d W) (i : Nat) (v : Value) {a' b' k' d' : Int} (hc : (four a b k d).setIfInBounds i v = four a' b' k' d') : SF w g ao n c bs B fb mb x y z u a' b' k' d' (W.setCell ⟨mb, i, none⟩ v) := by
  have h1 := h.l1; have h2 := h.l2; have h3 := h.l3
  refine ⟨h.ds.set mb i v (by omega) (by omega), heapQ_setO _ _ _ h.r1 (by omega), heapQ_setO _ _ _ h.r2 (by omega), heapQ_setO _ _ _ h.fm (by omega), ?_, h.l1, h.l2, h.l3⟩
  have := heap_setS W mb i v h.mm
  rw [hc] at this
  exact this
abbrev SfSt (fb mb : Nat) (x y z u a b k d : Int) (W : World) : Prop := (W.cell? ⟨mb, 0, none⟩ = some (.int .i64 a) ∧ W.cell? ⟨mb, 1, none⟩ = some (.int .i64 b) ∧ W.cell? ⟨mb, 2, none⟩ = some (.int .i64 k) ∧ W.cell? ⟨mb, 3, none⟩ = some (.int .i64 d)) ∧
  (W.cell? ⟨fb, 0, none⟩ = some (.int .i64 x) ∧ W.cell? ⟨fb, 1, none⟩ = some (.int .i64 y) ∧ W.cell? ⟨fb, 2, none⟩ = some (.int .i64 z) ∧ W.cell? ⟨fb, 3, none⟩ = some (.int .i64 u))
theorem SF.st {w : World} {g : Nat} {ao : Option Addr} {n c : Nat} {bs : List UInt8} {B fb mb : Nat} {x y z u a b k d : Int} {W : World} (h : SF w g ao n c bs B fb mb x y z u a b k d W) : SfSt fb mb x y z u a b k d W := ⟨(four_res h.mm).1, (four_res h.fm).1⟩
theorem cell_setO {W : World} {b i : Nat} {v : Value} (h : W.cell? ⟨b, i, none⟩ = some v) (k j : Nat) (x : Value) (hne : b ≠ k) : (W.setCell ⟨k, j, none⟩ x).cell? ⟨b, i, none⟩ = some v :=
  (World.cell?_setCell_other _ _ _ _ (fun e => hne (by simpa using congrArg Addr.block e.symm))).trans h
theorem SfSt.set4 {fb mb : Nat} {x y z u a b k d : Int} {W : World} (h : SfSt fb mb x y z u a b k d W) (r : Nat) (h1 : fb ≠ r) (h2 : mb ≠ r) (v0 v1 v2 v3 : Value) : SfSt fb mb x y z u a b k d ((((W.setCell ⟨r, 0, none⟩ v0).setCell ⟨r, 1, none⟩ v1).setCell ⟨r, 2, none⟩ v2).setCell ⟨r, 3, none⟩ v3) := by
  obtain ⟨⟨a0, a1, a2, a3⟩, b0, b1, b2, b3⟩ := h
  have f : ∀ {bk i : Nat} {v : Value}, W.cell? ⟨bk, i, none⟩ = some v → bk ≠ r → ((((W.setCell ⟨r, 0, none⟩ v0).setCell ⟨r, 1, none⟩ v1).setCell ⟨r, 2, none⟩ v2).setCell ⟨r, 3, none⟩ v3).cell? ⟨bk, i, none⟩ = some v :=
    fun h hn => cell_setO (cell_setO (cell_setO (cell_setO h _ _ _ hn) _ _ _ hn) _ _ _ hn) _ _ _ hn
  exact ⟨⟨f a0 h2, f a1 h2, f a2 h2, f a3 h2⟩, f b0 h1, f b1 h1, f b2 h1, f b3 h1⟩
theorem SfSt.set1 {fb mb : Nat} {x y z u a b k d : Int} {W : World} (h : SfSt fb mb x y z u a b k d W) (r i : Nat) (v : Value) (h1 : fb ≠ r) (h2 : mb ≠ r) : SfSt fb mb x y z u a b k d (W.setCell ⟨r, i, none⟩ v) := by
  obtain ⟨⟨a0, a1, a2, a3⟩, b0, b1, b2, b3⟩ := h
  exact ⟨⟨cell_setO a0 _ _ _ h2, cell_setO a1 _ _ _ h2, cell_setO a2 _ _ _ h2, cell_setO a3 _ _ _ h2⟩, cell_setO b0 _ _ _ h1, cell_setO b1 _ _ _ h1, cell_setO b2 _ _ _ h1, cell_setO b3 _ _ _ h1⟩
/-- a mould, a format and two numbers -/
def RetMF (w : World) (e : Ending) (w' : World) : Prop := ∃ a b c d x y z u s f, e = .returned (.tuple #[.agg #[.int .i64 a, .int .i64 b, .int .i64 c, .int .i64 d], .agg #[.int .i64 x, .int .i64 y, .int .i64 z, .int .i64 u], .int .i64 s, .int .i64 f]) ∧ Ext w w'
theorem mforC_bd {a b c d s : Int} (h : mforC a b c d s = 0) : fmtB a b c d = true ∧ inB s 0 200 = true := by
  unfold mforC at h
  cases h1 : fmtB a b c d with
  | false => rw [h1] at h; exact absurd (show (1 : Int) = 0 from h) (by decide)
  | true =>
    cases h2 : inB s 0 200 with
    | false => rw [h1, h2] at h; exact absurd (show (2 : Int) = 0 from h) (by decide)
    | true => exact ⟨rfl, rfl⟩
set_option maxRecDepth 100000 in
set_option maxHeartbeats 8000000 in
theorem s_DrawSizeFault (ao : Option Addr) (n c : Nat) (bs : List UInt8) (w : World) (hbW : U8s w ao n bs) : Calls Tryz.prog 11 #[.slice ao n c] w (RetMF w) := by
  have hF := s_fromD ao n c bs w ((w.alloc (.cells #[.int .i64 0, .int .i64 0, .int .i64 0, .int .i64 0] 29)).alloc (.cells #[.int .i64 0, .int .i64 0, .int .i64 0, .int .i64 0] 25)) hbW (((Ext.refl w).alloc _).alloc _)
  have hz : ((w.alloc (.cells #[.int .i64 0, .int .i64 0, .int .i64 0, .int .i64 0] 29)).alloc (.cells #[.int .i64 0, .int .i64 0, .int .i64 0, .int .i64 0] 25)).heap.size = w.heap.size + 1 + 1 := by simp
  rw [hz] at hF
  have HF := Lib.hid hF
  have HR1 := Lib.hid (((Ext.refl _).alloc (.cells #[.int .i64 0, .int .i64 0, .int .i64 0, .int .i64 0] 25)).block (heap_alloc_new w (.cells #[.int .i64 0, .int .i64 0, .int .i64 0, .int .i64 0] 29)))
  have HR2 : Hid (((w.alloc (.cells #[.int .i64 0, .int .i64 0, .int .i64 0, .int .i64 0] 29)).alloc (.cells #[.int .i64 0, .int .i64 0, .int .i64 0, .int .i64 0] 25)).heap[w.heap.size + 1]? = some (.cells #[.int .i64 0, .int .i64 0, .int .i64 0, .int .i64 0] 25)) := Lib.hid (by simpa using heap_alloc_new (w.alloc (.cells #[.int .i64 0, .int .i64 0, .int .i64 0, .int .i64 0] 29)) (.cells #[.int .i64 0, .int .i64 0, .int .i64 0, .int .i64 0] 25))
  clear hF hz hbW
  go_enter Tryz.func11, Tryz.ntmps11
  go_wp2_with fail
  refine HF.out.mono ?_
  rintro e w1 ⟨rfl, d1, e1, z1⟩
  obtain ⟨g, hg⟩ : ∃ g, w.heap.size + 1 + 1 = g := ⟨_, rfl⟩
  rw [hg] at d1 ⊢
  have HO := Lib.hid (s_l02Bent (by omega) w1 d1)
  replace HR1 := Lib.hid (e1.block HR1.out)
  replace HR2 := Lib.hid (e1.block HR2.out)
  have hgl : w.heap.size + 1 < g := by omega
  clear d1 e1 z1 HF hg
  go_wp2_with fail
  refine HO.out.mono ?_
  rintro e w2 ⟨x, y, z, u, rfl, _, d2, g2⟩
  replace HR1 := Lib.hid (((Ext.refl _).alloc (.cells #[.int .i64 x, .int .i64 y, .int .i64 z, .int .i64 u] 25)).block (blkQ_grown HR1.out g2 (fun e => by simp at e; omega)))
  replace HR2 := Lib.hid (((Ext.refl _).alloc (.cells #[.int .i64 x, .int .i64 y, .int .i64 z, .int .i64 u] 25)).block (blkQ_grown HR2.out g2 (fun e => by simp at e; omega)))
  have HF3 := Lib.hid (heap_alloc_new w2 (.cells #[.int .i64 x, .int .i64 y, .int .i64 z, .int .i64 u] 25))
  have hgf : g < w2.heap.size := d2.low.2
  have HS := Lib.hid (s_l05Shrink (by omega) _ (d2.ext ((Ext.refl _).alloc (.cells #[.int .i64 x, .int .i64 y, .int .i64 z, .int .i64 u] 25))))
  clear d2 g2 HO
  go_wp2_with fail
  refine HS.out.mono ?_
  rintro e w4 ⟨s, rfl, d4, g4⟩
  replace HR1 := Lib.hid (blkQ_grown HR1.out g4 (fun e => by simp at e; omega))
  replace HR2 := Lib.hid (blkQ_grown HR2.out g4 (fun e => by simp at e; omega))
  have HF4 := Lib.hid (blkQ_grown HF3.out g4 (fun e => by simp at e; omega))
  have HD4 := Lib.hid d4
  obtain ⟨fb, hfb⟩ : ∃ fb, w2.heap.size = fb := ⟨_, rfl⟩
  rw [hfb] at HF4 hgf ⊢
  obtain ⟨p0, p1, p2, p3, p4⟩ := four_cells HF4.out
  have HM := Lib.hid (s_MouldFor x y z u s w4)
  clear d4 g4 HS HF3 hfb
  go_wp2_with fail
  refine HM.out.mono ?_
  rintro e w5 ⟨X, Y, Z, rfl, hL, hN, e5⟩
  have hbd : mforC x y z u s = 0 → 0 ≤ Y ∧ Y ≤ 800 ∧ 0 ≤ Z ∧ Z ≤ 800 := fun h => by
    obtain ⟨_, hy, hz⟩ := hL h
    have hb := fmtB_bd (mforC_bd h).1
    have := hy.1; have := hy.2.1; have := hz.1; have := hz.2.1
    omega
  have HSF : Hid (SF w g ao n c bs (0 + 14 + 4) fb w5.heap.size x y z u X Y Z 0 (w5.alloc (.cells #[.int .i64 X, .int .i64 Y, .int .i64 Z, .int .i64 0] 29))) := Lib.hid (by
    have e6 := e5.alloc (.cells #[.int .i64 X, .int .i64 Y, .int .i64 Z, .int .i64 0] 29)
    exact ⟨HD4.out.ext e6, e6.block HR1.out, e6.block HR2.out, e6.block HF4.out, heap_alloc_new w5 _, hgl, hgf, lt_of_block (e5.block HF4.out)⟩)
  obtain ⟨co, hco⟩ : ∃ co, mforC x y z u s = co := ⟨_, rfl⟩
  rw [hco] at hbd ⊢
  clear hL hN e5 HM HR1 HR2 HF4 HD4 p0 p1 p2 p3 p4 hco hgl hgf
  go_upto_region 5 with fail
  obtain ⟨W6, hW6⟩ : ∃ W6, w5.alloc (.cells #[.int .i64 X, .int .i64 Y, .int .i64 Z, .int .i64 0] 29) = W6 := ⟨_, rfl⟩
  obtain ⟨mb, hmb⟩ : ∃ mb, w5.heap.size = mb := ⟨_, rfl⟩
  rw [hW6, hmb] at HSF
  rw [hW6, hmb]
  clear hW6 hmb
  go_cut [28] (fun v W => ∃ bb : Bool, v = .bool bb ∧ (bb = false → co = 0) ∧ Hid (SF w g ao n c bs (0 + 14 + 4 + 2) fb mb x y z u X Y Z 0 W))
  case first =>
    by_cases hc : co = 0
    · have HO := Lib.hid (oneD 4 (by decide) (by decide) (by omega) HSF.out.ds)
      subst hc
      go_wp2_with fail
      refine HO.out.mono ?_
      rintro e w7 ⟨bb, rfl, d7, g7⟩
      have H7 := Lib.hid (HSF.out.go d7 g7)
      clear d7 g7
      go_wp2
      go_meet
      exact ⟨bb, rfl, (fun _ => trivial), H7⟩
    · have hcb : (co == 0) = false := by simp; omega
      have H7 := Lib.hid (HSF.out.mono (Nat.le_add_right _ 2))
      go_wp2
      go_meet
      exact ⟨true, rfl, fun h => absurd h (by decide), H7⟩
  case rest =>
    obtain ⟨bb, rfl, hbb, H7⟩ := hcut
    obtain ⟨W7, hW7⟩ : ∃ W7, wc = W7 := ⟨_, rfl⟩
    rw [hW7] at H7 ⊢
    clear hW7 HSF
    go_upto_if 28 with fail
    go_cut [] (fun W => ∃ a b k d, Hid (SF w g ao n c bs (0 + 14 + 4 + 2 + 14) fb mb x y z u a b k d W))
    case first =>
      cases bb
      case true =>
        have HO := Lib.hid (s_l05Other (by omega) _ H7.out.ds)
        clear hbd hbb
        go_wp2_with fail
        refine HO.out.mono ?_
        rintro e w8 ⟨a, b, k, d, rfl, _, d8, g8⟩
        have h8 := H7.out.go d8 g8
        have H8 := Lib.hid ((((h8.set 0 (.int .i64 a) (a' := a) (b' := Y) (k' := Z) (d' := 0) rfl).set 1 (.int .i64 b) (a' := a) (b' := b) (k' := Z) (d' := 0) rfl).set 2 (.int .i64 k) (a' := a) (b' := b) (k' := k) (d' := 0) rfl).set 3 (.int .i64 d) (a' := a) (b' := b) (k' := k) (d' := d) rfl)
        obtain ⟨⟨p0, p1, p2, p3⟩, ⟨f0, f1, f2, f3⟩, pl⟩ := four_res h8.mm
        clear h8 d8 g8 HO H7
        go_wp2
        go_meet
        exact ⟨a, b, k, d, H8⟩
      case false =>
        obtain ⟨Y0, Y1, Z0, Z1⟩ := hbd (hbb rfl)
        clear hbd hbb
        have HO := Lib.hid (oneD 2 (by decide) (by decide) (by omega) H7.out.ds)
        go_wp2_with fail
        refine HO.out.mono ?_
        rintro e w8 ⟨b2, rfl, d8, g8⟩
        have H8 := Lib.hid (H7.out.go d8 g8)
        clear d8 g8 HO H7
        cases b2
        case false =>
          have H9 := Lib.hid (H8.out.mono (Nat.le_add_right _ 12))
          go_wp2
          go_meet
          exact ⟨X, Y, Z, 0, H9⟩
        case true =>
          go_upto_region 8 with fail
          go_cut [] (fun W => ∃ b, 0 ≤ b ∧ b ≤ 809 ∧ Hid (SF w g ao n c bs (0 + 14 + 4 + 2 + 2 + 2) fb mb x y z u X b Z 0 W))
          case first =>
            have HP := Lib.hid (pickD 9 (by decide) (by decide) (by omega) (H8.out.ext (Ext.refl _).drew).ds)
            obtain ⟨⟨p0, p1, p2, p3⟩, ⟨f0, f1, f2, f3⟩, pl⟩ := four_res H8.out.mm
            go_region_with (first
              | (go_at_call 40; refine HP.out.mono ?_; rintro e w9 ⟨q, rfl, q0, q1, d9, g9⟩; have hwr : IntKind.i64.wrap (Y + q) = Y + q := IntWalk.i64_in _ (by omega); have h9 := (H8.out.ext (Ext.refl _).drew).go d9 g9; have H9 := Lib.hid (h9.set 1 (.int .i64 (Y + q)) (a' := X) (b' := Y + q) (k' := Z) (d' := 0) rfl); obtain ⟨⟨m0, m1, m2, m3⟩, ⟨n0, n1, n2, n3⟩, nl⟩ := four_res h9.mm; clear h9 d9 g9))
            all_goals
              go_wp2
              go_meet
              exact ⟨Y + q, by omega, by omega, H9⟩
          case rest =>
            obtain ⟨b9, b9l, b9u, H9⟩ := hcut
            obtain ⟨W9, hW9⟩ : ∃ W9, wc = W9 := ⟨_, rfl⟩
            rw [hW9] at H9 ⊢
            clear hW9 H8
            have HP := Lib.hid (pickD 9 (by decide) (by decide) (by omega) (H9.out.ext (Ext.refl _).drew).ds)
            obtain ⟨⟨p0, p1, p2, p3⟩, ⟨f0, f1, f2, f3⟩, pl⟩ := four_res H9.out.mm
            go_wp2
            go_region_with (first
              | (go_at_call 40; refine HP.out.mono ?_; rintro e w10 ⟨q, rfl, q0, q1, d10, g10⟩; have hwr : IntKind.i64.wrap (Z + q) = Z + q := IntWalk.i64_in _ (by omega); have h10 := (H9.out.ext (Ext.refl _).drew).go d10 g10; have H10 := Lib.hid ((h10.set 2 (.int .i64 (Z + q)) (a' := X) (b' := b9) (k' := Z + q) (d' := 0) rfl).mono (Nat.le_add_right _ 8)); obtain ⟨⟨m0, m1, m2, m3⟩, ⟨n0, n1, n2, n3⟩, nl⟩ := four_res h10.mm; clear h10 d10 g10))
            all_goals
              go_wp2
              go_meet
              exact ⟨X, b9, Z + q, 0, H10⟩
    case rest =>
      obtain ⟨a, b, k, d, H8⟩ := hcut
      obtain ⟨W8, hW8⟩ : ∃ W8, wc = W8 := ⟨_, rfl⟩
      rw [hW8] at H8 ⊢
      clear hW8 H7 hbd hbb
      have HO := Lib.hid (oneD 10 (by decide) (by decide) (by omega) H8.out.ds)
      go_wp2_with fail
      refine HO.out.mono ?_
      rintro e w9 ⟨b3, rfl, d9, g9⟩
      have h9 := H8.out.go d9 g9
      have H9 := Lib.hid h9
      obtain ⟨⟨p0, p1, p2, p3⟩, _, pl⟩ := four_res h9.mm
      obtain ⟨⟨k0, k1, k2, k3⟩, _, kl⟩ := four_res h9.fm
      clear h9 d9 g9 HO H8
      cases b3
      case false =>
        have hn1 : fb ≠ w.heap.size := by have := H9.out.l1; have := H9.out.l2; omega
        have hn2 : mb ≠ w.heap.size := by have := H9.out.l1; have := H9.out.l2; have := H9.out.l3; omega
        have hn3 : fb ≠ w.heap.size + 1 := by have := H9.out.l1; have := H9.out.l2; omega
        have hn4 : mb ≠ w.heap.size + 1 := by have := H9.out.l1; have := H9.out.l2; have := H9.out.l3; omega
        obtain ⟨rr, hrr⟩ : ∃ r, w.heap.size + 1 = r := ⟨_, rfl⟩
        rw [hrr] at hn3 hn4 ⊢
        obtain ⟨rq, hrq⟩ : ∃ r, w.heap.size = r := ⟨_, rfl⟩
        rw [hrq] at hn1 hn2 ⊢
        have lq : w.heap.size ≤ rq := by omega
        have lr : w.heap.size ≤ rr := by omega
        have hne : rq ≠ rr := by omega
        have hne' : rr ≠ rq := by omega
        have HRR := Lib.hid hrr
        have HRQ := Lib.hid hrq
        clear hrr hrq
        have hS0 : SfSt fb mb x y z u a b k d w9.drew := SF.st (SF.ext H9.out (Ext.refl _).drew)
        have HP := Lib.hid (pickD 8 (by decide) (by decide) (by omega) (H9.out.ext (Ext.refl _).drew).ds)
        go_wp2
        go_region_held3 (fun W => SfSt fb mb x y z u a b k d W) (repeat' (first | with_reducible assumption | with_reducible refine SfSt.set1 ?_ _ _ _ ?_ ?_)) (first
          | (go_at_call 40; refine HP.out.mono ?_; rintro e w10 ⟨q, rfl, q0, q1, d10, g10⟩; have h10 := (H9.out.ext (Ext.refl _).drew).go d10 g10; have HE := Lib.hid h10.ds.base; have hS10 := SF.st h10; have hR1 := h10.r1; rw [HRQ.out] at hR1; have hR2 := h10.r2; rw [HRR.out] at hR2; obtain ⟨⟨r0, r1, r2, r3⟩, ⟨s0, s1, s2, s3⟩, rl⟩ := four_res hR1; obtain ⟨⟨y0, y1, y2, y3⟩, ⟨z0, z1, z2, z3⟩, yl⟩ := four_res hR2; clear hR1 hR2; clear d10 g10))
        all_goals
          go_wp2
          refine bodyPost_ret (v := .tuple #[.agg #[.int .i64 a, .int .i64 b, .int .i64 k, .int .i64 d], .agg #[.int .i64 x, .int .i64 y, .int .i64 z, .int .i64 u], .int .i64 s, .int .i64 q]) (by simp [results, Tryz.results11, go_sem, r0, r1, r2, r3, y0, y1, y2, y3, hne, hne']) rfl ?_
          exact ⟨a, b, k, d, x, y, z, u, s, q, rfl, ext_put4 (ext_put4 HE.out lq _ _ _ _) lr _ _ _ _⟩
      case true =>
        have hn1 : fb ≠ w.heap.size := by have := H9.out.l1; have := H9.out.l2; omega
        have hn2 : mb ≠ w.heap.size := by have := H9.out.l1; have := H9.out.l2; have := H9.out.l3; omega
        have hn3 : fb ≠ w.heap.size + 1 := by have := H9.out.l1; have := H9.out.l2; omega
        have hn4 : mb ≠ w.heap.size + 1 := by have := H9.out.l1; have := H9.out.l2; have := H9.out.l3; omega
        obtain ⟨rr, hrr⟩ : ∃ r, w.heap.size + 1 = r := ⟨_, rfl⟩
        rw [hrr] at hn3 hn4 ⊢
        obtain ⟨rq, hrq⟩ : ∃ r, w.heap.size = r := ⟨_, rfl⟩
        rw [hrq] at hn1 hn2 ⊢
        have lq : w.heap.size ≤ rq := by omega
        have lr : w.heap.size ≤ rr := by omega
        have hne : rq ≠ rr := by omega
        have hne' : rr ≠ rq := by omega
        have HRR := Lib.hid hrr
        have HRQ := Lib.hid hrq
        clear hrr hrq
        have hS0 : SfSt fb mb x y z u a b k d w9.drew := SF.st (SF.ext H9.out (Ext.refl _).drew)
        have hS1 : SfSt fb mb x y z u a b k d (w9.alloc (.cells #[.int .i64 (-1), .int .i64 0, .int .i64 100, .int .i64 101] 2)).drew := SF.st (SF.ext H9.out ((Ext.refl w9).alloc (.cells #[.int .i64 (-1), .int .i64 0, .int .i64 100, .int .i64 101] 2)).drew)
        have HA := Lib.hid (amongD [-1, 0, 100, 101] #[.int .i64 (-1), .int .i64 0, .int .i64 100, .int .i64 101] rfl (by intro v hv; simp at hv; unfold IsI64; omega) 4 rfl (by decide) (by decide) (by omega) (W := (w9.alloc (.cells #[.int .i64 (-1), .int .i64 0, .int .i64 100, .int .i64 101] 2)).drew) (H9.out.ext ((Ext.refl w9).alloc (.cells #[.int .i64 (-1), .int .i64 0, .int .i64 100, .int .i64 101] 2)).drew).ds w9.heap.size (heap_alloc_new w9 _) (by have := H9.out.ds.low; omega))
        go_wp2
        go_region_held3 (fun W => SfSt fb mb x y z u a b k d W) (repeat' (first | with_reducible assumption | with_reducible refine SfSt.set1 ?_ _ _ _ ?_ ?_)) (first
          | (go_at_call 41; refine HA.out.mono ?_; rintro e w10 ⟨q, rfl, hq, d10, g10⟩; have h10 := (H9.out.ext ((Ext.refl w9).alloc (.cells #[.int .i64 (-1), .int .i64 0, .int .i64 100, .int .i64 101] 2)).drew).go d10 g10; have HE := Lib.hid h10.ds.base; have hS10 := SF.st h10; have hR1 := h10.r1; rw [HRQ.out] at hR1; have hR2 := h10.r2; rw [HRR.out] at hR2; obtain ⟨⟨r0, r1, r2, r3⟩, ⟨s0, s1, s2, s3⟩, rl⟩ := four_res hR1; obtain ⟨⟨y0, y1, y2, y3⟩, ⟨z0, z1, z2, z3⟩, yl⟩ := four_res hR2; clear hR1 hR2; clear d10 g10 hq))
        all_goals
          go_wp2
          refine bodyPost_ret (v := .tuple #[.agg #[.int .i64 a, .int .i64 b, .int .i64 k, .int .i64 d], .agg #[.int .i64 x, .int .i64 y, .int .i64 z, .int .i64 u], .int .i64 s, .int .i64 q]) (by simp [results, Tryz.results11, go_sem, r0, r1, r2, r3, y0, y1, y2, y3, hne, hne']) rfl ?_
          exact ⟨a, b, k, d, x, y, z, u, s, q, rfl, ext_put4 (ext_put4 HE.out lq _ _ _ _) lr _ _ _ _⟩
end Go.Proofs.YtdedamamjkpcpaaGreatDoor
