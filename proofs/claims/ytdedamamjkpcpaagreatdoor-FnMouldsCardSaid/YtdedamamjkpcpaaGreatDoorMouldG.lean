/- Contracts: what the law draws: moulds, formats, shrinkages. -/
import Derived.Test.YtdedamamjkpcpaaGreatDoorMouldF
namespace Go.Proofs.YtdedamamjkpcpaaGreatDoor
open Go.RowKit
set_option linter.unusedSimpArgs false
set_option linter.unusedVariables false
set_option linter.unnecessarySimpa false

/-- four numbers and one more -/
def RetMS (w : World) (e : Ending) (w' : World) : Prop := ∃ a b c d s, e = .returned (.tuple #[.agg #[.int .i64 a, .int .i64 b, .int .i64 c, .int .i64 d], .int .i64 s]) ∧ Ext w w'
/-- four numbers -/
def RetM4 (w : World) (e : Ending) (w' : World) : Prop := ∃ a b c d, e = .returned (.agg #[.int .i64 a, .int .i64 b, .int .i64 c, .int .i64 d]) ∧ Ext w w'
/-- two numbers -/
def RetI2 (w : World) (e : Ending) (w' : World) : Prop := ∃ a b, e = .returned (.tuple #[.int .i64 a, .int .i64 b]) ∧ Ext w w'
theorem ext_put4 {w W : World} (h : Ext w W) {b : Nat} (hb : w.heap.size ≤ b) (v0 v1 v2 v3 : Value) : Ext w ((((W.setCell ⟨b, 0, none⟩ v0).setCell ⟨b, 1, none⟩ v1).setCell ⟨b, 2, none⟩ v2).setCell ⟨b, 3, none⟩ v3) :=
  (((h.setCell hb _).setCell hb _).setCell hb _).setCell hb _
theorem four_res {w : World} {b : Nat} {x y z u : Value} {T : TypeId} (hb : w.heap[b]? = some (.cells #[x, y, z, u] T (0, 0))) :
    (w.cell? ⟨b, 0, none⟩ = some x ∧ w.cell? ⟨b, 1, none⟩ = some y ∧ w.cell? ⟨b, 2, none⟩ = some z ∧ w.cell? ⟨b, 3, none⟩ = some u) ∧ (w.frozen? ⟨b, 0, none⟩ = false ∧ w.frozen? ⟨b, 1, none⟩ = false ∧ w.frozen? ⟨b, 2, none⟩ = false ∧ w.frozen? ⟨b, 3, none⟩ = false) ∧ b < w.heap.size :=
  ⟨⟨by simp [World.cell?, hb], by simp [World.cell?, hb], by simp [World.cell?, hb], by simp [World.cell?, hb]⟩, ⟨by simp [World.frozen?, hb], by simp [World.frozen?, hb], by simp [World.frozen?, hb], by simp [World.frozen?, hb]⟩, lt_of_block hb⟩
set_option maxRecDepth 100000 in
set_option maxHeartbeats 4000000 in
theorem s_DrawFiredSize (ao : Option Addr) (n c : Nat) (bs : List UInt8) (w : World) (hbW : U8s w ao n bs) : Calls Tryz.prog 8 #[.slice ao n c] w (RetMS w) := by
  have hF := s_fromD ao n c bs w (w.alloc (.cells #[.int .i64 0, .int .i64 0, .int .i64 0, .int .i64 0] 29)) hbW ((Ext.refl w).alloc _)
  have hz : (w.alloc (.cells #[.int .i64 0, .int .i64 0, .int .i64 0, .int .i64 0] 29)).heap.size = w.heap.size + 1 := by simp
  rw [hz] at hF
  have HF := Lib.hid hF
  have HZ := Lib.hid hz
  have HR0 := Lib.hid (heap_alloc_new w (.cells #[.int .i64 0, .int .i64 0, .int .i64 0, .int .i64 0] 29))
  clear hF hz hbW
  go_enter Tryz.func8, Tryz.ntmps8
  go_wp2_with fail
  refine HF.out.mono ?_
  rintro e w1 ⟨rfl, d1, e1, z1⟩
  have HR1 := Lib.hid (e1.block HR0.out)
  have HO := Lib.hid (s_l05Other (by omega) w1 d1)
  clear d1 e1 HF HR0
  go_wp2_with fail
  refine HO.out.mono ?_
  rintro e w2 ⟨x, y, z, u, rfl, _, d2, g2⟩
  have HR2 := Lib.hid (blkQ_grown HR1.out g2 (fun e => by simp at e))
  have HD3 := Lib.hid (d2.ext ((Ext.refl w2).alloc (.cells #[.int .i64 x, .int .i64 y, .int .i64 z, .int .i64 u] 29)))
  have HR3 := Lib.hid (((Ext.refl w2).alloc (.cells #[.int .i64 x, .int .i64 y, .int .i64 z, .int .i64 u] 29)).block HR2.out)
  have HB3 := Lib.hid (heap_alloc_new w2 (.cells #[.int .i64 x, .int .i64 y, .int .i64 z, .int .i64 u] 29))
  obtain ⟨p0, p1, p2, p3, p4⟩ := four_cells HB3.out
  have HGL := Lib.hid d2.low.2
  have HSh := Lib.hid (fun W (h : DS (w.heap.size + 1) ao n c bs w (0 + 14) W) => s_l05Shrink (by omega) W h)
  clear d2 g2 HO HR1 HR2
  go_wp2
  go_region_with (first
    | (go_at_call 26; refine (HSh.out _ (HD3.out.ext (Ext.refl _).drew)).mono ?_; rintro e w4 ⟨s, rfl, d4, g4⟩; have hE4 := d4.base; have hR4 := blkQ_grown (((Ext.refl _).drew).block HR3.out) g4 (fun e => by simp at e); have hB4 := blkQ_grown (((Ext.refl _).drew).block HB3.out) g4 (fun e => by have := HGL.out; simp at e; omega); obtain ⟨⟨r0, r1, r2, r3⟩, ⟨s0, s1, s2, s3⟩, rl⟩ := four_res hR4; obtain ⟨⟨k0, k1, k2, k3⟩, _, kl⟩ := four_res hB4; have HE4 := Lib.hid hE4; clear hE4 hR4 hB4 d4 g4))
  all_goals
    go_wp2
    refine bodyPost_ret (v := .tuple #[.agg #[.int .i64 x, .int .i64 y, .int .i64 z, .int .i64 u], .int .i64 s]) (by simp [results, Tryz.results8, go_sem, r0, r1, r2, r3]) rfl ?_
    exact ⟨x, y, z, u, s, rfl, ext_put4 HE4.out (Nat.le_refl _) _ _ _ _⟩
set_option maxRecDepth 100000 in
set_option maxHeartbeats 4000000 in
theorem s_DrawMouldFor (ao : Option Addr) (n c : Nat) (bs : List UInt8) (w : World) (hbW : U8s w ao n bs) : Calls Tryz.prog 5 #[.slice ao n c] w (RetMS w) := by
  have hF := s_fromD ao n c bs w (w.alloc (.cells #[.int .i64 0, .int .i64 0, .int .i64 0, .int .i64 0] 25)) hbW ((Ext.refl w).alloc _)
  have hz : (w.alloc (.cells #[.int .i64 0, .int .i64 0, .int .i64 0, .int .i64 0] 25)).heap.size = w.heap.size + 1 := by simp
  rw [hz] at hF
  have HF := Lib.hid hF
  have HZ := Lib.hid hz
  have HR0 := Lib.hid (heap_alloc_new w (.cells #[.int .i64 0, .int .i64 0, .int .i64 0, .int .i64 0] 25))
  clear hF hz hbW
  go_enter Tryz.func5, Tryz.ntmps5
  go_wp2_with fail
  refine HF.out.mono ?_
  rintro e w1 ⟨rfl, d1, e1, z1⟩
  have HR1 := Lib.hid (e1.block HR0.out)
  have HO := Lib.hid (s_l02Bent (by omega) w1 d1)
  clear d1 e1 HF HR0
  go_wp2_with fail
  refine HO.out.mono ?_
  rintro e w2 ⟨x, y, z, u, rfl, _, d2, g2⟩
  have HR2 := Lib.hid (blkQ_grown HR1.out g2 (fun e => by simp at e))
  have HD3 := Lib.hid (d2.ext ((Ext.refl w2).alloc (.cells #[.int .i64 x, .int .i64 y, .int .i64 z, .int .i64 u] 25)))
  have HR3 := Lib.hid (((Ext.refl w2).alloc (.cells #[.int .i64 x, .int .i64 y, .int .i64 z, .int .i64 u] 25)).block HR2.out)
  have HB3 := Lib.hid (heap_alloc_new w2 (.cells #[.int .i64 x, .int .i64 y, .int .i64 z, .int .i64 u] 25))
  obtain ⟨p0, p1, p2, p3, p4⟩ := four_cells HB3.out
  have HGL := Lib.hid d2.low.2
  have HSh := Lib.hid (fun W (h : DS (w.heap.size + 1) ao n c bs w (0 + 14) W) => s_l05Shrink (by omega) W h)
  clear d2 g2 HO HR1 HR2
  go_wp2
  go_region_with (first
    | (go_at_call 26; refine (HSh.out _ (HD3.out.ext (Ext.refl _).drew)).mono ?_; rintro e w4 ⟨s, rfl, d4, g4⟩; have hE4 := d4.base; have hR4 := blkQ_grown (((Ext.refl _).drew).block HR3.out) g4 (fun e => by simp at e); have hB4 := blkQ_grown (((Ext.refl _).drew).block HB3.out) g4 (fun e => by have := HGL.out; simp at e; omega); obtain ⟨⟨r0, r1, r2, r3⟩, ⟨s0, s1, s2, s3⟩, rl⟩ := four_res hR4; obtain ⟨⟨k0, k1, k2, k3⟩, _, kl⟩ := four_res hB4; have HE4 := Lib.hid hE4; clear hE4 hR4 hB4 d4 g4))
  all_goals
    go_wp2
    refine bodyPost_ret (v := .tuple #[.agg #[.int .i64 x, .int .i64 y, .int .i64 z, .int .i64 u], .int .i64 s]) (by simp [results, Tryz.results5, go_sem, r0, r1, r2, r3]) rfl ?_
    exact ⟨x, y, z, u, s, rfl, ext_put4 HE4.out (Nat.le_refl _) _ _ _ _⟩
set_option maxRecDepth 100000 in
set_option maxHeartbeats 4000000 in
theorem s_DrawMouldText (ao : Option Addr) (n c : Nat) (bs : List UInt8) (w : World) (hbW : U8s w ao n bs) : Calls Tryz.prog 17 #[.slice ao n c] w (RetM4 w) := by
  have hF := s_fromD ao n c bs w (w.alloc (.cells #[.int .i64 0, .int .i64 0, .int .i64 0, .int .i64 0] 29)) hbW ((Ext.refl w).alloc _)
  have hz : (w.alloc (.cells #[.int .i64 0, .int .i64 0, .int .i64 0, .int .i64 0] 29)).heap.size = w.heap.size + 1 := by simp
  rw [hz] at hF
  have HF := Lib.hid hF
  have HR0 := Lib.hid (heap_alloc_new w (.cells #[.int .i64 0, .int .i64 0, .int .i64 0, .int .i64 0] 29))
  clear hF hz hbW
  go_enter Tryz.func17, Tryz.ntmps17
  go_wp2_with fail
  refine HF.out.mono ?_
  rintro e w1 ⟨rfl, d1, e1, z1⟩
  have HR1 := Lib.hid (e1.block HR0.out)
  have HO := Lib.hid (s_l05Other (by omega) w1 d1)
  clear d1 e1 HF HR0
  go_wp2_with fail
  refine HO.out.mono ?_
  rintro e w2 ⟨x, y, z, u, rfl, _, d2, g2⟩
  have HR2 := blkQ_grown HR1.out g2 (fun e => by simp at e)
  obtain ⟨⟨r0, r1, r2, r3⟩, ⟨s0, s1, s2, s3⟩, rl⟩ := four_res HR2
  have HE2 := Lib.hid d2.base
  clear d2 g2 HO HR1 HR2
  go_wp2
  refine bodyPost_ret (v := .agg #[.int .i64 x, .int .i64 y, .int .i64 z, .int .i64 u]) (by simp [results, Tryz.results17, go_sem, r0, r1, r2, r3]) rfl ?_
  exact ⟨x, y, z, u, rfl, ext_put4 HE2.out (Nat.le_refl _) _ _ _ _⟩
set_option maxRecDepth 100000 in
set_option maxHeartbeats 4000000 in
theorem s_DrawShrinkBy (ao : Option Addr) (n c : Nat) (bs : List UInt8) (w : World) (hbW : U8s w ao n bs) : Calls Tryz.prog 14 #[.slice ao n c] w (RetI2 w) := by
  have HF := Lib.hid (s_fromD ao n c bs w w hbW (Ext.refl w))
  have HP := Lib.hid (fun (B : Nat) (hB : B ≤ 2900000000000000000) (W : World) (h : DS w.heap.size ao n c bs w B W) => pickD 400 (by decide) (by decide) hB h)
  have HO := Lib.hid (fun (B : Nat) (hB : B ≤ 2900000000000000000) (W : World) (h : DS w.heap.size ao n c bs w B W) => oneD 8 (by decide) (by decide) hB h)
  have HA := Lib.hid (fun (ys : List Int) (hi : ∀ x ∈ ys, IsI64 x) (cs : Array Value) (hcs : cs = (ys.map (Value.int .i64)).toArray) (m : Nat) (hm : ys.length = m) (hm1 : 1 ≤ m) (hm2 : m ≤ 200) (B : Nat) (hB : B ≤ 2900000000000000000) (W : World) (h : DS w.heap.size ao n c bs w B W) => L_among ys hi cs hcs m hm hm1 hm2 hB h)
  clear hbW
  go_enter Tryz.func14, Tryz.ntmps14
  go_wp2_with fail
  refine HF.out.mono ?_
  rintro e w1 ⟨rfl, d1, e1, z1⟩
  have HD1 := Lib.hid d1
  clear d1 e1 z1
  go_wp2_with fail
  refine (HP.out _ (by omega) _ HD1.out).mono ?_
  rintro e w2 ⟨q, rfl, a1, a2, d2, g2⟩
  have HD2 := Lib.hid d2
  clear d2 g2
  go_wp2_with fail
  refine (HO.out _ (by omega) _ HD2.out).mono ?_
  rintro e w3 ⟨b, rfl, d3, g3⟩
  have HD3 := Lib.hid d3
  clear d3 g3 HD1 HD2
  cases b with
  | false =>
    go_wp2_with fail
    refine (HO.out _ (by omega) _ HD3.out).mono ?_
    rintro e w5 ⟨b2, rfl, d5, g5⟩
    have HD5 := Lib.hid d5
    clear d5 g5 HD3
    cases b2 with
    | false =>
      go_wp2_with fail
      refine (HP.out _ (by omega) _ HD5.out).mono ?_
      rintro e w6 ⟨q6, rfl, k1, k2, d6, g6⟩
      have HE6 := Lib.hid d6.base
      clear d6 g6 HD5
      go_wp2
      go_ret2
      exact ⟨_, _, rfl, HE6.out⟩
    | true =>
      go_wp2_with fail
      refine (HA.out l_h4 l_h4_ok _ (by rfl) 4 rfl (by decide) (by decide) _ (by omega) _ HD5.out).mono ?_
      rintro e w6 ⟨v6, rfl, hv6, d6, g6⟩
      have HE6 := Lib.hid d6.base
      clear d6 g6 hv6 HD5
      go_wp2
      go_ret2
      exact ⟨_, _, rfl, HE6.out⟩
  | true =>
    go_wp2_with fail
    refine (HA.out l_s5 l_s5_ok _ (by rfl) 5 rfl (by decide) (by decide) _ (by omega) _ HD3.out).mono ?_
    rintro e w4 ⟨v, rfl, hv, d4, g4⟩
    have HD4 := Lib.hid d4
    clear d4 g4 hv HD3
    go_wp2_with fail
    refine (HO.out _ (by omega) _ HD4.out).mono ?_
    rintro e w5 ⟨b2, rfl, d5, g5⟩
    have HD5 := Lib.hid d5
    clear d5 g5 HD4
    cases b2 with
    | false =>
      go_wp2_with fail
      refine (HP.out _ (by omega) _ HD5.out).mono ?_
      rintro e w6 ⟨q6, rfl, k1, k2, d6, g6⟩
      have HE6 := Lib.hid d6.base
      clear d6 g6 HD5
      go_wp2
      go_ret2
      exact ⟨_, _, rfl, HE6.out⟩
    | true =>
      go_wp2_with fail
      refine (HA.out l_h4 l_h4_ok _ (by rfl) 4 rfl (by decide) (by decide) _ (by omega) _ HD5.out).mono ?_
      rintro e w6 ⟨v6, rfl, hv6, d6, g6⟩
      have HE6 := Lib.hid d6.base
      clear d6 g6 hv6 HD5
      go_wp2
      go_ret2
      exact ⟨_, _, rfl, HE6.out⟩
end Go.Proofs.YtdedamamjkpcpaaGreatDoor
