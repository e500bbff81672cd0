/- Contracts: the first size that differs too much, on both sides. -/
import Derived.Test.YtdedamamjkpcpaaGreatDoorMould2
import Derived.Test.YtdedamamjkpcpaaGreatDoorCls
import Derived.BigQuiet
import Derived.Deep.QuietTactic
import Derived.Deep.DeepCutAuto
namespace Go.Proofs.YtdedamamjkpcpaaGreatDoor
open Go.RowKit
set_option linter.unusedSimpArgs false
set_option linter.unusedVariables false
set_option linter.unnecessarySimpa false

def tLen : ByteArray := ⟨#[108, 101, 110, 103, 116, 104]⟩
def tWid : ByteArray := ⟨#[119, 105, 100, 116, 104]⟩
def tHei : ByteArray := ⟨#[104, 101, 105, 103, 104, 116]⟩
def tNone : ByteArray := ⟨#[110, 111, 110, 101]⟩
/-- the first difference above a bound -/
def fltT (x y z off : Int) : ByteArray := if off < x then tLen else if off < y then tWid else if off < z then tHei else tNone
/-- the fault of a mould -/
def sfT (a b c a' b' c' s off : Int) : ByteArray := fltT (dist (fireI a s) a') (dist (fireI b s) b') (dist (fireI c s) c') off
def sfOk (a b c d a' b' c' d' : Int) : Bool := mouldB a b c d && fmtB a' b' c' d'
def sfX (a b c d a' b' c' d' s off : Int) : ByteArray := if (sfOk a b c d a' b' c' d' && (inB s 0 200 && inB off 0 100)) = true then sfT a b c a' b' c' s off else ⟨#[]⟩
def sfC (a b c d a' b' c' d' s off : Int) : Int := sel (sfOk a b c d a' b' c' d') (sel (inB s 0 200 && inB off 0 100) 0 2) 1
/-- a text and a code -/
def RetTC (t : ByteArray) (k : Int) (w : World) (e : Ending) (w' : World) : Prop := e = .returned (.tuple #[.string t, .int .i64 k]) ∧ Ext w w'
theorem RetTC.mk {t t' : ByteArray} {k k' : Int} {w w' : World} (h : t' = t) (h2 : k' = k) (e : Ext w w') : RetTC t k w (.returned (.tuple #[.string t', .int .i64 k'])) w' := ⟨by rw [h, h2], e⟩
set_option maxHeartbeats 4000000 in
theorem s_l05Fault (pb : Nat) (a b c d a' b' c' d' s off : Int) (h : mouldB a b c d = true) (hf : fmtB a' b' c' d' = true) (s0 : 0 ≤ s) (s1 : s ≤ 200) (w : World) (hB : MBox w pb a b c d) : Calls Tryz.prog 45 #[.pointer (some ⟨pb, 0, none⟩), .agg #[.int .i64 a', .int .i64 b', .int .i64 c', .int .i64 d'], .int .i64 s, .int .i64 off] w (RetE (.string (sfT a b c a' b' c' s off)) w) := by
  obtain ⟨⟨a0, a1⟩, ⟨b0, b1⟩, ⟨c0, c1⟩, _⟩ := mouldB_bd h
  obtain ⟨⟨x0, x1⟩, ⟨y0, y1⟩, ⟨z0, z1⟩, _⟩ := fmtB_bd hf
  have q1 := fire_bd (n := a) (s := s) (by omega) s0 (by omega)
  have q2 := fire_bd (n := b) (s := s) (by omega) s0 (by omega)
  have q3 := fire_bd (n := c) (s := s) (by omega) s0 (by omega)
  have e0 : Ext w (w.alloc (.cells #[.int .i64 a', .int .i64 b', .int .i64 c', .int .i64 d'] 25)) := (Ext.refl w).alloc _
  have HA := Lib.hid (s_l05All pb a b c d s h s0 s1 _ (e0.block hB))
  have HB0 := Lib.hid (heap_alloc_new w (.cells #[.int .i64 a', .int .i64 b', .int .i64 c', .int .i64 d'] 25))
  have HE0 := Lib.hid e0
  unfold fires at HA
  unfold sfT
  generalize fireI a s = f1 at *
  generalize fireI b s = f2 at *
  generalize fireI c s = f3 at *
  have hS1 := fun W => s_l02Size f1 a' (by omega) (by omega) (by omega) (by omega) W
  have hS2 := fun W => s_l02Size f2 b' (by omega) (by omega) (by omega) (by omega) W
  have hS3 := fun W => s_l02Size f3 c' (by omega) (by omega) (by omega) (by omega) W
  generalize dist f1 a' = d1 at *
  generalize dist f2 b' = d2 at *
  generalize dist f3 c' = d3 at *
  have HS1 := Lib.hid hS1
  have HS2 := Lib.hid hS2
  have HS3 := Lib.hid hS3
  have HV := Lib.hid (show fltT d1 d2 d3 off = if off < d1 then tLen else if off < d2 then tWid else if off < d3 then tHei else tNone from rfl)
  generalize fltT d1 d2 d3 off = T at *
  clear h hf hB e0 hS1 hS2 hS3
  go_enter Tryz.func45, Tryz.ntmps45
  go_wp2_with fail
  refine HA.out.mono ?_
  rintro e w1 ⟨ao, cap, rfl, o1, e1⟩
  have HE1 := Lib.hid (HE0.out.trans e1)
  obtain ⟨p0, p1, p2, p3, p4⟩ := four_cells (e1.block HB0.out)
  have hi := o1.ints
  obtain ⟨g, off0, rfl, k0⟩ := hi.2.2.1 0 (by simp)
  obtain ⟨g', off', he1, k1⟩ := hi.2.2.1 1 (by simp)
  obtain ⟨g'', off'', he2, k2⟩ := hi.2.2.1 2 (by simp)
  simp only [Option.some.injEq, Addr.mk.injEq, and_true] at he1 he2
  obtain ⟨rfl, rfl⟩ := he1
  obtain ⟨rfl, rfl⟩ := he2
  simp only [List.getD_cons_zero, List.getD_cons_succ, Nat.add_zero] at k0 k1 k2
  have hw1 : IntKind.i64.wrap (f1 - a') = f1 - a' := IntWalk.i64_in _ (by omega)
  have hw2 : IntKind.i64.wrap (f2 - b') = f2 - b' := IntWalk.i64_in _ (by omega)
  have hw3 : IntKind.i64.wrap (f3 - c') = f3 - c' := IntWalk.i64_in _ (by omega)
  obtain ⟨α, hne, F, hK⟩ := cls_of w1
  have HK := Lib.hid hK
  have r0 := hK.cell k0
  have r1 := hK.cell k1
  have r2 := hK.cell k2
  have u0 := hK.cell p0
  have u1 := hK.cell p1
  have u2 := hK.cell p2
  clear HA HE0 HB0 o1 e1 hi hK k0 k1 k2 p0 p1 p2 p3 p4
  by_cases t1 : off < d1
  · have HT : Hid (T = tLen) := Lib.hid (by rw [HV.out, if_pos t1])
    clear HV
    go_wp2
    refine wp_region_cls F (by kernel_rfl) (by kernel_rfl) HK.out.drew ?_
    repeat (go_big_quiet_step ((go_at_call 64; exact HK.out.retV (HS1.out _))))
    refine wpQuiet_nil ?_
    rintro _ ⟨z1, rfl⟩
    go_wp2
    go_ret
    exact RetE.mk (by rw [HT.out]; rfl) (HE1.out.trans (HK.out.ext _))
  · by_cases t2 : off < d2
    · have HT : Hid (T = tWid) := Lib.hid (by rw [HV.out, if_neg t1, if_pos t2])
      clear HV
      go_wp2
      refine wp_region_cls F (by kernel_rfl) (by kernel_rfl) HK.out.drew ?_
      repeat (go_big_quiet_step ((go_at_call 64; exact HK.out.retV (HS1.out _))))
      refine wpQuiet_nil ?_
      rintro _ ⟨z1, rfl⟩
      go_wp2
      refine wp_region_cls F (by kernel_rfl) (by kernel_rfl) (HK.out.all _ (HK.out.ext z1).drew) ?_
      repeat (go_big_quiet_step ((go_at_call 64; exact HK.out.retV (HS2.out _))))
      refine wpQuiet_nil ?_
      rintro _ ⟨z2, rfl⟩
      go_wp2
      go_ret
      exact RetE.mk (by rw [HT.out]; rfl) (HE1.out.trans (HK.out.ext _))
    · by_cases t3 : off < d3
      · have HT : Hid (T = tHei) := Lib.hid (by rw [HV.out, if_neg t1, if_neg t2, if_pos t3])
        clear HV
        go_wp2
        refine wp_region_cls F (by kernel_rfl) (by kernel_rfl) HK.out.drew ?_
        repeat (go_big_quiet_step ((go_at_call 64; exact HK.out.retV (HS1.out _))))
        refine wpQuiet_nil ?_
        rintro _ ⟨z1, rfl⟩
        go_wp2
        refine wp_region_cls F (by kernel_rfl) (by kernel_rfl) (HK.out.all _ (HK.out.ext z1).drew) ?_
        repeat (go_big_quiet_step ((go_at_call 64; exact HK.out.retV (HS2.out _))))
        refine wpQuiet_nil ?_
        rintro _ ⟨z2, rfl⟩
        go_wp2
        refine wp_region_cls F (by kernel_rfl) (by kernel_rfl) (HK.out.all _ (HK.out.ext z2).drew) ?_
        repeat (go_big_quiet_step ((go_at_call 64; exact HK.out.retV (HS3.out _))))
        refine wpQuiet_nil ?_
        rintro _ ⟨z3, rfl⟩
        go_wp2
        go_ret
        exact RetE.mk (by rw [HT.out]; rfl) (HE1.out.trans (HK.out.ext _))
      · have HT : Hid (T = tNone) := Lib.hid (by rw [HV.out, if_neg t1, if_neg t2, if_neg t3])
        clear HV
        go_wp2
        refine wp_region_cls F (by kernel_rfl) (by kernel_rfl) HK.out.drew ?_
        repeat (go_big_quiet_step ((go_at_call 64; exact HK.out.retV (HS1.out _))))
        refine wpQuiet_nil ?_
        rintro _ ⟨z1, rfl⟩
        go_wp2
        refine wp_region_cls F (by kernel_rfl) (by kernel_rfl) (HK.out.all _ (HK.out.ext z1).drew) ?_
        repeat (go_big_quiet_step ((go_at_call 64; exact HK.out.retV (HS2.out _))))
        refine wpQuiet_nil ?_
        rintro _ ⟨z2, rfl⟩
        go_wp2
        refine wp_region_cls F (by kernel_rfl) (by kernel_rfl) (HK.out.all _ (HK.out.ext z2).drew) ?_
        repeat (go_big_quiet_step ((go_at_call 64; exact HK.out.retV (HS3.out _))))
        refine wpQuiet_nil ?_
        rintro _ ⟨z3, rfl⟩
        go_wp2
        go_ret
        exact RetE.mk (by rw [HT.out]; rfl) (HE1.out.trans (HK.out.ext _))
theorem ix_0 : ∀ w : World, (Instr.index 66 (.agg #[.string ⟨#[108, 101, 110, 103, 116, 104]⟩, .string ⟨#[119, 105, 100, 116, 104]⟩, .string ⟨#[104, 101, 105, 103, 104, 116]⟩]) (.int .i64 0)).run Tryz.prog w = .ok (.string ⟨#[108, 101, 110, 103, 116, 104]⟩) w := fun _ => by kernel_rfl
theorem ix_1 : ∀ w : World, (Instr.index 66 (.agg #[.string ⟨#[108, 101, 110, 103, 116, 104]⟩, .string ⟨#[119, 105, 100, 116, 104]⟩, .string ⟨#[104, 101, 105, 103, 104, 116]⟩]) (.int .i64 1)).run Tryz.prog w = .ok (.string ⟨#[119, 105, 100, 116, 104]⟩) w := fun _ => by kernel_rfl
theorem ix_2 : ∀ w : World, (Instr.index 66 (.agg #[.string ⟨#[108, 101, 110, 103, 116, 104]⟩, .string ⟨#[119, 105, 100, 116, 104]⟩, .string ⟨#[104, 101, 105, 103, 104, 116]⟩]) (.int .i64 2)).run Tryz.prog w = .ok (.string ⟨#[104, 101, 105, 103, 104, 116]⟩) w := fun _ => by kernel_rfl
set_option maxRecDepth 100000 in
set_option maxHeartbeats 4000000 in
theorem i_SizeFault (a b c d a' b' c' d' s off : Int) (w : World) : Calls Tryz.prog 12 #[.agg #[.int .i64 a, .int .i64 b, .int .i64 c, .int .i64 d], .agg #[.int .i64 a', .int .i64 b', .int .i64 c', .int .i64 d'], .int .i64 s, .int .i64 off] w (RetTC (sfX a b c d a' b' c' d' s off) (sfC a b c d a' b' c' d' s off) w) := by
  have e0 : Ext w ((w.alloc (.cells #[.int .i64 a, .int .i64 b, .int .i64 c, .int .i64 d] 29)).alloc (.cells #[.int .i64 a', .int .i64 b', .int .i64 c', .int .i64 d'] 25)) := ((Ext.refl w).alloc _).alloc _
  have HE0 := Lib.hid e0
  have HM0 : Hid (MBox ((w.alloc (.cells #[.int .i64 a, .int .i64 b, .int .i64 c, .int .i64 d] 29)).alloc (.cells #[.int .i64 a', .int .i64 b', .int .i64 c', .int .i64 d'] 25)) w.heap.size a b c d) := Lib.hid (((Ext.refl _).alloc _).block (heap_alloc_new w _))
  have HF0 : Hid (((w.alloc (.cells #[.int .i64 a, .int .i64 b, .int .i64 c, .int .i64 d] 29)).alloc (.cells #[.int .i64 a', .int .i64 b', .int .i64 c', .int .i64 d'] 25)).heap[w.heap.size + 1]? = some (.cells #[.int .i64 a', .int .i64 b', .int .i64 c', .int .i64 d'] 25 (0, 0))) := Lib.hid (by simpa using heap_alloc_new (w.alloc (.cells #[.int .i64 a, .int .i64 b, .int .i64 c, .int .i64 d] 29)) (.cells #[.int .i64 a', .int .i64 b', .int .i64 c', .int .i64 d'] 25))
  have HV := Lib.hid (fun W => i_validMould a b c d W)
  have HW := Lib.hid (fun W => i_ValidFormat a' b' c' d' W)
  have HI := Lib.hid (fun W => i_isShrink s W)
  have HJ := Lib.hid (fun W => i_within off 0 100 W)
  cases hv : mouldB a b c d with
  | false =>
    have hc : sfC a b c d a' b' c' d' s off = 1 := by unfold sfC sfOk; rw [hv]; rfl
    have hx : sfX a b c d a' b' c' d' s off = ⟨#[]⟩ := by unfold sfX sfOk; rw [hv]; rfl
    rw [hc, hx]
    rw [hv] at HV
    clear hv hc hx e0
    go_enter Tryz.func12, Tryz.ntmps12
    go_wp2_with fail
    refine (HV.out _).mono ?_
    rintro e w1 ⟨rfl, e1⟩
    go_wp2
    go_ret2
    exact RetTC.mk rfl rfl (HE0.out.trans e1)
  | true =>
    cases hw : fmtB a' b' c' d' with
    | false =>
      have hc : sfC a b c d a' b' c' d' s off = 1 := by unfold sfC sfOk; rw [hv, hw]; rfl
      have hx : sfX a b c d a' b' c' d' s off = ⟨#[]⟩ := by unfold sfX sfOk; rw [hv, hw]; rfl
      rw [hc, hx]
      rw [hv] at HV
      rw [hw] at HW
      clear hv hw hc hx e0
      go_enter Tryz.func12, Tryz.ntmps12
      go_wp2_with fail
      refine (HV.out _).mono ?_
      rintro e w1 ⟨rfl, e1⟩
      obtain ⟨p0, p1, p2, p3, p4⟩ := four_cells (e1.block HF0.out)
      go_wp2_with fail
      refine (HW.out _).mono ?_
      rintro e w2 ⟨rfl, e2⟩
      go_wp2
      go_ret2
      exact RetTC.mk rfl rfl ((HE0.out.trans e1).trans e2)
    | true =>
      cases hs : inB s 0 200 with
      | false =>
        have hc : sfC a b c d a' b' c' d' s off = 2 := by unfold sfC sfOk; rw [hv, hw, hs]; rfl
        have hx : sfX a b c d a' b' c' d' s off = ⟨#[]⟩ := by unfold sfX sfOk; rw [hv, hw, hs]; rfl
        rw [hc, hx]
        rw [hv] at HV
        rw [hw] at HW
        rw [hs] at HI
        clear hv hw hs hc hx e0
        go_enter Tryz.func12, Tryz.ntmps12
        go_wp2_with fail
        refine (HV.out _).mono ?_
        rintro e w1 ⟨rfl, e1⟩
        obtain ⟨p0, p1, p2, p3, p4⟩ := four_cells (e1.block HF0.out)
        go_wp2_with fail
        refine (HW.out _).mono ?_
        rintro e w2 ⟨rfl, e2⟩
        go_wp2_with fail
        refine (HI.out _).mono ?_
        rintro e w' ⟨rfl, rfl⟩
        go_wp2
        go_ret2
        exact RetTC.mk rfl rfl ((HE0.out.trans e1).trans e2)
      | true =>
        cases ho : inB off 0 100 with
        | false =>
          have hc : sfC a b c d a' b' c' d' s off = 2 := by unfold sfC sfOk; rw [hv, hw, hs, ho]; rfl
          have hx : sfX a b c d a' b' c' d' s off = ⟨#[]⟩ := by unfold sfX sfOk; rw [hv, hw, hs, ho]; rfl
          rw [hc, hx]
          rw [hv] at HV
          rw [hw] at HW
          rw [hs] at HI
          rw [ho] at HJ
          clear hv hw hs ho hc hx e0
          go_enter Tryz.func12, Tryz.ntmps12
          go_wp2_with fail
          refine (HV.out _).mono ?_
          rintro e w1 ⟨rfl, e1⟩
          obtain ⟨p0, p1, p2, p3, p4⟩ := four_cells (e1.block HF0.out)
          go_wp2_with fail
          refine (HW.out _).mono ?_
          rintro e w2 ⟨rfl, e2⟩
          go_wp2_with fail
          refine (HI.out _).mono ?_
          rintro e w' ⟨rfl, rfl⟩
          go_wp2_with fail
          refine (HJ.out _).mono ?_
          rintro e w' ⟨rfl, rfl⟩
          go_wp2
          go_ret2
          exact RetTC.mk rfl rfl ((HE0.out.trans e1).trans e2)
        | true =>
          have hsb := inB_iff.1 hs
          obtain ⟨⟨a0, a1⟩, ⟨b0, b1⟩, ⟨c0, c1⟩, _⟩ := mouldB_bd hv
          obtain ⟨⟨x0, x1⟩, ⟨y0, y1⟩, ⟨z0, z1⟩, _⟩ := fmtB_bd hw
          have q1 := fire_bd (n := a) (s := s) (by omega) hsb.1 (by omega)
          have q2 := fire_bd (n := b) (s := s) (by omega) hsb.1 (by omega)
          have q3 := fire_bd (n := c) (s := s) (by omega) hsb.1 (by omega)
          have HS := Lib.hid (fun W => i_firedSizes a b c d s hv hsb.1 hsb.2 W)
          have HFs := Lib.hid (fun W => i_Fsizes a' b' c' d' W)
          have hc : sfC a b c d a' b' c' d' s off = 0 := by unfold sfC sfOk; rw [hv, hw, hs, ho]; rfl
          have hx : sfX a b c d a' b' c' d' s off = sfT a b c a' b' c' s off := by unfold sfX sfOk; rw [hv, hw, hs, ho]; rfl
          rw [hc, hx]
          rw [hv] at HV
          rw [hw] at HW
          rw [hs] at HI
          rw [ho] at HJ
          unfold sfT
          generalize fireI a s = f1 at *
          generalize fireI b s = f2 at *
          generalize fireI c s = f3 at *
          have hS1 := fun W => i_apart f1 a' (by omega) (by omega) (by omega) (by omega) W
          have hS2 := fun W => i_apart f2 b' (by omega) (by omega) (by omega) (by omega) W
          have hS3 := fun W => i_apart f3 c' (by omega) (by omega) (by omega) (by omega) W
          generalize dist f1 a' = d1 at *
          generalize dist f2 b' = d2 at *
          generalize dist f3 c' = d3 at *
          have HS1 := Lib.hid hS1
          have HS2 := Lib.hid hS2
          have HS3 := Lib.hid hS3
          have HT := Lib.hid (show fltT d1 d2 d3 off = if off < d1 then tLen else if off < d2 then tWid else if off < d3 then tHei else tNone from rfl)
          generalize fltT d1 d2 d3 off = T at *
          clear hv hw hs ho hc hx e0 hS1 hS2 hS3
          go_enter Tryz.func12, Tryz.ntmps12
          go_wp2_with fail
          refine (HV.out _).mono ?_
          rintro e w1 ⟨rfl, e1⟩
          obtain ⟨p0, p1, p2, p3, p4⟩ := four_cells (e1.block HF0.out)
          go_wp2_with fail
          refine (HW.out _).mono ?_
          rintro e w2 ⟨rfl, e2⟩
          have E2 := (HE0.out.trans e1).trans e2
          have M2 : MBox w2 w.heap.size a b c d := e2.block (e1.block HM0.out)
          have F2 := e2.block (e1.block HF0.out)
          have HE2 := Lib.hid E2
          have HM2 := Lib.hid M2
          clear p0 p1 p2 p3 p4 e1 e2 E2 M2 HE0 HM0 HF0
          obtain ⟨p0, p1, p2, p3, p4⟩ := four_cells F2
          clear F2
          go_wp2_with fail
          refine (HI.out _).mono ?_
          rintro e w' ⟨rfl, rfl⟩
          go_wp2_with fail
          refine (HJ.out _).mono ?_
          rintro e w' ⟨rfl, rfl⟩
          go_wp2_with fail
          refine (HFs.out _).mono ?_
          rintro e w3 ⟨g1, rfl, hg1, _, e3⟩
          have HE3 := Lib.hid (HE2.out.trans e3)
          have hm := e3.block HM2.out
          clear p0 p1 p2 p3 p4 e3 HE2 HM2
          obtain ⟨p0, p1, p2, p3, p4⟩ := four_cells hm
          have HG1 := Lib.hid hg1
          clear hg1 hm
          go_wp2_with fail
          refine (HS.out _).mono ?_
          rintro e w4 ⟨g2, rfl, hg2, _, e4⟩
          have HE4 := Lib.hid (HE3.out.trans e4)
          obtain ⟨k0, k1, k2, _, _, _, kl⟩ := three_cellsM (e4.block HG1.out)
          obtain ⟨l0, l1, l2, _, _, _, ll⟩ := three_cellsM hg2
          clear p0 p1 p2 p3 p4 e4 HE3 HG1 hg2
          have i0 := ix_0
          have i1 := ix_1
          have i2 := ix_2
          go_wp2
          go_loop [37] (fun i => ∃ j : Nat, j ≤ 3 ∧ i = .int .i64 j ∧ Hid ((0 < j → d1 ≤ off) ∧ (1 < j → d2 ≤ off) ∧ (2 < j → d3 ≤ off))) (fun i => 3 - (intOf i).toNat)
          case atStart => exact ⟨0, by omega, rfl, Lib.hid ⟨fun h => absurd h (by decide), fun h => absurd h (by decide), fun h => absurd h (by decide)⟩⟩
          case round =>
            obtain ⟨j, hj, rfl, HN⟩ := hrel
            have h3 : j = 0 ∨ j = 1 ∨ j = 2 ∨ j = 3 := by omega
            rcases h3 with rfl | rfl | rfl | rfl
            · by_cases t1 : off < d1
              · have HR : Hid (T = tLen) := Lib.hid (by rw [HT.out, if_pos t1])
                clear HT HN
                go_wp2_with fail
                refine (HS1.out _).mono ?_
                rintro e w' ⟨rfl, rfl⟩
                go_wp2
                go_ret2
                exact RetTC.mk (by rw [HR.out]; rfl) rfl HE4.out
              · have HN2 : Hid ((0 < 1 → d1 ≤ off) ∧ (1 < 1 → d2 ≤ off) ∧ (2 < 1 → d3 ≤ off)) := Lib.hid ⟨fun _ => Int.not_lt.1 t1, fun h => absurd h (by decide), fun h => absurd h (by decide)⟩
                clear HT HN
                go_wp2_with fail
                refine (HS1.out _).mono ?_
                rintro e w' ⟨rfl, rfl⟩
                go_wp2
                go_round
                case rel => exact ⟨1, by omega, rfl, HN2⟩
                case measure => simp [intOf]
            · by_cases t2 : off < d2
              · have HR : Hid (T = tWid) := Lib.hid (by rw [HT.out, if_neg (Int.not_lt.2 (HN.out.1 (by decide))), if_pos t2])
                clear HT HN
                go_wp2_with fail
                refine (HS2.out _).mono ?_
                rintro e w' ⟨rfl, rfl⟩
                go_wp2
                go_ret2
                exact RetTC.mk (by rw [HR.out]; rfl) rfl HE4.out
              · have HN2 : Hid ((0 < 2 → d1 ≤ off) ∧ (1 < 2 → d2 ≤ off) ∧ (2 < 2 → d3 ≤ off)) := Lib.hid ⟨fun _ => HN.out.1 (by decide), fun _ => Int.not_lt.1 t2, fun h => absurd h (by decide)⟩
                clear HT HN
                go_wp2_with fail
                refine (HS2.out _).mono ?_
                rintro e w' ⟨rfl, rfl⟩
                go_wp2
                go_round
                case rel => exact ⟨2, by omega, rfl, HN2⟩
                case measure => simp [intOf]
            · by_cases t3 : off < d3
              · have HR : Hid (T = tHei) := Lib.hid (by rw [HT.out, if_neg (Int.not_lt.2 (HN.out.1 (by decide))), if_neg (Int.not_lt.2 (HN.out.2.1 (by decide))), if_pos t3])
                clear HT HN
                go_wp2_with fail
                refine (HS3.out _).mono ?_
                rintro e w' ⟨rfl, rfl⟩
                go_wp2
                go_ret2
                exact RetTC.mk (by rw [HR.out]; rfl) rfl HE4.out
              · have HN2 : Hid ((0 < 3 → d1 ≤ off) ∧ (1 < 3 → d2 ≤ off) ∧ (2 < 3 → d3 ≤ off)) := Lib.hid ⟨fun _ => HN.out.1 (by decide), fun _ => HN.out.2.1 (by decide), fun _ => Int.not_lt.1 t3⟩
                clear HT HN
                go_wp2_with fail
                refine (HS3.out _).mono ?_
                rintro e w' ⟨rfl, rfl⟩
                go_wp2
                go_round
                case rel => exact ⟨3, by omega, rfl, HN2⟩
                case measure => simp [intOf]
            · have HR : Hid (T = tNone) := Lib.hid (by rw [HT.out, if_neg (Int.not_lt.2 (HN.out.1 (by decide))), if_neg (Int.not_lt.2 (HN.out.2.1 (by decide))), if_neg (Int.not_lt.2 (HN.out.2.2 (by decide)))])
              clear HT HN
              go_wp2
              go_ret2
              exact RetTC.mk (by rw [HR.out]; rfl) rfl HE4.out
set_option maxHeartbeats 4000000 in
theorem s_SizeFault (a b c d a' b' c' d' s off : Int) (w : World) : Calls Tryz.prog 13 #[.agg #[.int .i64 a, .int .i64 b, .int .i64 c, .int .i64 d], .agg #[.int .i64 a', .int .i64 b', .int .i64 c', .int .i64 d'], .int .i64 s, .int .i64 off] w (RetTC (sfX a b c d a' b' c' d' s off) (sfC a b c d a' b' c' d' s off) w) := by
  have e0 : Ext w ((w.alloc (.cells #[.int .i64 a, .int .i64 b, .int .i64 c, .int .i64 d] 29)).alloc (.cells #[.int .i64 a', .int .i64 b', .int .i64 c', .int .i64 d'] 25)) := ((Ext.refl w).alloc _).alloc _
  have HE0 := Lib.hid e0
  have HM0 : Hid (MBox ((w.alloc (.cells #[.int .i64 a, .int .i64 b, .int .i64 c, .int .i64 d] 29)).alloc (.cells #[.int .i64 a', .int .i64 b', .int .i64 c', .int .i64 d'] 25)) w.heap.size a b c d) := Lib.hid (((Ext.refl _).alloc _).block (heap_alloc_new w _))
  have HF0 : Hid (((w.alloc (.cells #[.int .i64 a, .int .i64 b, .int .i64 c, .int .i64 d] 29)).alloc (.cells #[.int .i64 a', .int .i64 b', .int .i64 c', .int .i64 d'] 25)).heap[w.heap.size + 1]? = some (.cells #[.int .i64 a', .int .i64 b', .int .i64 c', .int .i64 d'] 25 (0, 0))) := Lib.hid (by simpa using heap_alloc_new (w.alloc (.cells #[.int .i64 a, .int .i64 b, .int .i64 c, .int .i64 d] 29)) (.cells #[.int .i64 a', .int .i64 b', .int .i64 c', .int .i64 d'] 25))
  have HV := Lib.hid (s_l05One w.heap.size a b c d _ HM0.out)
  have HW := Lib.hid (fun W => s_l02Ok a' b' c' d' W)
  have HI := Lib.hid (fun W => s_l00In s 0 200 W)
  have HJ := Lib.hid (fun W => s_l00In off 0 100 W)
  cases hv : mouldB a b c d with
  | false =>
    have hc : sfC a b c d a' b' c' d' s off = 1 := by unfold sfC sfOk; rw [hv]; rfl
    have hx : sfX a b c d a' b' c' d' s off = ⟨#[]⟩ := by unfold sfX sfOk; rw [hv]; rfl
    rw [hc, hx]
    rw [hv] at HV
    clear hv hc hx e0
    go_enter Tryz.func13, Tryz.ntmps13
    go_wp2_with fail
    refine HV.out.mono ?_
    rintro e w' ⟨rfl, rfl⟩
    go_wp2
    go_ret2
    exact RetTC.mk rfl rfl HE0.out
  | true =>
    cases hw : fmtB a' b' c' d' with
    | false =>
      have hc : sfC a b c d a' b' c' d' s off = 1 := by unfold sfC sfOk; rw [hv, hw]; rfl
      have hx : sfX a b c d a' b' c' d' s off = ⟨#[]⟩ := by unfold sfX sfOk; rw [hv, hw]; rfl
      rw [hc, hx]
      rw [hv] at HV
      rw [hw] at HW
      obtain ⟨p0, p1, p2, p3, p4⟩ := four_cells HF0.out
      clear hv hw hc hx e0
      go_enter Tryz.func13, Tryz.ntmps13
      go_wp2_with fail
      refine HV.out.mono ?_
      rintro e w' ⟨rfl, rfl⟩
      go_wp2_with fail
      refine (HW.out _).mono ?_
      rintro e w1 ⟨rfl, e1⟩
      go_wp2
      go_ret2
      exact RetTC.mk rfl rfl (HE0.out.trans e1)
    | true =>
      cases hs : inB s 0 200 with
      | false =>
        have hc : sfC a b c d a' b' c' d' s off = 2 := by unfold sfC sfOk; rw [hv, hw, hs]; rfl
        have hx : sfX a b c d a' b' c' d' s off = ⟨#[]⟩ := by unfold sfX sfOk; rw [hv, hw, hs]; rfl
        rw [hc, hx]
        rw [hv] at HV
        rw [hw] at HW
        rw [hs] at HI
        obtain ⟨p0, p1, p2, p3, p4⟩ := four_cells HF0.out
        clear hv hw hs hc hx e0
        go_enter Tryz.func13, Tryz.ntmps13
        go_wp2_with fail
        refine HV.out.mono ?_
        rintro e w' ⟨rfl, rfl⟩
        go_wp2_with fail
        refine (HW.out _).mono ?_
        rintro e w1 ⟨rfl, e1⟩
        go_wp2_with fail
        refine (HI.out _).mono ?_
        rintro e w' ⟨rfl, rfl⟩
        go_wp2
        go_ret2
        exact RetTC.mk rfl rfl (HE0.out.trans e1)
      | true =>
        cases ho : inB off 0 100 with
        | false =>
          have hc : sfC a b c d a' b' c' d' s off = 2 := by unfold sfC sfOk; rw [hv, hw, hs, ho]; rfl
          have hx : sfX a b c d a' b' c' d' s off = ⟨#[]⟩ := by unfold sfX sfOk; rw [hv, hw, hs, ho]; rfl
          rw [hc, hx]
          rw [hv] at HV
          rw [hw] at HW
          rw [hs] at HI
          rw [ho] at HJ
          obtain ⟨p0, p1, p2, p3, p4⟩ := four_cells HF0.out
          clear hv hw hs ho hc hx e0
          go_enter Tryz.func13, Tryz.ntmps13
          go_wp2_with fail
          refine HV.out.mono ?_
          rintro e w' ⟨rfl, rfl⟩
          go_wp2_with fail
          refine (HW.out _).mono ?_
          rintro e w1 ⟨rfl, e1⟩
          go_wp2_with fail
          refine (HI.out _).mono ?_
          rintro e w' ⟨rfl, rfl⟩
          go_wp2_with fail
          refine (HJ.out _).mono ?_
          rintro e w' ⟨rfl, rfl⟩
          go_wp2
          go_ret2
          exact RetTC.mk rfl rfl (HE0.out.trans e1)
        | true =>
          have hsb := inB_iff.1 hs
          have HA := Lib.hid (fun W (h : MBox W w.heap.size a b c d) => s_l05Fault w.heap.size a b c d a' b' c' d' s off hv hw hsb.1 hsb.2 W h)
          have hc : sfC a b c d a' b' c' d' s off = 0 := by unfold sfC sfOk; rw [hv, hw, hs, ho]; rfl
          have hx : sfX a b c d a' b' c' d' s off = sfT a b c a' b' c' s off := by unfold sfX sfOk; rw [hv, hw, hs, ho]; rfl
          rw [hc, hx]
          rw [hv] at HV
          rw [hw] at HW
          rw [hs] at HI
          rw [ho] at HJ
          obtain ⟨p0, p1, p2, p3, p4⟩ := four_cells HF0.out
          clear hv hw hs ho hc hx e0
          go_enter Tryz.func13, Tryz.ntmps13
          go_wp2_with fail
          refine HV.out.mono ?_
          rintro e w' ⟨rfl, rfl⟩
          go_wp2_with fail
          refine (HW.out _).mono ?_
          rintro e w1 ⟨rfl, e1⟩
          go_wp2_with fail
          refine (HI.out _).mono ?_
          rintro e w' ⟨rfl, rfl⟩
          go_wp2_with fail
          refine (HJ.out _).mono ?_
          rintro e w' ⟨rfl, rfl⟩
          obtain ⟨p0, p1, p2, p3, p4⟩ := four_cells (e1.block HF0.out)
          go_wp2_with fail
          refine (HA.out _ (e1.block HM0.out)).mono ?_
          rintro e w2 ⟨rfl, e2⟩
          go_wp2
          go_ret2
          exact RetTC.mk rfl rfl ((HE0.out.trans e1).trans e2)
end Go.Proofs.YtdedamamjkpcpaaGreatDoor
