/- For every row of bytes the law FnMoulds answers true: the mould for a format makes bricks that are large enough, a smaller one does not, and moulds are read back from their texts; the library's tables and its error value are as its text lays them. -/
import Derived.Test.YtdedamamjkpcpaaGreatDoorMouldJ
import Derived.Test.YtdedamamjkpcpaaGreatDoorMouldK
import Derived.Test.YtdedamamjkpcpaaGreatDoorMould4
import Derived.Test.YtdedamamjkpcpaaGreatDoorMould5
import Derived.Test.YtdedamamjkpcpaaGreatDoorMould8
import Derived.Test.YtdedamamjkpcpaaGreatDoorF6
import Derived.Test.YtdedamamjkpcpaaGreatDoorOpenU
import Derived.Test.YtdedamamjkpcpaaGreatDoorDoor
import Derived.Laws.StructEq
namespace Go.Proofs.YtdedamamjkpcpaaGreatDoor
open Go.RowKit
set_option linter.unusedSimpArgs false
set_option linter.unusedVariables false
set_option linter.unnecessarySimpa false

theorem mtS_size (a b c d : Int) : (mtS a b c d).size ≤ 100 := by
  unfold mtS
  split
  · rw [mkS_size]; exact mtxt_len (by assumption)
  · exact Nat.zero_le _
/-- a mould is read back from its own text -/
theorem back_of {a b c d x y z u : Int} {ok : Bool} (h1 : ok = true → mouldB x y z u = true ∧ bts (mtS a b c d) = mtxt x y z u) (h2 : ok = false → (x = 0 ∧ y = 0 ∧ z = 0 ∧ u = 0) ∧ noRM (bts (mtS a b c d))) :
    (mouldB a b c d = true → (ok = true ∧ x = a ∧ y = b ∧ z = c ∧ u = d) ∧ mtS a b c d ≠ ⟨#[]⟩) ∧ (¬ mouldB a b c d = true → ok = false ∧ mtS a b c d = ⟨#[]⟩) := by
  refine ⟨fun hm => ?_, fun hm => ?_⟩
  · have ht : bts (mtS a b c d) = mtxt a b c d := by unfold mtS; rw [if_pos hm, bts_mkS]
    refine ⟨?_, fun e => ?_⟩
    · cases ok with
      | false => exact absurd ht ((h2 rfl).2 a b c d hm)
      | true =>
        obtain ⟨m1, t1⟩ := h1 rfl
        obtain ⟨rfl, rfl, rfl, rfl⟩ := mtxt_inj m1 hm (t1.symm.trans ht)
        exact ⟨rfl, rfl, rfl, rfl, rfl⟩
    · rw [e] at ht
      exact mtxt_ne a b c d (ht.symm.trans rfl)
  · have ht : mtS a b c d = ⟨#[]⟩ := by unfold mtS; rw [if_neg hm]
    refine ⟨?_, ht⟩
    cases ok with
    | false => rfl
    | true =>
      obtain ⟨_, t1⟩ := h1 rfl
      rw [ht] at t1
      exact absurd (t1.symm.trans rfl) (mtxt_ne x y z u)
theorem mfor_uniq {a b c d s x y z x' y' z' : Int} (h1 : mforC a b c d s = 0 → Lst a s x ∧ Lst b s y ∧ Lst c s z) (h2 : mforC a b c d s ≠ 0 → x = 0 ∧ y = 0 ∧ z = 0) (k1 : mforC a b c d s = 0 → Lst a s x' ∧ Lst b s y' ∧ Lst c s z') (k2 : mforC a b c d s ≠ 0 → x' = 0 ∧ y' = 0 ∧ z' = 0) : x' = x ∧ y' = y ∧ z' = z := by
  by_cases h : mforC a b c d s = 0
  · have hb := fmtB_bd (mforC_bd h).1
    obtain ⟨a1, a2, a3⟩ := h1 h
    obtain ⟨b1, b2, b3⟩ := k1 h
    exact ⟨b1.uniq a1 (by omega), b2.uniq a2 (by omega), b3.uniq a3 (by omega)⟩
  · obtain ⟨rfl, rfl, rfl⟩ := h2 h
    obtain ⟨rfl, rfl, rfl⟩ := k2 h
    exact ⟨rfl, rfl, rfl⟩
theorem str_nilM {s : ByteArray} (e : s.toList = []) : s = ⟨#[]⟩ := by
  rw [ByteArray.toList_eq] at e
  obtain ⟨d⟩ := s
  have h : d = #[] := by simpa using e
  rw [h]
theorem inB_of {n a b : Int} (h1 : a ≤ n) (h2 : n ≤ b) : inB n a b = true := inB_iff.2 ⟨h1, h2⟩
theorem mouldB_of {a b c d : Int} (h1 : 30 ≤ a ∧ a ≤ 800) (h2 : 30 ≤ b ∧ b ≤ 800) (h3 : 30 ≤ c ∧ c ≤ 800) (h4 : 0 ≤ d ∧ d ≤ 100000) : mouldB a b c d = true := by
  unfold mouldB
  rw [inB_of h1.1 h1.2, inB_of h2.1 h2.2, inB_of h3.1 h3.2, inB_of h4.1 h4.2]; rfl
/-- the least mould makes bricks that are large enough, and one that is shorter by one does not -/
theorem mfor_good {f0 f1 f2 f3 s x y z : Int} (h0 : mforC f0 f1 f2 f3 s = 0) (hL : Lst f0 s x ∧ Lst f1 s y ∧ Lst f2 s z) :
    ((fsX x y z 0 s = fires x y z s ∧ fsC x y z 0 s = 0) ∧ (f0 ≤ fireI x s ∧ f1 ≤ fireI y s ∧ f2 ≤ fireI z s)) ∧ (100 ≤ x ∧ x ≤ 800) ∧ (¬ x = 30 → (fsX (x - 1) y z 0 s = fires (x - 1) y z s ∧ fsC (x - 1) y z 0 s = 0) ∧ fireI (x - 1) s < f0) := by
  obtain ⟨hf, hs⟩ := mforC_bd h0
  have hb := fmtB_bd hf
  have hsb := inB_iff.1 hs
  obtain ⟨⟨a1, a2, a3, a4⟩, ⟨b1, b2, b3, b4⟩, ⟨c1, c2, c3, c4⟩⟩ := hL
  have hm : ∀ v : Int, 30 ≤ v → v ≤ 800 → fsX v y z 0 s = fires v y z s ∧ fsC v y z 0 s = 0 := fun v h1 h2 => by
    have hv : mouldB v y z 0 = true := mouldB_of ⟨h1, h2⟩ ⟨by omega, by omega⟩ ⟨by omega, by omega⟩ ⟨by omega, by omega⟩
    exact ⟨by unfold fsX; rw [if_pos ⟨hv, hs⟩], by unfold fsC; rw [hv, hs]; rfl⟩
  exact ⟨⟨hm x (by omega) (by omega), a3, b3, c3⟩, ⟨by omega, by omega⟩, fun _ => ⟨hm (x - 1) (by omega) (by omega), a4 (x - 1) (by omega) (by omega)⟩⟩
set_option maxRecDepth 100000 in
set_option maxHeartbeats 20000000 in
theorem walk_FnMoulds (ao : Option Addr) (n c : Nat) (bs : List UInt8) (w : World) (hx : U8x w ao n bs) (hT : TabP w) (hE : ErrP w) (hMx : MaxP w) :
    Calls Tryz.prog 3 #[.slice ao n c] w fun e w' => e = .returned (.bool true) ∧ Below w.heap.size w w' := by
  have HLO := Lib.hid (fun W => l_f6big ao n c W hx.2.1)
  cases hl : bigC n with
  | true =>
    rw [hl] at HLO
    clear hx hl
    go_enter Tryz.func3, Tryz.ntmps3
    go_wp2_with (go_at_call 4; refine (HLO.out _).mono ?_; rintro e w' ⟨rfl, rfl⟩)
    go_ret
    exact ⟨rfl, Below.refl _ _⟩
  | false =>
    rw [hl] at HLO
    have HX := Lib.hid (hx.small (by have h := hl; unfold bigC at h; simp at h; omega))
    have HTb := Lib.hid hT
    have HEr := Lib.hid hE
    have HMx := Lib.hid hMx
    have HD1 := Lib.hid (fun W (e : Ext w W) => s_DrawMouldFor ao n c bs W (HX.out.ext e))
    have HD2 := Lib.hid (fun W (e : Ext w W) => s_DrawFiredSize ao n c bs W (HX.out.ext e))
    have HD3 := Lib.hid (fun W (e : Ext w W) => s_DrawSizeFault ao n c bs W (HX.out.ext e))
    have HD4 := Lib.hid (fun W (e : Ext w W) => s_DrawShrinkBy ao n c bs W (HX.out.ext e))
    have HD5 := Lib.hid (fun W (e : Ext w W) => s_DrawMouldText ao n c bs W (HX.out.ext e))
    have HD6 := Lib.hid (fun W (e : Ext w W) => s_DrawReadMould ao n c bs W (HX.out.ext e))
    have HiX := Lib.hid (fun (a b c d : Int) W (e : Ext w W) => i_MouldText a b c d W (HTb.out.ext e))
    have HiR := Lib.hid (fun (s : ByteArray) (h : s.size ≤ 400) W (e : Ext w W) => i_ReadMould s (by omega) W (HTb.out.ext e) (HEr.out.ext e) (HMx.out.ext e))
    have HsR := Lib.hid (fun (s : ByteArray) (h : s.size ≤ 400) W => s_ReadMould s (by omega) W)
    have HE := Lib.hid (Ext.refl w)
    clear hx hl hT hE hMx
    go_enter Tryz.func3, Tryz.ntmps3
    go_wp2_with (go_at_call 4; refine (HLO.out _).mono ?_; rintro e w' ⟨rfl, rfl⟩)
    refine (HD1.out _ HE.out).mono ?_
    rintro e w1 ⟨f0, f1, f2, f3, s, rfl, e1⟩
    have e1a := e1.alloc (.cells #[.int .i64 f0, .int .i64 f1, .int .i64 f2, .int .i64 f3] 25)
    replace HE := Lib.hid (HE.out.trans e1a)
    have HBf := Lib.hid (heap_alloc_new w1 (.cells #[.int .i64 f0, .int .i64 f1, .int .i64 f2, .int .i64 f3] 25))
    clear e1 e1a HD1
    obtain ⟨p00, p01, p02, p03, p04⟩ := four_cells HBf.out
    go_wp2_with fail
    refine (i_MouldFor f0 f1 f2 f3 s _).mono ?_
    rintro e w2 ⟨X, Y, Z, rfl, hL1, hN1, e2⟩
    clear p00 p01 p02 p03 p04
    have e2a := (e2.alloc (.cells #[.int .i64 X, .int .i64 Y, .int .i64 Z, .int .i64 0] 29))
    replace HE := Lib.hid (HE.out.trans e2a)
    replace HBf := Lib.hid (e2a.block HBf.out)
    have HBm := Lib.hid (heap_alloc_new w2 (.cells #[.int .i64 X, .int .i64 Y, .int .i64 Z, .int .i64 0] 29))
    clear e2 e2a
    obtain ⟨p00, p01, p02, p03, p04⟩ := four_cells HBf.out
    go_wp2_with fail
    refine (s_MouldFor f0 f1 f2 f3 s _).mono ?_
    rintro e w3 ⟨X', Y', Z', rfl, hL2, hN2, e3⟩
    clear p00 p01 p02 p03 p04
    have e3a := (e3.alloc (.cells #[.int .i64 X', .int .i64 Y', .int .i64 Z', .int .i64 0] 29))
    replace HE := Lib.hid (HE.out.trans e3a)
    replace HBf := Lib.hid (e3a.block HBf.out)
    replace HBm := Lib.hid (e3a.block HBm.out)
    have HBo := Lib.hid (heap_alloc_new w3 (.cells #[.int .i64 X', .int .i64 Y', .int .i64 Z', .int .i64 0] 29))
    obtain ⟨rfl, rfl, rfl⟩ := mfor_uniq hL1 hN1 hL2 hN2
    have HGO := Lib.hid (fun h0 => mfor_good h0 (hL1 h0))
    obtain ⟨mc, hmc⟩ : ∃ x, mforC f0 f1 f2 f3 s = x := ⟨_, rfl⟩
    rw [hmc] at HGO
    rw [hmc]
    clear hL1 hN1 hL2 hN2 hmc
    clear e3 e3a
    go_wp2_with fail
    refine (HD2.out _ HE.out).mono ?_
    rintro e w4 ⟨a0, a1, a2, a3, sa, rfl, e4⟩
    have e4a := (e4.alloc (.cells #[.int .i64 a0, .int .i64 a1, .int .i64 a2, .int .i64 a3] 29))
    replace HE := Lib.hid (HE.out.trans e4a)
    replace HBf := Lib.hid (e4a.block HBf.out)
    replace HBm := Lib.hid (e4a.block HBm.out)
    replace HBo := Lib.hid (e4a.block HBo.out)
    have HBa := Lib.hid (heap_alloc_new w4 (.cells #[.int .i64 a0, .int .i64 a1, .int .i64 a2, .int .i64 a3] 29))
    clear e4 e4a
    obtain ⟨p00, p01, p02, p03, p04⟩ := four_cells HBa.out
    go_wp2_with fail
    refine (i_FiredSize a0 a1 a2 a3 sa _).mono ?_
    rintro e w5 ⟨ao5, c5, rfl, o5, e5⟩
    clear p00 p01 p02 p03 p04
    replace HE := Lib.hid (HE.out.trans e5)
    replace HBf := Lib.hid (e5.block HBf.out)
    replace HBm := Lib.hid (e5.block HBm.out)
    replace HBo := Lib.hid (e5.block HBo.out)
    replace HBa := Lib.hid (e5.block HBa.out)
    have HI5 := Lib.hid o5.ints
    clear o5
    clear e5
    obtain ⟨p00, p01, p02, p03, p04⟩ := four_cells HBa.out
    go_wp2_with fail
    refine (s_FiredSize a0 a1 a2 a3 sa _).mono ?_
    rintro e w6 ⟨ao6, c6, rfl, o6, e6⟩
    clear p00 p01 p02 p03 p04
    replace HE := Lib.hid (HE.out.trans e6)
    replace HBf := Lib.hid (e6.block HBf.out)
    replace HBm := Lib.hid (e6.block HBm.out)
    replace HBo := Lib.hid (e6.block HBo.out)
    replace HBa := Lib.hid (e6.block HBa.out)
    replace HI5 := Lib.hid (HI5.out.ext e6)
    have HI6 := Lib.hid o6.ints
    clear o6
    obtain ⟨fx, hfx⟩ : ∃ x, fsX a0 a1 a2 a3 sa = x := ⟨_, rfl⟩
    obtain ⟨fc, hfc⟩ : ∃ x, fsC a0 a1 a2 a3 sa = x := ⟨_, rfl⟩
    rw [hfx] at HI5 HI6
    rw [hfx, hfc]
    clear hfx hfc
    clear e6
    go_wp2_with fail
    refine (HD3.out _ HE.out).mono ?_
    rintro e w7 ⟨b0, b1, b2, b3, g0, g1, g2, g3, sb, off, rfl, e7⟩
    have e7a := ((e7.alloc (.cells #[.int .i64 b0, .int .i64 b1, .int .i64 b2, .int .i64 b3] 29)).alloc (.cells #[.int .i64 g0, .int .i64 g1, .int .i64 g2, .int .i64 g3] 25))
    replace HE := Lib.hid (HE.out.trans e7a)
    replace HBf := Lib.hid (e7a.block HBf.out)
    replace HBm := Lib.hid (e7a.block HBm.out)
    replace HBo := Lib.hid (e7a.block HBo.out)
    replace HBa := Lib.hid (e7a.block HBa.out)
    replace HI5 := Lib.hid (HI5.out.ext e7a)
    replace HI6 := Lib.hid (HI6.out.ext e7a)
    have HBb := Lib.hid (blk_old (o := (.cells #[.int .i64 g0, .int .i64 g1, .int .i64 g2, .int .i64 g3] 25)) (blk_at w7 (.cells #[.int .i64 b0, .int .i64 b1, .int .i64 b2, .int .i64 b3] 29) _ rfl))
    have HBg := Lib.hid (blk_at (w7.alloc (.cells #[.int .i64 b0, .int .i64 b1, .int .i64 b2, .int .i64 b3] 29)) (.cells #[.int .i64 g0, .int .i64 g1, .int .i64 g2, .int .i64 g3] 25) (w7.heap.size + 1) (by simp))
    clear e7 e7a
    obtain ⟨p00, p01, p02, p03, p04⟩ := four_cells HBb.out
    obtain ⟨p10, p11, p12, p13, p14⟩ := four_cells HBg.out
    go_wp2_with fail
    refine (i_SizeFault b0 b1 b2 b3 g0 g1 g2 g3 sb off _).mono ?_
    rintro e w8 ⟨rfl, e8⟩
    clear p00 p01 p02 p03 p04 p10 p11 p12 p13 p14
    replace HE := Lib.hid (HE.out.trans e8)
    replace HBf := Lib.hid (e8.block HBf.out)
    replace HBm := Lib.hid (e8.block HBm.out)
    replace HBo := Lib.hid (e8.block HBo.out)
    replace HBa := Lib.hid (e8.block HBa.out)
    replace HI5 := Lib.hid (HI5.out.ext e8)
    replace HI6 := Lib.hid (HI6.out.ext e8)
    replace HBb := Lib.hid (e8.block HBb.out)
    replace HBg := Lib.hid (e8.block HBg.out)
    clear e8
    obtain ⟨p00, p01, p02, p03, p04⟩ := four_cells HBb.out
    obtain ⟨p10, p11, p12, p13, p14⟩ := four_cells HBg.out
    go_wp2_with fail
    refine (s_SizeFault b0 b1 b2 b3 g0 g1 g2 g3 sb off _).mono ?_
    rintro e w9 ⟨rfl, e9⟩
    clear p00 p01 p02 p03 p04 p10 p11 p12 p13 p14
    replace HE := Lib.hid (HE.out.trans e9)
    replace HBf := Lib.hid (e9.block HBf.out)
    replace HBm := Lib.hid (e9.block HBm.out)
    replace HBo := Lib.hid (e9.block HBo.out)
    replace HBa := Lib.hid (e9.block HBa.out)
    replace HI5 := Lib.hid (HI5.out.ext e9)
    replace HI6 := Lib.hid (HI6.out.ext e9)
    replace HBb := Lib.hid (e9.block HBb.out)
    replace HBg := Lib.hid (e9.block HBg.out)
    generalize sfX b0 b1 b2 b3 g0 g1 g2 g3 sb off = st
    generalize sfC b0 b1 b2 b3 g0 g1 g2 g3 sb off = sc
    clear e9
    go_wp2_with fail
    refine (HD4.out _ HE.out).mono ?_
    rintro e w10 ⟨bm, bb, rfl, e10⟩
    replace HE := Lib.hid (HE.out.trans e10)
    replace HBf := Lib.hid (e10.block HBf.out)
    replace HBm := Lib.hid (e10.block HBm.out)
    replace HBo := Lib.hid (e10.block HBo.out)
    replace HBa := Lib.hid (e10.block HBa.out)
    replace HI5 := Lib.hid (HI5.out.ext e10)
    replace HI6 := Lib.hid (HI6.out.ext e10)
    replace HBb := Lib.hid (e10.block HBb.out)
    replace HBg := Lib.hid (e10.block HBg.out)
    clear e10
    go_wp2_with fail
    refine (i_ShrinkBy bm bb _).mono ?_
    rintro e w' ⟨rfl, rfl⟩
    go_wp2_with fail
    refine (s_ShrinkBy bm bb _).mono ?_
    rintro e w' ⟨rfl, rfl⟩
    generalize shrX bm bb = hX
    generalize shrC bm bb = hC
    go_wp2_with fail
    refine (HD5.out _ HE.out).mono ?_
    rintro e w11 ⟨t0, t1, t2, t3, rfl, e11⟩
    have e11a := (e11.alloc (.cells #[.int .i64 t0, .int .i64 t1, .int .i64 t2, .int .i64 t3] 29))
    replace HE := Lib.hid (HE.out.trans e11a)
    replace HBf := Lib.hid (e11a.block HBf.out)
    replace HBm := Lib.hid (e11a.block HBm.out)
    replace HBo := Lib.hid (e11a.block HBo.out)
    replace HBa := Lib.hid (e11a.block HBa.out)
    replace HI5 := Lib.hid (HI5.out.ext e11a)
    replace HI6 := Lib.hid (HI6.out.ext e11a)
    replace HBb := Lib.hid (e11a.block HBb.out)
    replace HBg := Lib.hid (e11a.block HBg.out)
    have HBt := Lib.hid (heap_alloc_new w11 (.cells #[.int .i64 t0, .int .i64 t1, .int .i64 t2, .int .i64 t3] 29))
    clear e11 e11a
    obtain ⟨p00, p01, p02, p03, p04⟩ := four_cells HBt.out
    go_wp2_with fail
    refine (HiX.out t0 t1 t2 t3 _ HE.out).mono ?_
    rintro e w12 ⟨rfl, e12⟩
    clear p00 p01 p02 p03 p04
    replace HE := Lib.hid (HE.out.trans e12)
    replace HBf := Lib.hid (e12.block HBf.out)
    replace HBm := Lib.hid (e12.block HBm.out)
    replace HBo := Lib.hid (e12.block HBo.out)
    replace HBa := Lib.hid (e12.block HBa.out)
    replace HI5 := Lib.hid (HI5.out.ext e12)
    replace HI6 := Lib.hid (HI6.out.ext e12)
    replace HBb := Lib.hid (e12.block HBb.out)
    replace HBg := Lib.hid (e12.block HBg.out)
    replace HBt := Lib.hid (e12.block HBt.out)
    clear e12
    go_wp2_with fail
    refine (HiR.out (mtS t0 t1 t2 t3) (by have := mtS_size t0 t1 t2 t3; omega) _ HE.out).mono ?_
    rintro e w13 ⟨k0, k1, k2, k3, ok, rfl, hk1, hk2, e13⟩
    have e13a := (e13.alloc (.cells #[.int .i64 k0, .int .i64 k1, .int .i64 k2, .int .i64 k3] 29))
    replace HE := Lib.hid (HE.out.trans e13a)
    replace HBf := Lib.hid (e13a.block HBf.out)
    replace HBm := Lib.hid (e13a.block HBm.out)
    replace HBo := Lib.hid (e13a.block HBo.out)
    replace HBa := Lib.hid (e13a.block HBa.out)
    replace HI5 := Lib.hid (HI5.out.ext e13a)
    replace HI6 := Lib.hid (HI6.out.ext e13a)
    replace HBb := Lib.hid (e13a.block HBb.out)
    replace HBg := Lib.hid (e13a.block HBg.out)
    replace HBt := Lib.hid (e13a.block HBt.out)
    have HBk := Lib.hid (heap_alloc_new w13 (.cells #[.int .i64 k0, .int .i64 k1, .int .i64 k2, .int .i64 k3] 29))
    have HBK := Lib.hid (back_of hk1 hk2)
    have HsX := Lib.hid (fun W => s_MouldText t0 t1 t2 t3 W)
    obtain ⟨tx, htx⟩ : ∃ x, mtS t0 t1 t2 t3 = x := ⟨_, rfl⟩
    rw [htx] at HBK HsX
    rw [htx]
    clear hk1 hk2 htx
    clear e13 e13a
    go_wp2_with fail
    refine (HD6.out _ HE.out).mono ?_
    rintro e w14 ⟨sx, rfl, hsx, e14⟩
    replace HE := Lib.hid (HE.out.trans e14)
    replace HBf := Lib.hid (e14.block HBf.out)
    replace HBm := Lib.hid (e14.block HBm.out)
    replace HBo := Lib.hid (e14.block HBo.out)
    replace HBa := Lib.hid (e14.block HBa.out)
    replace HI5 := Lib.hid (HI5.out.ext e14)
    replace HI6 := Lib.hid (HI6.out.ext e14)
    replace HBb := Lib.hid (e14.block HBb.out)
    replace HBg := Lib.hid (e14.block HBg.out)
    replace HBt := Lib.hid (e14.block HBt.out)
    replace HBk := Lib.hid (e14.block HBk.out)
    have HRI := Lib.hid (HiR.out sx hsx)
    have HRS := Lib.hid (HsR.out sx hsx)
    clear hsx
    clear e14
    go_wp2_with fail
    refine (HRI.out _ HE.out).mono ?_
    rintro e w15 ⟨u0, u1, u2, u3, oku, rfl, hu1, hu2, e15⟩
    have e15a := (e15.alloc (.cells #[.int .i64 u0, .int .i64 u1, .int .i64 u2, .int .i64 u3] 29))
    replace HE := Lib.hid (HE.out.trans e15a)
    replace HBf := Lib.hid (e15a.block HBf.out)
    replace HBm := Lib.hid (e15a.block HBm.out)
    replace HBo := Lib.hid (e15a.block HBo.out)
    replace HBa := Lib.hid (e15a.block HBa.out)
    replace HI5 := Lib.hid (HI5.out.ext e15a)
    replace HI6 := Lib.hid (HI6.out.ext e15a)
    replace HBb := Lib.hid (e15a.block HBb.out)
    replace HBg := Lib.hid (e15a.block HBg.out)
    replace HBt := Lib.hid (e15a.block HBt.out)
    replace HBk := Lib.hid (e15a.block HBk.out)
    have HBu := Lib.hid (heap_alloc_new w15 (.cells #[.int .i64 u0, .int .i64 u1, .int .i64 u2, .int .i64 u3] 29))
    have HU1 := Lib.hid hu1
    have HU2 := Lib.hid hu2
    clear hu1 hu2
    clear e15 e15a
    go_wp2_with fail
    refine (HRS.out _).mono ?_
    rintro e w16 ⟨v0, v1, v2, v3, okv, rfl, hv1, hv2, e16⟩
    obtain ⟨rfl, rfl, rfl, rfl, rfl⟩ := rm_uniq HU1.out HU2.out hv1 hv2
    have e16a := e16.alloc (.cells #[.int .i64 u0, .int .i64 u1, .int .i64 u2, .int .i64 u3] 29)
    replace HE := Lib.hid (HE.out.trans e16a)
    replace HBf := Lib.hid (e16a.block HBf.out)
    replace HBm := Lib.hid (e16a.block HBm.out)
    replace HBo := Lib.hid (e16a.block HBo.out)
    replace HBa := Lib.hid (e16a.block HBa.out)
    replace HI5 := Lib.hid (HI5.out.ext e16a)
    replace HI6 := Lib.hid (HI6.out.ext e16a)
    replace HBb := Lib.hid (e16a.block HBb.out)
    replace HBg := Lib.hid (e16a.block HBg.out)
    replace HBt := Lib.hid (e16a.block HBt.out)
    replace HBk := Lib.hid (e16a.block HBk.out)
    replace HBu := Lib.hid (e16a.block HBu.out)
    have HBv := Lib.hid (heap_alloc_new w16 (.cells #[.int .i64 u0, .int .i64 u1, .int .i64 u2, .int .i64 u3] 29))
    clear e16 e16a hv1 hv2 HU1 HU2 HRI HRS HLO HX HTb HEr HMx HD2 HD3 HD4 HD5 HD6 HiX HiR HsR
    go_upto_region 21 with fail
    obtain ⟨W0, hW0⟩ : ∃ x, w16.alloc (.cells #[.int .i64 u0, .int .i64 u1, .int .i64 u2, .int .i64 u3] 29) = x := ⟨_, rfl⟩
    rw [hW0] at HE HBf HBm HBo HBa HI5 HI6 HBb HBg HBt HBk HBu HBv ⊢
    clear hW0
    have HF6 := Lib.hid (fun W (e : Ext W0 W) => show Calls Tryz.prog 22 #[.slice ao5 fx.length c5, .slice ao6 fx.length c6] W (RetE (.bool true) W) from (by have h := l_f6ints ao5 ao6 fx.length fx.length c5 c6 fx fx W (HI5.out.ext e) (HI6.out.ext e); rwa [beq_self_eq_true] at h))
    have hTT : (tx.toList == tx.toList) = true := by simp
    have hSS : (st.toList == st.toList) = true := by simp
    by_cases hV : mouldB t0 t1 t2 t3 = true
    case neg =>
      obtain ⟨h1, h2⟩ := HBK.out.2 hV
      subst h1
      subst h2
      clear HBK hV hTT
      obtain ⟨p00, p01, p02, p03, p04⟩ := four_cells HBm.out
      obtain ⟨p10, p11, p12, p13, p14⟩ := four_cells HBo.out
      obtain ⟨p20, p21, p22, p23, p24⟩ := four_cells HBt.out
      obtain ⟨p30, p31, p32, p33, p34⟩ := four_cells HBk.out
      obtain ⟨p40, p41, p42, p43, p44⟩ := four_cells HBu.out
      obtain ⟨p50, p51, p52, p53, p54⟩ := four_cells HBv.out
      go_wp2_with fail
      refine (HF6.out _ (Ext.refl _)).mono ?_
      rintro e w17 ⟨rfl, e17⟩
      clear p00 p01 p02 p03 p04 p10 p11 p12 p13 p14 p20 p21 p22 p23 p24 p30 p31 p32 p33 p34 p40 p41 p42 p43 p44 p50 p51 p52 p53 p54
      replace HE := Lib.hid (HE.out.trans e17)
      replace HBf := Lib.hid (e17.block HBf.out)
      replace HBm := Lib.hid (e17.block HBm.out)
      replace HBo := Lib.hid (e17.block HBo.out)
      replace HBa := Lib.hid (e17.block HBa.out)
      replace HI5 := Lib.hid (HI5.out.ext e17)
      replace HI6 := Lib.hid (HI6.out.ext e17)
      replace HBb := Lib.hid (e17.block HBb.out)
      replace HBg := Lib.hid (e17.block HBg.out)
      replace HBt := Lib.hid (e17.block HBt.out)
      replace HBk := Lib.hid (e17.block HBk.out)
      replace HBu := Lib.hid (e17.block HBu.out)
      replace HBv := Lib.hid (e17.block HBv.out)
      clear e17 HF6
      obtain ⟨p00, p01, p02, p03, p04⟩ := four_cells HBm.out
      obtain ⟨p10, p11, p12, p13, p14⟩ := four_cells HBo.out
      obtain ⟨p20, p21, p22, p23, p24⟩ := four_cells HBt.out
      obtain ⟨p30, p31, p32, p33, p34⟩ := four_cells HBk.out
      obtain ⟨p40, p41, p42, p43, p44⟩ := four_cells HBu.out
      obtain ⟨p50, p51, p52, p53, p54⟩ := four_cells HBv.out
      go_wp2_with fail
      refine (HsX.out _).mono ?_
      rintro e w18 ⟨rfl, e18⟩
      clear p00 p01 p02 p03 p04 p10 p11 p12 p13 p14 p20 p21 p22 p23 p24 p30 p31 p32 p33 p34 p40 p41 p42 p43 p44 p50 p51 p52 p53 p54
      replace HE := Lib.hid (HE.out.trans e18)
      replace HBf := Lib.hid (e18.block HBf.out)
      replace HBm := Lib.hid (e18.block HBm.out)
      replace HBo := Lib.hid (e18.block HBo.out)
      replace HBa := Lib.hid (e18.block HBa.out)
      replace HI5 := Lib.hid (HI5.out.ext e18)
      replace HI6 := Lib.hid (HI6.out.ext e18)
      replace HBb := Lib.hid (e18.block HBb.out)
      replace HBg := Lib.hid (e18.block HBg.out)
      replace HBt := Lib.hid (e18.block HBt.out)
      replace HBk := Lib.hid (e18.block HBk.out)
      replace HBu := Lib.hid (e18.block HBu.out)
      replace HBv := Lib.hid (e18.block HBv.out)
      clear e18 HsX
      obtain ⟨p00, p01, p02, p03, p04⟩ := four_cells HBm.out
      obtain ⟨p10, p11, p12, p13, p14⟩ := four_cells HBo.out
      obtain ⟨p20, p21, p22, p23, p24⟩ := four_cells HBt.out
      obtain ⟨p30, p31, p32, p33, p34⟩ := four_cells HBk.out
      obtain ⟨p40, p41, p42, p43, p44⟩ := four_cells HBu.out
      obtain ⟨p50, p51, p52, p53, p54⟩ := four_cells HBv.out
      by_cases hc : mc = 0
      case neg =>
        have hcb : (mc == 0) = false := by simp; omega
        clear HGO
        go_wp2
        go_ret
        exact ⟨rfl, HE.out⟩
      case pos =>
        obtain ⟨⟨⟨hx1, hx2⟩, hx3, hx4, hx5⟩, ⟨hX1, hX2⟩, hsm⟩ := HGO.out hc
        subst hc
        have HFS := Lib.hid (fun W => i_FiredSize X' Y' Z' 0 s W)
        rw [hx1, hx2] at HFS
        unfold fires at HFS
        have HSM := Lib.hid hsm
        generalize fireI X' s = q0 at *
        generalize fireI Y' s = q1 at *
        generalize fireI Z' s = q2 at *
        clear HGO hsm hx1 hx2
        go_wp2_with fail
        refine (HFS.out _).mono ?_
        rintro e w20 ⟨ao20, c20, rfl, o20, e20⟩
        replace HE := Lib.hid (HE.out.trans e20)
        replace HBm := Lib.hid (e20.block HBm.out)
        replace HBf := Lib.hid (e20.block HBf.out)
        obtain ⟨gb, of, rfl, j0, j1, j2⟩ := ints3 o20.ints
        clear p00 p01 p02 p03 p04 p10 p11 p12 p13 p14 p20 p21 p22 p23 p24 p30 p31 p32 p33 p34 p40 p41 p42 p43 p44 p50 p51 p52 p53 p54 o20 e20 HFS
        obtain ⟨p0, p1, p2, p3, p4⟩ := four_cells HBf.out
        have n0 : ¬ q0 < f0 := by omega
        have n1 : ¬ q1 < f1 := by omega
        have n2 : ¬ q2 < f2 := by omega
        obtain ⟨s0, s1, s2, s3, s4⟩ := four_cells HBm.out
        by_cases h30 : X' = 30
        case pos => exact absurd hX1 (by omega)
        case neg =>
          obtain ⟨⟨hy1, hy2⟩, hy3⟩ := HSM.out h30
          have hxb : (X' == 30) = false := by simp; omega
          have HFS := Lib.hid (fun W => i_FiredSize (X' - 1) Y' Z' 0 s W)
          rw [hy1, hy2] at HFS
          unfold fires at HFS
          generalize fireI (X' - 1) s = q3 at *
          generalize fireI Y' s = q4 at *
          generalize fireI Z' s = q5 at *
          clear HSM hy1 hy2
          go_wp2
          go_quiet (fail)
          refine gen_world (fun W => Ext w20 W) ((Ext.refl w20).drewN _) ?_
          intro W1 eW
          clear s0 s1 s2 s3 s4 j0 j1 j2 n0 n1 n2
          obtain ⟨s0, s1, s2, s3, s4⟩ := four_cells (eW.block HBm.out)
          go_wp2_with fail
          refine (HFS.out _).mono ?_
          rintro e w21 ⟨ao21, c21, rfl, o21, e21⟩
          have e22 : Ext w20 w21 := (eW.alloc _).trans e21
          replace HE := Lib.hid (HE.out.trans e22)
          replace HBf := Lib.hid (e22.block HBf.out)
          obtain ⟨gb2, of2, rfl, i0, i1, i2⟩ := ints3 o21.ints
          clear p0 p1 p2 p3 p4 s0 s1 s2 s3 s4 o21 e21 e22 eW HFS
          obtain ⟨p0, p1, p2, p3, p4⟩ := four_cells HBf.out
          go_wp2
          go_quiet (fail)
          go_wp2
          go_ret
          exact ⟨rfl, HE.out.drewN _⟩
    case pos =>
      obtain ⟨⟨h1, h2, h3, h4, h5⟩, h6⟩ := HBK.out.1 hV
      subst h1
      subst h2
      subst h3
      subst h4
      subst h5
      have hTn : ¬ tx.toList = [] := fun e => h6 (str_nilM e)
      have hTe : tx.toList.isEmpty = false := by
        cases hh : tx.toList with
        | nil => exact absurd hh hTn
        | cons a l => rfl
      clear HBK hV h6
      obtain ⟨p00, p01, p02, p03, p04⟩ := four_cells HBm.out
      obtain ⟨p10, p11, p12, p13, p14⟩ := four_cells HBo.out
      obtain ⟨p20, p21, p22, p23, p24⟩ := four_cells HBt.out
      obtain ⟨p30, p31, p32, p33, p34⟩ := four_cells HBk.out
      obtain ⟨p40, p41, p42, p43, p44⟩ := four_cells HBu.out
      obtain ⟨p50, p51, p52, p53, p54⟩ := four_cells HBv.out
      go_wp2_with fail
      refine (HF6.out _ (Ext.refl _)).mono ?_
      rintro e w17 ⟨rfl, e17⟩
      clear p00 p01 p02 p03 p04 p10 p11 p12 p13 p14 p20 p21 p22 p23 p24 p30 p31 p32 p33 p34 p40 p41 p42 p43 p44 p50 p51 p52 p53 p54
      replace HE := Lib.hid (HE.out.trans e17)
      replace HBf := Lib.hid (e17.block HBf.out)
      replace HBm := Lib.hid (e17.block HBm.out)
      replace HBo := Lib.hid (e17.block HBo.out)
      replace HBa := Lib.hid (e17.block HBa.out)
      replace HI5 := Lib.hid (HI5.out.ext e17)
      replace HI6 := Lib.hid (HI6.out.ext e17)
      replace HBb := Lib.hid (e17.block HBb.out)
      replace HBg := Lib.hid (e17.block HBg.out)
      replace HBt := Lib.hid (e17.block HBt.out)
      replace HBk := Lib.hid (e17.block HBk.out)
      replace HBu := Lib.hid (e17.block HBu.out)
      replace HBv := Lib.hid (e17.block HBv.out)
      clear e17 HF6
      obtain ⟨p00, p01, p02, p03, p04⟩ := four_cells HBm.out
      obtain ⟨p10, p11, p12, p13, p14⟩ := four_cells HBo.out
      obtain ⟨p20, p21, p22, p23, p24⟩ := four_cells HBt.out
      obtain ⟨p30, p31, p32, p33, p34⟩ := four_cells HBk.out
      obtain ⟨p40, p41, p42, p43, p44⟩ := four_cells HBu.out
      obtain ⟨p50, p51, p52, p53, p54⟩ := four_cells HBv.out
      go_wp2_with fail
      refine (HsX.out _).mono ?_
      rintro e w18 ⟨rfl, e18⟩
      clear p00 p01 p02 p03 p04 p10 p11 p12 p13 p14 p20 p21 p22 p23 p24 p30 p31 p32 p33 p34 p40 p41 p42 p43 p44 p50 p51 p52 p53 p54
      replace HE := Lib.hid (HE.out.trans e18)
      replace HBf := Lib.hid (e18.block HBf.out)
      replace HBm := Lib.hid (e18.block HBm.out)
      replace HBo := Lib.hid (e18.block HBo.out)
      replace HBa := Lib.hid (e18.block HBa.out)
      replace HI5 := Lib.hid (HI5.out.ext e18)
      replace HI6 := Lib.hid (HI6.out.ext e18)
      replace HBb := Lib.hid (e18.block HBb.out)
      replace HBg := Lib.hid (e18.block HBg.out)
      replace HBt := Lib.hid (e18.block HBt.out)
      replace HBk := Lib.hid (e18.block HBk.out)
      replace HBu := Lib.hid (e18.block HBu.out)
      replace HBv := Lib.hid (e18.block HBv.out)
      clear e18 HsX
      obtain ⟨p00, p01, p02, p03, p04⟩ := four_cells HBm.out
      obtain ⟨p10, p11, p12, p13, p14⟩ := four_cells HBo.out
      obtain ⟨p20, p21, p22, p23, p24⟩ := four_cells HBt.out
      obtain ⟨p30, p31, p32, p33, p34⟩ := four_cells HBk.out
      obtain ⟨p40, p41, p42, p43, p44⟩ := four_cells HBu.out
      obtain ⟨p50, p51, p52, p53, p54⟩ := four_cells HBv.out
      by_cases hc : mc = 0
      case neg =>
        have hcb : (mc == 0) = false := by simp; omega
        clear HGO
        go_wp2
        go_ret
        exact ⟨rfl, HE.out⟩
      case pos =>
        obtain ⟨⟨⟨hx1, hx2⟩, hx3, hx4, hx5⟩, ⟨hX1, hX2⟩, hsm⟩ := HGO.out hc
        subst hc
        have HFS := Lib.hid (fun W => i_FiredSize X' Y' Z' 0 s W)
        rw [hx1, hx2] at HFS
        unfold fires at HFS
        have HSM := Lib.hid hsm
        generalize fireI X' s = q0 at *
        generalize fireI Y' s = q1 at *
        generalize fireI Z' s = q2 at *
        clear HGO hsm hx1 hx2
        go_wp2_with fail
        refine (HFS.out _).mono ?_
        rintro e w20 ⟨ao20, c20, rfl, o20, e20⟩
        replace HE := Lib.hid (HE.out.trans e20)
        replace HBm := Lib.hid (e20.block HBm.out)
        replace HBf := Lib.hid (e20.block HBf.out)
        obtain ⟨gb, of, rfl, j0, j1, j2⟩ := ints3 o20.ints
        clear p00 p01 p02 p03 p04 p10 p11 p12 p13 p14 p20 p21 p22 p23 p24 p30 p31 p32 p33 p34 p40 p41 p42 p43 p44 p50 p51 p52 p53 p54 o20 e20 HFS
        obtain ⟨p0, p1, p2, p3, p4⟩ := four_cells HBf.out
        have n0 : ¬ q0 < f0 := by omega
        have n1 : ¬ q1 < f1 := by omega
        have n2 : ¬ q2 < f2 := by omega
        obtain ⟨s0, s1, s2, s3, s4⟩ := four_cells HBm.out
        by_cases h30 : X' = 30
        case pos => exact absurd hX1 (by omega)
        case neg =>
          obtain ⟨⟨hy1, hy2⟩, hy3⟩ := HSM.out h30
          have hxb : (X' == 30) = false := by simp; omega
          have HFS := Lib.hid (fun W => i_FiredSize (X' - 1) Y' Z' 0 s W)
          rw [hy1, hy2] at HFS
          unfold fires at HFS
          generalize fireI (X' - 1) s = q3 at *
          generalize fireI Y' s = q4 at *
          generalize fireI Z' s = q5 at *
          clear HSM hy1 hy2
          go_wp2
          go_quiet (fail)
          refine gen_world (fun W => Ext w20 W) ((Ext.refl w20).drewN _) ?_
          intro W1 eW
          clear s0 s1 s2 s3 s4 j0 j1 j2 n0 n1 n2
          obtain ⟨s0, s1, s2, s3, s4⟩ := four_cells (eW.block HBm.out)
          go_wp2_with fail
          refine (HFS.out _).mono ?_
          rintro e w21 ⟨ao21, c21, rfl, o21, e21⟩
          have e22 : Ext w20 w21 := (eW.alloc _).trans e21
          replace HE := Lib.hid (HE.out.trans e22)
          replace HBf := Lib.hid (e22.block HBf.out)
          obtain ⟨gb2, of2, rfl, i0, i1, i2⟩ := ints3 o21.ints
          clear p0 p1 p2 p3 p4 s0 s1 s2 s3 s4 o21 e21 e22 eW HFS
          obtain ⟨p0, p1, p2, p3, p4⟩ := four_cells HBf.out
          go_wp2
          go_quiet (fail)
          go_wp2
          go_ret
          exact ⟨rfl, HE.out.drewN _⟩
/-! ### the row's step: written by a program of mine (frame.py) after the guide's own frame -/
namespace fnMoulds
open Go.ChangeShapes Go.WideShapes Go.ChangeAt Go.RowKit Go.Joins
open Go.ChangeMaps (open_string shut_string)
set_option linter.unusedVariables false
theorem own : ownKnob Tryz.prog.godebug = none := by kernel_rfl
theorem laidOut : laidOutB Tryz.prog = true := by kernel_rfl
theorem laid_met (os : Os) (args : Array Value) : laidMet Tryz.prog Rows.fnMouldsRow.laid ((laidWorld os).forCall (fun _ _ => 0) ⟨#[], args, []⟩).memory :=
  (LaidIn.of_run (l := Rows.fnMouldsRow.laid) [4, 5, 1, 7, 3, N0, 2, N0 + 1, 6] 8 (by kernel_rfl) (by kernel_rfl) (by kernel_rfl) (by kernel_rfl)).met
theorem witness_row (os : Os) {H : Type} (enc : TypeId × Value → H) :
    (OpenSpec.ofChange Rows.fnMouldsSpec).preRow enc Tryz.prog Tryz.f3 Rows.fnMouldsRow.domain false Rows.fnMouldsRow.laid ((laidWorld os).forCall (fun _ _ => 0) ⟨#[], #[.slice none 0 0], []⟩).memory #[.slice none 0 0] := by
  have hw : (DataW.whole enc Tryz.prog ((laidWorld os).forCall (fun _ _ => 0) ⟨#[], #[.slice none 0 0], []⟩).memory Tryz.f3.params.toList (OpenSpec.ofChange Rows.fnMouldsSpec).vars false (#[.slice none 0 0] : Array Value).toList 8).map (fun x => (x.1, x.2.1)) =
      some ([.nil], []) := by kernel_rfl
  obtain ⟨⟨x1, x2, x3⟩, hx, hx1⟩ := Option.map_eq_some_iff.1 hw
  simp only [Prod.mk.injEq] at hx1
  obtain ⟨rfl, rfl⟩ := hx1
  exact OpenSpec.preRow_of_cond 8 hx (by kernel_rfl) (fun k hk => by cases hk) (by kernel_rfl) (laid_met os _)
set_option maxRecDepth 100000 in
theorem lifted (os : Os) (started : os.Started) (H : Type) (enc : TypeId × Value → H) (F : Stop.Interp) :
    ReturnsInHanded {} Tryz.checked os 3 .any ((OpenSpec.ofChange Rows.fnMouldsSpec).preRow enc Tryz.prog Tryz.f3 Rows.fnMouldsRow.domain false Rows.fnMouldsRow.laid) (((OpenSpec.ofChange Rows.fnMouldsSpec).at F).post enc Tryz.prog Tryz.f3 false true false false) := by
  refine returnsInHanded_of_row (C := Tryz.checked) (s := OpenSpec.ofChange Rows.fnMouldsSpec) own started (by kernel_rfl) Tryz.func3
    (witness_row_atRef (enc := enc) (C := Tryz.checked) false (laidWorld os) #[.slice none 0 0] rfl (by kernel_rfl) (by kernel_rfl) (by kernel_rfl) (witness_row os enc)) ?_
  intro W base args ds gs before hval0 hW hcnd _ _ hL hsh _
  have hval : ∀ (j : Nat) t v, Tryz.f3.params[j]? = some t → args[j]? = some v → Value.okWide Tryz.prog W .any base t v := hval0
  have hW' := hW
  obtain ⟨p, q, hA0, hV, rfl, hfz, hnd⟩ := hW
  have hA : DataW.TrodAll enc Tryz.prog W 0 (fun _ => true) true Tryz.f3.params.toList args.toList ds p := hA0
  rw [Tryz.params3] at hA hval
  obtain ⟨v0, vs0, d0, ds0, p0, q0, hargs, rfl, rfl, h0, r0⟩ := trodAll_cons hA
  obtain ⟨rfl, rfl, rfl⟩ := trodAll_nil r0
  obtain rfl : args = #[v0] := by cases args; simp_all
  obtain ⟨rfl, rfl⟩ := trodVars_none hV
  have k0 := h0
  have lt0 : ∀ x ∈ p0, x.block < W.heap.size := by obtain ⟨m, hm⟩ := k0; exact DataW.trod_lt m _ _ _ hm
  obtain ⟨b0, l0, c0, rfl⟩ := okWide_slice Tryz.underlying22 (hval 0 22 v0 rfl rfl)
  obtain ⟨z0, w0⟩ := u8x_of_trod Tryz.underlying22 Tryz.underlying5 (by kernel_rfl) h0
  clear hA0 hval0
  have hL0 : laidMet Tryz.prog Rows.fnMouldsRow.laid W := hL
  have hTab : TabP W := tab_laid hL0.tail.tail
  have hErr : ErrP W := err_laid hL0.tail.tail.tail.tail.tail
  have hMax : MaxP W := max_shaped hsh
  refine (walk_FnMoulds b0 l0 c0 z0 W w0 hTab hErr hMax).mono fun e W' ⟨he, bel⟩ => ?_
  subst he
  exact ⟨_, rfl, _, _, _, [], _, [], hW', trodAll_mk1 (shut_bool Tryz.underlying4 _), (trodAll_cons_mk (Below.trod laidOut (by kernel_rfl) (of_decide_eq_true (by kernel_rfl)) k0 bel lt0) trodAll_mk0), rfl, bel.frame _, fun h => by cases h⟩
theorem over : Rows.fnMouldsRow.holds Tryz.pinned (OpenSpec.ofChange Rows.fnMouldsSpec) :=
  OpenClaim.holds_of_cond 3 Tryz.f3 rfl rfl rfl rfl rfl rfl rfl ⟨rfl, rfl, rfl, rfl, rfl⟩ rfl rfl rfl rfl rfl (by kernel_rfl) Tryz.func3 (by kernel_rfl)
    (of_decide_eq_true (by kernel_rfl)) (by unfold Func.isWrapper; first | (rw [if_pos (by decide +kernel)]; kernel_rfl) | (rw [if_neg (by decide +kernel)]; exact ⟨rfl, rfl⟩))
    (fun os started H enc _ F0 => by rw [OpenClaim.pre_eq_preRow]; exact lifted os started H enc F0)
theorem proved : Rows.FnMouldsCardSaid :=
  Claim7.holds_tied_plain_at .later [] [.data, .data, .data, .data, .sentinel, .sentinel, .pinned] true (true, "415fa6c3245bbe5238f0c6fa886f686332a03f69add2916b1cad5f5961dad578") true
    over (fun _ h => by cases h) (by kernel_rfl) (fun _ h => by cases h) fnMoulds_row_tie rfl ⟨rfl, rfl⟩ (by kernel_rfl) rfl
    (fun f fn hf hfn => by
      obtain rfl : f = 3 := Option.some.inj ((show Tryz.prog.funcNamed "loop.example/g01042/laws.FnMoulds" = some 3 by kernel_rfl).symm.trans hf) |>.symm
      obtain rfl : fn = Tryz.f3 := (Option.some.inj (Tryz.func3.symm.trans hfn)).symm
      exact ⟨by kernel_rfl, fun j t ht => by
        rw [Tryz.params3] at ht
        have h3 : t = 22 := by
          rcases j with _ | j
          · have e : t = 22 := by simpa using ht.symm
            simp [e]
          · simp at ht
        subst h3
        exact (show Tryz.prog.wantsStandIn 22 = false by kernel_rfl)⟩)
    (by kernel_rfl)
#print axioms proved
end fnMoulds
end Go.Proofs.YtdedamamjkpcpaaGreatDoor
