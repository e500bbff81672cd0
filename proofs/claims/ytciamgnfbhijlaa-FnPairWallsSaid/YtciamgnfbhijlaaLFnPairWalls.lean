/- For every row of bytes the law FnPairWalls answers true: a wall of the best pair is bonded, a greater lap needs no fewer cuts, and lengths without cuts are those whose pairs have none. No condition. -/
import Derived.Test.YtciamgnfbhijlaaPairW
import Derived.Test.YtciamgnfbhijlaaClashI
import Derived.Test.YtciamgnfbhijlaaOpenU
namespace Go.Proofs.Ytciamgnfbhijlaa
open Go.RowKit
set_option linter.unusedSimpArgs false
set_option linter.unusedVariables false
set_option linter.unnecessarySimpa false

theorem noCut_hasL {L : Nat} (lap : Int) (h : 1 ≤ L) : hasI (L : Int) (noCut lap L) = decide (cutO (pairO (L : Int) lap) = 0) := by
  obtain ⟨k, rfl⟩ : ∃ k, L = k + 1 := ⟨L - 1, by omega⟩
  have := noCut_has lap k
  rw [show ((k + 1 : Nat) : Int) = (k : Int) + 1 by omega]
  exact this
def RetWall (z1 z2 : ByteArray) (w : World) (e : Ending) (w' : World) : Prop :=
  ∃ b off cap, e = .returned (.tuple #[.slice (some ⟨b, off, none⟩) 5 cap, .int .i64 0]) ∧ Strs w' (some ⟨b, off, none⟩) 5 [z1, z2, z1, z2, z1] ∧ Ext w w'
theorem RetWall.of {z1 z2 : ByteArray} {w w' : World} {e : Ending} (h : RetStrsC [z1, z2, z1, z2, z1] 0 w e w') : RetWall z1 z2 w e w' := by
  obtain ⟨ao, cap, rfl, ho, he⟩ := h
  obtain ⟨a, c', hv, hst, _⟩ := ho.shape
  have h5 : ([z1, z2, z1, z2, z1] : List ByteArray).length = 5 := rfl
  rw [h5] at hst hv
  simp only [Value.slice.injEq] at hv
  obtain ⟨rfl, _, rfl⟩ := hv
  obtain ⟨b, off, rfl, _⟩ := hst.2.2.1 0 (by omega)
  exact ⟨b, off, cap, rfl, hst, he⟩
set_option maxRecDepth 100000 in
set_option maxHeartbeats 4000000 in
theorem walk_FnPairWalls (ao : Option Addr) (n c : Nat) (bs : List UInt8) (w : World) (hx : U8x w ao n bs) :
    Calls Try.prog 7 #[.slice ao n c] w fun e w' => e = .returned (.bool true) ∧ Below w.heap.size w w' := by
  have HLO := Lib.hid (fun W => l_a2Long ao none n 0 c 0 W hx.2.1 (by omega))
  have hlong : longB n 0 = false → n ≤ 3000 := fun h => by unfold longB at h; simp at h; omega
  cases hl : longB n 0 with
  | true =>
    rw [hl] at HLO
    clear hx hlong hl
    go_enter Try.func7, Try.ntmps7
    go_wp2_with (go_at_call 17; refine (HLO.out _).mono ?_; rintro e w' ⟨rfl, rfl⟩)
    go_ret
    exact ⟨rfl, Below.refl _ _⟩
  | false =>
    rw [hl] at HLO
    have hn := hlong hl
    have HX := Lib.hid (hx.small (by omega))
    have HAT : Hid (∀ W, Ext w W → Calls Try.prog 19 #[.slice ao n c, .int .i64 0, .int .i64 24] W (RetAt 24 W)) := Lib.hid (fun W e => l_a2At ao n c bs 0 24 W (HX.out.ext e) (by decide) (by decide))
    have HAT2 : Hid (∀ W, Ext w W → Calls Try.prog 19 #[.slice ao n c, .int .i64 1, .int .i64 3] W (RetAt 3 W)) := Lib.hid (fun W e => l_a2At ao n c bs 1 3 W (HX.out.ext e) (by decide) (by decide))
    clear hx hlong hl hn
    go_enter Try.func7, Try.ntmps7
    go_wp2_with (go_at_call 17; refine (HLO.out _).mono ?_; rintro e w' ⟨rfl, rfl⟩)
    refine (HAT.out _ (Ext.refl w)).mono ?_
    rintro e w1 ⟨x, x0, x2, rfl, e1⟩
    have HE1 := Lib.hid e1
    clear e1
    obtain ⟨L, hL⟩ := Int.eq_ofNat_of_zero_le (show 0 ≤ 1 + x by omega)
    have L1 : 1 ≤ L := by omega
    have L2 : L ≤ 24 := by omega
    clear x0 x2
    go_wp2_with fail
    refine (HAT2.out _ HE1.out).mono ?_
    rintro e w3 ⟨y, y0, y2, rfl, e3⟩
    have HE3 := Lib.hid (HE1.out.trans e3)
    clear e3
    obtain ⟨lap, hlap⟩ : ∃ lap, 1 + y = lap := ⟨_, rfl⟩
    have hl1 : 1 ≤ lap := by omega
    have hl2 : lap ≤ 3 := by omega
    clear y0 y2
    have hg : okP (L : Int) lap = true := okP_iff.2 ⟨by omega, by omega, hl1, by omega⟩
    have hg2 : okP (L : Int) (lap + 1) = true := okP_iff.2 ⟨by omega, by omega, by omega, by omega⟩
    have hPC := fun W => i_PairCuts (L : Int) lap W
    have hPM := fun W => i_PairCuts (L : Int) (lap + 1) W
    have hLW := fun W => i_LengthsWithout (L : Int) lap W
    have hls : lensN (L : Int) lap = noCut lap L := by unfold lensN; rw [if_pos hg, Int.toNat_natCast]
    have hris := noCut_rises lap L
    have hhas := noCut_hasL (L := L) lap L1
    rw [hls, hg] at hLW
    obtain ⟨xs, hxs⟩ : ∃ xs, noCut lap L = xs := ⟨_, rfl⟩
    rw [hxs] at hLW hris hhas
    have HLW : Hid (∀ W, Calls Try.prog 13 #[.int .i64 L, .int .i64 lap] W (RetIntsC xs 0 W)) := Lib.hid hLW
    have HRI := Lib.hid hris
    clear hLW hls hris hxs
    rcases pair_is (L := L) (lap := lap) L1 hl1 with ⟨ho, _⟩ | ⟨u, v, ho, upc, vpc, usum, vsum, hfine, _⟩
    · have ho2 : pairO (L : Int) (lap + 1) = none := by
        cases h : pairO (L : Int) (lap + 1) with
        | none => rfl
        | some x =>
          obtain ⟨y, hy, _⟩ := pair_more (L := L) (lap := lap) L1 hl1 x h
          rw [ho] at hy
          cases hy
      have hC : pairC (L : Int) lap = 3 := by unfold pairC; rw [if_pos hg, ho]; rfl
      have hC2 : pairC (L : Int) (lap + 1) = 3 := by unfold pairC; rw [if_pos hg2, ho2]; rfl
      rw [hC] at hPC
      rw [hC2] at hPM
      obtain ⟨zn, hzn⟩ : ∃ z, pairN (L : Int) lap = z := ⟨_, rfl⟩
      obtain ⟨zm, hzm⟩ : ∃ z, pairN (L : Int) (lap + 1) = z := ⟨_, rfl⟩
      rw [hzn] at hPC
      rw [hzm] at hPM
      rw [ho] at hhas
      have HHA : Hid (hasI (L : Int) xs = false) := Lib.hid hhas
      have HPC := Lib.hid hPC
      have HPM := Lib.hid hPM
      clear hPC hPM hC hC2 hzn hzm ho ho2 hg hg2 hhas
      go_wp2_with fail
      refine (HPC.out _).mono ?_
      rintro e w4 ⟨rfl, e4⟩
      have HE4 := Lib.hid (HE3.out.trans e4)
      clear e4
      go_wp2_with fail
      refine (HPM.out _).mono ?_
      rintro e w5 ⟨rfl, e5⟩
      have HE5 := Lib.hid (HE4.out.trans e5)
      clear e5
      go_wp2_with fail
      refine (HLW.out _).mono ?_
      rintro e w6 ⟨al, cl, rfl, ol, e6⟩
      have HE6 := Lib.hid (HE5.out.trans e6)
      have HOL := Lib.hid ol.ints
      clear e6 ol
      obtain ⟨nl, hnl⟩ : ∃ nl, xs.length = nl := ⟨_, rfl⟩
      rw [hnl] at HOL ⊢
      clear hnl
      go_wp2_with fail
      refine (l_a2Rises _ _ _ xs _ _ HOL.out HRI.out).mono ?_
      rintro e w7 ⟨rfl, e7⟩
      have HE7 := Lib.hid (HE6.out.trans e7)
      have HOL7 := Lib.hid (HOL.out.ext e7)
      clear e7
      go_wp2_with fail
      refine (l_a2Has _ _ _ xs _ _ HOL7.out).mono ?_
      rw [HHA.out]
      rintro e w' ⟨rfl, rfl⟩
      go_wp2
      go_ret
      exact ⟨rfl, HE7.out⟩
    · have hC : pairC (L : Int) lap = 0 := by unfold pairC; rw [if_pos hg, ho]; rfl
      have hT : pairT (L : Int) lap = mkS u := by unfold pairT; rw [if_pos hC, ho]; rfl
      have hU : pairU (L : Int) lap = mkS v := by unfold pairU; rw [if_pos hC, ho]; rfl
      have hN : pairN (L : Int) lap = cutN u + cutN v := by unfold pairN; rw [if_pos hC, ho]; rfl
      have hq : ∃ k n2 : Int, pairC (L : Int) (lap + 1) = k ∧ pairN (L : Int) (lap + 1) = n2 ∧ (k = 3 ∨ (k = 0 ∧ cutN u + cutN v ≤ n2)) := by
        refine ⟨_, _, rfl, rfl, ?_⟩
        cases h : pairO (L : Int) (lap + 1) with
        | none => left; unfold pairC; rw [if_pos hg2, h]; rfl
        | some x =>
          right
          have hc : pairC (L : Int) (lap + 1) = 0 := by unfold pairC; rw [if_pos hg2, h]; rfl
          obtain ⟨y, hy, hle⟩ := pair_more (L := L) (lap := lap) L1 hl1 x h
          rw [ho] at hy
          obtain rfl := Option.some.inj hy
          refine ⟨hc, ?_⟩
          unfold pairN
          rw [if_pos hc, h]
          exact hle
      obtain ⟨k, n2, hk, hn2, hkz⟩ := hq
      have hcuts : cutO (some (u, v)) = cutN u + cutN v := rfl
      rw [ho, hcuts] at hhas
      have hw := wall_five upc usum vpc vsum L1 (by omega) lap hl1 (by omega)
      have hf5 := none_five hfine
      have husz := mkS_size u
      have hvsz := mkS_size v
      have hul := valid_len upc usum L1 (by omega)
      have hvl := valid_len vpc vsum L1 (by omega)
      have hcu := cutN_bd u
      have hcv := cutN_bd v
      have hBP := fun W => s_BestPair (L : Int) lap W
      have hWO := fun W => i_WallOf (mkS u) (mkS v) 5 (by omega) (by omega) W
      rw [hw.2.2.1, hw.2.2.2] at hWO
      have hIB := fun W ao c (h : Strs W ao 5 [mkS u, mkS v, mkS u, mkS v, mkS u]) => i_IsBonded ao 5 c [mkS u, mkS v, mkS u, mkS v, mkS u] lap W h hw.2.1
      have hib : ibV [mkS u, mkS v, mkS u, mkS v, mkS u] lap = .tuple #[.bool true, .int .i64 0] := by unfold ibV; rw [if_pos hw.1, hf5]
      rw [hib] at hIB
      rw [hC, hT, hU] at hBP
      rw [hC, hN] at hPC
      rw [hk, hn2] at hPM
      obtain ⟨N, hNN⟩ : ∃ N, cutN u + cutN v = N := ⟨_, rfl⟩
      have N0 : 0 ≤ N := by omega
      rw [hNN] at hPC hhas hkz
      obtain ⟨z1, hz1⟩ : ∃ z, mkS u = z := ⟨_, rfl⟩
      obtain ⟨z2, hz2⟩ : ∃ z, mkS v = z := ⟨_, rfl⟩
      rw [hz1, hz2] at hBP hIB hWO
      have HBP : Hid (∀ W, Calls Try.prog 8 #[.int .i64 L, .int .i64 lap] W (RetTTC z1 z2 0 W)) := Lib.hid hBP
      have HPC : Hid (∀ W, Calls Try.prog 11 #[.int .i64 L, .int .i64 lap] W (PairE N 0 W)) := Lib.hid hPC
      have HPM : Hid (∀ W, Calls Try.prog 11 #[.int .i64 L, .int .i64 (lap + 1)] W (PairE n2 k W)) := Lib.hid hPM
      have HWO : Hid (∀ W, Calls Try.prog 27 #[.string z1, .string z2, .int .i64 5] W (RetWall z1 z2 W)) := Lib.hid (fun W => (hWO W).mono fun _ _ h => RetWall.of h)
      have HIB := Lib.hid hIB
      have HHA := Lib.hid hhas
      clear hBP hPC hPM hWO hIB hib hw hf5 hfine hC hT hU hN hk hn2 hhas hcuts hz1 hz2 husz hvsz hul hvl hcu hcv upc vpc usum vsum ho hg hg2 hNN
      go_wp2_with fail
      refine (HPC.out _).mono ?_
      rintro e w4 ⟨rfl, e4⟩
      have HE4 := Lib.hid (HE3.out.trans e4)
      clear e4
      go_wp2_with fail
      refine (HPM.out _).mono ?_
      rintro e w5 ⟨rfl, e5⟩
      have HE5 := Lib.hid (HE4.out.trans e5)
      clear e5
      go_wp2_with fail
      refine (HLW.out _).mono ?_
      rintro e w6 ⟨al, cl, rfl, ol, e6⟩
      have HE6 := Lib.hid (HE5.out.trans e6)
      have HOL := Lib.hid ol.ints
      clear e6 ol
      obtain ⟨nl, hnl⟩ : ∃ nl, xs.length = nl := ⟨_, rfl⟩
      rw [hnl] at HOL ⊢
      clear hnl
      go_wp2_with fail
      refine (l_a2Rises _ _ _ xs _ _ HOL.out HRI.out).mono ?_
      rintro e w7 ⟨rfl, e7⟩
      have HE7 := Lib.hid (HE6.out.trans e7)
      have HOL7 := Lib.hid (HOL.out.ext e7)
      clear e7
      by_cases hz : N = 0
      · have HB : Hid (hasI (L : Int) xs = true) := Lib.hid (by rw [HHA.out]; simp [hz])
        subst hz
        rcases hkz with rfl | ⟨rfl, hle⟩
        all_goals
          go_wp2_with fail
          refine (l_a2Has _ _ _ xs _ _ HOL7.out).mono ?_
          rw [HB.out]
          rintro e w' ⟨rfl, rfl⟩
          go_wp2_with fail
          refine (HBP.out _).mono ?_
          rintro e w8 ⟨rfl, e8⟩
          have HE8 := Lib.hid (HE7.out.trans e8)
          clear e8
          go_wp2_with fail
          refine (HWO.out _).mono ?_
          rintro e w9 ⟨b, off, cap, rfl, hst, e9⟩
          have HE9 := Lib.hid (HE8.out.trans e9)
          have HST := Lib.hid hst
          clear e9 hst
          go_wp2_with fail
          refine (HIB.out _ _ _ HST.out).mono ?_
          rintro e w10 ⟨rfl, e10⟩
          have HE10 := Lib.hid (HE9.out.trans e10)
          have hc4 : w10.cell? ⟨b, off + 4, none⟩ = some (.string z1) := by
            obtain ⟨b', off', hb, hc⟩ := (HST.out.ext e10).2.2.1 4 (by omega)
            have hbb := Option.some.inj hb
            simp only [Addr.mk.injEq, and_true] at hbb
            obtain ⟨rfl, rfl⟩ := hbb
            exact hc
          clear e10
          go_wp2
          go_ret
          exact ⟨rfl, HE10.out⟩
      · have HB : Hid (hasI (L : Int) xs = false) := Lib.hid (by rw [HHA.out]; simp [hz])
        have t1 : (N == 0) = false := by simp [hz]
        clear hz
        rcases hkz with rfl | ⟨rfl, hle⟩
        all_goals
          go_wp2_with fail
          refine (l_a2Has _ _ _ xs _ _ HOL7.out).mono ?_
          rw [HB.out]
          rintro e w' ⟨rfl, rfl⟩
          go_wp2_with fail
          refine (HBP.out _).mono ?_
          rintro e w8 ⟨rfl, e8⟩
          have HE8 := Lib.hid (HE7.out.trans e8)
          clear e8
          go_wp2_with fail
          refine (HWO.out _).mono ?_
          rintro e w9 ⟨b, off, cap, rfl, hst, e9⟩
          have HE9 := Lib.hid (HE8.out.trans e9)
          have HST := Lib.hid hst
          clear e9 hst
          go_wp2_with fail
          refine (HIB.out _ _ _ HST.out).mono ?_
          rintro e w10 ⟨rfl, e10⟩
          have HE10 := Lib.hid (HE9.out.trans e10)
          have hc4 : w10.cell? ⟨b, off + 4, none⟩ = some (.string z1) := by
            obtain ⟨b', off', hb, hc⟩ := (HST.out.ext e10).2.2.1 4 (by omega)
            have hbb := Option.some.inj hb
            simp only [Addr.mk.injEq, and_true] at hbb
            obtain ⟨rfl, rfl⟩ := hbb
            exact hc
          clear e10
          go_wp2
          go_ret
          exact ⟨rfl, HE10.out⟩

/-! ### the row's step: written by a program of mine (frame.py) after the guide's own frame -/
namespace fnPairWalls
open Go.ChangeShapes Go.WideShapes Go.ChangeAt Go.RowKit Go.Joins
open Go.ChangeMaps (open_string shut_string)
set_option linter.unusedVariables false
theorem own : ownKnob Try.prog.godebug = none := by kernel_rfl
theorem laidOut : laidOutB Try.prog = true := by kernel_rfl
set_option maxRecDepth 100000 in
theorem lifted (os : Os) (started : os.Started) (H : Type) (enc : TypeId × Value → H) :
    ReturnsInHanded {} Try.checked os 7 .any (Rows.fnPairWallsSpec.pre6 enc Try.prog Try.f7 Rows.fnPairWallsRow.domain false) (Rows.fnPairWallsSpec.post enc Try.prog Try.f7 false true false false) := by
  refine returnsInHanded_of_change (C := Try.checked) own started (by kernel_rfl) Try.func7
    (ChangeSpec.witness6 (enc := enc) (C := Try.checked) false ⟨#[], #[.slice none 0 0], []⟩ 8 (by kernel_rfl) (by kernel_rfl) (by kernel_rfl) (by kernel_rfl)) ?_
  intro W base args ds gs before hval0 hW hcnd _
  have hval : ∀ (j : Nat) t v, Try.f7.params[j]? = some t → args[j]? = some v → Value.okWide Try.prog W .any base t v := hval0
  have hW' := hW
  obtain ⟨p, q, hA0, hV, rfl, hfz, hnd⟩ := hW
  have hA : DataW.TrodAll enc Try.prog W 0 (fun _ => true) true Try.f7.params.toList args.toList ds p := hA0
  rw [Try.params7] at hA hval
  obtain ⟨v0, vs0, d0, ds0, p0, q0, hargs, rfl, rfl, h0, r0⟩ := trodAll_cons hA
  obtain ⟨rfl, rfl, rfl⟩ := trodAll_nil r0
  obtain rfl : args = #[v0] := by cases args; simp_all
  obtain ⟨rfl, rfl⟩ := trodVars_none hV
  have k0 := h0
  have lt0 : ∀ x ∈ p0, x.block < W.heap.size := by obtain ⟨m, hm⟩ := k0; exact DataW.trod_lt m _ _ _ hm
  obtain ⟨b0, l0, c0, rfl⟩ := okWide_slice Try.underlying32 (hval 0 32 v0 rfl rfl)
  obtain ⟨z0, w0⟩ := u8x_of_trod Try.underlying32 Try.underlying5 (by kernel_rfl) h0
  clear hA0 hval0
  refine (walk_FnPairWalls b0 l0 c0 z0 W w0).mono fun e W' ⟨he, bel⟩ => ?_
  subst he
  exact ⟨_, rfl, _, _, _, [], _, [], hW', trodAll_mk1 (shut_bool Try.underlying4 _), (trodAll_cons_mk (Below.trod laidOut (by kernel_rfl) (of_decide_eq_true (by kernel_rfl)) k0 bel lt0) trodAll_mk0), rfl, bel.frame _, fun h => by cases h⟩
theorem over : Rows.fnPairWallsRow.holds Try.pinned (OpenSpec.ofChange Rows.fnPairWallsSpec) :=
  OpenClaim.holds_of_wide 7 Try.f7 rfl rfl rfl rfl rfl rfl rfl ⟨rfl, rfl, rfl, rfl, rfl⟩ rfl rfl rfl rfl rfl (by kernel_rfl) Try.func7 (by kernel_rfl)
    (of_decide_eq_true (by kernel_rfl)) (by unfold Func.isWrapper; first | (rw [if_pos (by decide +kernel)]; kernel_rfl) | (rw [if_neg (by decide +kernel)]; exact ⟨rfl, rfl⟩))
    (fun os started H enc _ => lifted os started H enc)
theorem proved : Rows.FnPairWallsSaid := over
#print axioms proved
end fnPairWalls
end Go.Proofs.Ytciamgnfbhijlaa
