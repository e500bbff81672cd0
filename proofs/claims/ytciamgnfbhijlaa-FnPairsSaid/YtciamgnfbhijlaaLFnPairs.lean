/- For every two rows of bytes the law FnPairs answers true: no pair of courses without a clash has fewer cuts than the best one, which has at least those of two best courses. No condition. -/
import Derived.Test.YtciamgnfbhijlaaPairL
import Derived.Test.YtciamgnfbhijlaaPairI4
import Derived.Test.YtciamgnfbhijlaaA2
import Derived.Test.YtciamgnfbhijlaaOpenU
namespace Go.Proofs.Ytciamgnfbhijlaa
open Go.RowKit
set_option linter.unusedSimpArgs false
set_option linter.unusedVariables false
set_option linter.unnecessarySimpa false

theorem strs_two {W : World} {g : Nat} {x y : ByteArray} {T : TypeId} {mm : Nat × Nat} (h : W.heap[g]? = some (.cells #[.string x, .string y] T mm)) (hx : x.size ≤ 9223372036854775807) (hy : y.size ≤ 9223372036854775807) : Strs W (some ⟨g, 0, none⟩) 2 [x, y] := by
  refine ⟨rfl, by omega, fun i hi => ⟨g, 0, rfl, ?_⟩, fun s hs => ?_⟩
  · have h2 : i = 0 ∨ i = 1 := by omega
    rcases h2 with rfl | rfl <;> simp [World.cell?, h]
  · simp only [List.mem_cons, List.not_mem_nil, or_false] at hs
    rcases hs with rfl | rfl
    · exact hx
    · exact hy
set_option maxRecDepth 100000 in
set_option maxHeartbeats 4000000 in
theorem walk_FnPairs (ao : Option Addr) (n c : Nat) (bs : List UInt8) (bo : Option Addr) (m d : Nat) (cs : List UInt8) (w : World) (hx : U8x w ao n bs) (hy : U8x w bo m cs) :
    Calls Try.prog 6 #[.slice ao n c, .slice bo m d] w fun e w' => e = .returned (.bool true) ∧ Below w.heap.size w w' := by
  have HLO := Lib.hid (fun W => l_a2Long ao bo n m c d W hx.2.1 hy.2.1)
  have hlong : longB n m = false → n ≤ 3000 ∧ m ≤ 3000 := fun h => by unfold longB at h; simp at h; omega
  cases hl : longB n m with
  | true =>
    rw [hl] at HLO
    clear hx hy hlong hl
    go_enter Try.func6, Try.ntmps6
    go_wp2_with (go_at_call 17; refine (HLO.out _).mono ?_; rintro e w' ⟨rfl, rfl⟩)
    go_ret
    exact ⟨rfl, Below.refl _ _⟩
  | false =>
    rw [hl] at HLO
    have ⟨hn, hm⟩ := hlong hl
    have HX := Lib.hid (hx.small (by omega))
    have HY := Lib.hid (hy.small (by omega))
    have HAT : Hid (∀ W, Ext w W → Calls Try.prog 19 #[.slice bo m d, .int .i64 4, .int .i64 3] W (RetAt 3 W)) := Lib.hid (fun W e => l_a2At bo m d cs 4 3 W (HY.out.ext e) (by decide) (by decide))
    clear hx hy hlong hl hn hm
    go_enter Try.func6, Try.ntmps6
    go_wp2_with (go_at_call 17; refine (HLO.out _).mono ?_; rintro e w' ⟨rfl, rfl⟩)
    refine (s_A2Length bo m d cs w HY.out).mono ?_
    rintro e w1 ⟨L, L1, L2, rfl, e1⟩
    have HE1 := Lib.hid e1
    clear e1
    go_wp2_with fail
    refine (HAT.out _ HE1.out).mono ?_
    rintro e w3 ⟨x, x0, x2, rfl, e3⟩
    have HE3 := Lib.hid (HE1.out.trans e3)
    clear e3
    obtain ⟨lap, hlap⟩ : ∃ lap, 1 + x = lap := ⟨_, rfl⟩
    have hl1 : 1 ≤ lap := by omega
    have hl2 : lap ≤ 4 := by omega
    have hg : okP (L : Int) lap = true := okP_iff.2 ⟨by omega, by omega, hl1, hl2⟩
    have hBP := fun W => i_BestPair (L : Int) lap W
    have hPC := fun W => i_PairCuts (L : Int) lap W
    rcases pair_is (L := L) (lap := lap) L1 hl1 with ⟨ho, hno⟩ | ⟨u, v, ho, upc, vpc, usum, vsum, hfine, hmin⟩
    · have hC : pairC (L : Int) lap = 3 := by unfold pairC; rw [if_pos hg, ho]; rfl
      rw [hC] at hBP hPC
      obtain ⟨z1, hz1⟩ : ∃ z, pairT (L : Int) lap = z := ⟨_, rfl⟩
      obtain ⟨z2, hz2⟩ : ∃ z, pairU (L : Int) lap = z := ⟨_, rfl⟩
      obtain ⟨zn, hzn⟩ : ∃ z, pairN (L : Int) lap = z := ⟨_, rfl⟩
      rw [hz1, hz2] at hBP
      rw [hzn] at hPC
      have HBP := Lib.hid hBP
      have HPC := Lib.hid hPC
      have HAB : Hid (∀ lb : List UInt8, lb.all isPc = true → qSum lb = L → askC (mkS lb) lap = 3) := Lib.hid (fun lb p q => by
        rcases above_is p q L1 L2 lap hl1 hl2 with ⟨hk, _⟩ | ⟨_, t, _, tpc, tsum, _, tfine, _⟩
        · exact hk
        · have := hno lb t p tpc q tsum
          rw [tfine] at this
          cases this)
      clear hBP hPC hC hz1 hz2 hzn ho hno hg
      go_wp2_with fail
      refine (HBP.out _).mono ?_
      rintro e w4 ⟨rfl, e4⟩
      have HE4 := Lib.hid (HE3.out.trans e4)
      clear e4
      go_wp2_with fail
      refine (HPC.out _).mono ?_
      rintro e w5 ⟨rfl, e5⟩
      have HE5 := Lib.hid (HE4.out.trans e5)
      clear e5
      go_wp2_with fail
      refine (s_A2Course ao n c bs L _ (HX.out.ext HE5.out) L1 L2).mono ?_
      rintro e w6 ⟨lb, rfl, bpc, bsum, e6⟩
      have HE6 := Lib.hid (HE5.out.trans e6)
      have hbl := valid_len bpc bsum L1 L2
      have hbsz := mkS_size lb
      have hCA := fun W => s_CutsAbove (mkS lb) lap (by omega) W
      rw [HAB.out lb bpc bsum] at hCA
      have hCO := fun W => s_CutsIn (mkS lb) (by omega) W
      rw [bts_mkS, hbl.1] at hCO
      obtain ⟨b, hb⟩ : ∃ b, mkS lb = b := ⟨_, rfl⟩
      rw [hb] at hCA hCO hbsz
      rw [hb]
      obtain ⟨zc, hzc⟩ : ∃ zc, (askO b lap).c = zc := ⟨_, rfl⟩
      obtain ⟨cv, hcv⟩ : ∃ cv, cutN lb = cv := ⟨_, rfl⟩
      rw [hzc] at hCA
      rw [hcv] at hCO
      have HCA : Hid (∀ W, Calls Try.prog 21 #[.string b, .int .i64 lap] W (PairE zc 3 W)) := Lib.hid hCA
      have HCO : Hid (∀ W, Calls Try.prog 22 #[.string b] W (Pair cv 0 W)) := Lib.hid hCO
      clear hCA hCO hb hzc hcv bpc bsum hbl hbsz e6
      go_wp2_with fail
      refine (HCA.out _).mono ?_
      rintro e w7 ⟨rfl, e7⟩
      have HE7 := Lib.hid (HE6.out.trans e7)
      clear e7
      go_wp2_with (go_at_call 22; refine (HCO.out _).mono ?_; rintro e w' ⟨rfl, rfl⟩)
      go_ret
      exact ⟨rfl, HE7.out⟩
    · have hC : pairC (L : Int) lap = 0 := by unfold pairC; rw [if_pos hg, ho]; rfl
      have hT : pairT (L : Int) lap = mkS u := by unfold pairT; rw [if_pos hC, ho]; rfl
      have hU : pairU (L : Int) lap = mkS v := by unfold pairU; rw [if_pos hC, ho]; rfl
      have hN : pairN (L : Int) lap = cutN u + cutN v := by unfold pairN; rw [if_pos hC, ho]; rfl
      have hw := wall_two upc usum vpc vsum L1 L2 lap hl1 hl2
      have hul := valid_len upc usum L1 L2
      have hvl := valid_len vpc vsum L1 L2
      have husz := mkS_size u
      have hvsz := mkS_size v
      have hcu := cutN_bd u
      have hcv := cutN_bd v
      have hCU := fun W => s_CutsIn (mkS u) (by omega) W
      have hCV := fun W => s_CutsIn (mkS v) (by omega) W
      rw [bts_mkS, hul.1] at hCU
      rw [bts_mkS, hvl.1] at hCV
      have hfew : (((L % 2 : Nat) : Int)) * 2 ≤ cutN u + cutN v := by
        have a1 := cutN_odd u upc
        have a2 := cutN_odd v vpc
        rw [usum] at a1
        rw [vsum] at a2
        omega
      have hFC := fun W => s_FewestCuts (L : Int) W
      obtain ⟨_, _, _, _, _, _, hbc, _⟩ := best_is L L1 L2
      rw [hbc, show inB (L : Int) 1 80 = true by simp [inB]; omega] at hFC
      obtain ⟨f, hf⟩ : ∃ f : Int, ((L % 2 : Nat) : Int) = f := ⟨_, rfl⟩
      have f0 : 0 ≤ f := by omega
      have f1 : f ≤ 1 := by omega
      have hIB := fun W g (h : Strs W (some ⟨g, 0, none⟩) 2 [mkS u, mkS v]) => s_IsBonded (some ⟨g, 0, none⟩) 2 2 [mkS u, mkS v] lap W h hw.2
      have hib : ibV [mkS u, mkS v] lap = .tuple #[.bool true, .int .i64 0] := by unfold ibV; rw [if_pos hw.1, hfine]
      rw [hib] at hIB
      rw [hC, hT, hU] at hBP
      rw [hC, hN] at hPC
      rw [hf] at hFC hfew
      obtain ⟨z1, hz1⟩ : ∃ z, mkS u = z := ⟨_, rfl⟩
      obtain ⟨z2, hz2⟩ : ∃ z, mkS v = z := ⟨_, rfl⟩
      obtain ⟨cu, hcu'⟩ : ∃ z, cutN u = z := ⟨_, rfl⟩
      obtain ⟨cv, hcv'⟩ : ∃ z, cutN v = z := ⟨_, rfl⟩
      rw [hz1, hz2] at hBP hIB
      rw [hz1] at hCU husz
      rw [hz2] at hCV hvsz
      rw [hcu'] at hPC hCU hfew hcu
      rw [hcv'] at hPC hCV hfew hcv
      rw [hcu', hcv'] at hmin
      have u0 : 0 ≤ cu := hcu.1
      have u1 : cu ≤ 40 := by omega
      have v0 : 0 ≤ cv := hcv.1
      have v1 : cv ≤ 40 := by omega
      have hz163 : z1.size ≤ 9223372036854775807 := by omega
      have hz263 : z2.size ≤ 9223372036854775807 := by omega
      have hfw : 2 * f ≤ cu + cv := by omega
      have HBP : Hid (∀ W, Calls Try.prog 9 #[.int .i64 L, .int .i64 lap] W (RetTTC z1 z2 0 W)) := Lib.hid hBP
      have HPC : Hid (∀ W, Calls Try.prog 11 #[.int .i64 L, .int .i64 lap] W (PairE (cu + cv) 0 W)) := Lib.hid hPC
      have HCU : Hid (∀ W, Calls Try.prog 22 #[.string z1] W (Pair cu 0 W)) := Lib.hid hCU
      have HCV : Hid (∀ W, Calls Try.prog 22 #[.string z2] W (Pair cv 0 W)) := Lib.hid hCV
      have HFC : Hid (∀ W, Calls Try.prog 24 #[.int .i64 L] W (PairE f 0 W)) := Lib.hid hFC
      have HIB := Lib.hid hIB
      have HMIN := Lib.hid hmin
      clear hBP hPC hCU hCV hFC hIB hmin hib hw hfine hC hT hU hN hz1 hz2 hcu' hcv' hcu hcv hul hvl husz hvsz upc vpc usum vsum ho hg hfew hbc hf
      go_wp2_with fail
      refine (HBP.out _).mono ?_
      rintro e w4 ⟨rfl, e4⟩
      have HE4 := Lib.hid (HE3.out.trans e4)
      clear e4
      go_wp2_with fail
      refine (HPC.out _).mono ?_
      rintro e w5 ⟨rfl, e5⟩
      have HE5 := Lib.hid (HE4.out.trans e5)
      clear e5
      go_wp2_with fail
      refine (s_A2Course ao n c bs L _ (HX.out.ext HE5.out) L1 L2).mono ?_
      rintro e w6 ⟨lb, rfl, bpc, bsum, e6⟩
      have HE6 := Lib.hid (HE5.out.trans e6)
      have hbl := valid_len bpc bsum L1 L2
      have hbsz := mkS_size lb
      have hcb := cutN_bd lb
      have hCA := fun W => s_CutsAbove (mkS lb) lap (by omega) W
      have hCO := fun W => s_CutsIn (mkS lb) (by omega) W
      rw [bts_mkS, hbl.1] at hCO
      have hq : ∃ k zc : Int, askC (mkS lb) lap = k ∧ (askO (mkS lb) lap).c = zc ∧ (k = 3 ∨ (k = 0 ∧ 0 ≤ zc ∧ zc ≤ 40 ∧ cu + cv ≤ cutN lb + zc)) := by
        refine ⟨_, _, rfl, rfl, ?_⟩
        rcases above_is bpc bsum L1 L2 lap hl1 hl2 with ⟨hk, _⟩ | ⟨hk, t, _, tpc, tsum, tc, tfine, _⟩
        · exact .inl hk
        · right
          have h1 := cutN_bd t
          have h2 := (valid_len tpc tsum L1 L2).2
          have h3 := HMIN.out lb t bpc tpc bsum tsum tfine
          rw [tc]
          exact ⟨hk, by omega, by omega, h3⟩
      obtain ⟨k, zc, hk, hzc, hkz⟩ := hq
      rw [hk, hzc] at hCA
      obtain ⟨b, hb⟩ : ∃ b, mkS lb = b := ⟨_, rfl⟩
      rw [hb] at hCA hCO hbsz
      rw [hb]
      obtain ⟨cb, hcb'⟩ : ∃ cb, cutN lb = cb := ⟨_, rfl⟩
      rw [hcb'] at hCO hkz hcb
      have b0 : 0 ≤ cb := hcb.1
      have b1 : cb ≤ 40 := by omega
      have HCA : Hid (∀ W, Calls Try.prog 21 #[.string b, .int .i64 lap] W (PairE zc k W)) := Lib.hid hCA
      have HCO : Hid (∀ W, Calls Try.prog 22 #[.string b] W (Pair cb 0 W)) := Lib.hid hCO
      clear hCA hCO hb hzc hk hcb hcb' bpc bsum hbl hbsz e6
      go_wp2_with fail
      refine (HCA.out _).mono ?_
      rintro e w7 ⟨rfl, e7⟩
      have HE7 := Lib.hid (HE6.out.trans e7)
      clear e7
      have HST := Lib.hid (strs_two (heap_alloc_new w7 (.cells #[.string z1, .string z2] 9)) hz163 hz263)
      have HE8 := Lib.hid (HE7.out.alloc (.cells #[.string z1, .string z2] 9))
      go_wp2_with (go_at_call 22; refine (HCO.out _).mono ?_; rintro e w' ⟨rfl, rfl⟩)
      refine (HIB.out _ _ HST.out).mono ?_
      rintro e w9 ⟨rfl, e9⟩
      have HE9 := Lib.hid (HE8.out.trans e9)
      clear e9
      go_wp2_with (first | (go_at_call_of 22 (Value.string z1); refine (HCU.out _).mono ?_; rintro e w' ⟨rfl, rfl⟩))
      refine (HCV.out _).mono ?_
      rintro e w' ⟨rfl, rfl⟩
      go_wp2_with fail
      refine (HFC.out _).mono ?_
      rintro e w10 ⟨rfl, e10⟩
      have HE10 := Lib.hid (HE9.out.trans e10)
      clear e10
      rcases hkz with rfl | ⟨rfl, zc0, zc1, hle⟩
      · go_wp2
        go_ret
        exact ⟨rfl, HE10.out⟩
      · go_wp2
        go_ret
        exact ⟨rfl, HE10.out⟩

/-! ### the row's step: written by a program of mine (frame.py) after the guide's own frame -/
namespace fnPairs
open Go.ChangeShapes Go.WideShapes Go.ChangeAt Go.RowKit Go.Joins
open Go.ChangeMaps (open_string shut_string)
set_option linter.unusedVariables false
theorem own : ownKnob Try.prog.godebug = none := by kernel_rfl
theorem laidOut : laidOutB Try.prog = true := by kernel_rfl
set_option maxRecDepth 100000 in
theorem lifted (os : Os) (started : os.Started) (H : Type) (enc : TypeId × Value → H) :
    ReturnsInHanded {} Try.checked os 6 .any (Rows.fnPairsSpec.pre6 enc Try.prog Try.f6 Rows.fnPairsRow.domain false) (Rows.fnPairsSpec.post enc Try.prog Try.f6 false true false false) := by
  refine returnsInHanded_of_change (C := Try.checked) own started (by kernel_rfl) Try.func6
    (ChangeSpec.witness6 (enc := enc) (C := Try.checked) false ⟨#[], #[.slice none 0 0, .slice none 0 0], []⟩ 8 (by kernel_rfl) (by kernel_rfl) (by kernel_rfl) (by kernel_rfl)) ?_
  intro W base args ds gs before hval0 hW hcnd _
  have hval : ∀ (j : Nat) t v, Try.f6.params[j]? = some t → args[j]? = some v → Value.okWide Try.prog W .any base t v := hval0
  have hW' := hW
  obtain ⟨p, q, hA0, hV, rfl, hfz, hnd⟩ := hW
  have hA : DataW.TrodAll enc Try.prog W 0 (fun _ => true) true Try.f6.params.toList args.toList ds p := hA0
  rw [Try.params6] at hA hval
  obtain ⟨v0, vs0, d0, ds0, p0, q0, hargs, rfl, rfl, h0, r0⟩ := trodAll_cons hA
  obtain ⟨v1, vs1, d1, ds1, p1, q1, rfl, rfl, rfl, h1, r1⟩ := trodAll_cons r0
  obtain ⟨rfl, rfl, rfl⟩ := trodAll_nil r1
  obtain rfl : args = #[v0, v1] := by cases args; simp_all
  obtain ⟨rfl, rfl⟩ := trodVars_none hV
  have k0 := h0
  have lt0 : ∀ x ∈ p0, x.block < W.heap.size := by obtain ⟨m, hm⟩ := k0; exact DataW.trod_lt m _ _ _ hm
  have k1 := h1
  have lt1 : ∀ x ∈ p1, x.block < W.heap.size := by obtain ⟨m, hm⟩ := k1; exact DataW.trod_lt m _ _ _ hm
  obtain ⟨b0, l0, c0, rfl⟩ := okWide_slice Try.underlying32 (hval 0 32 v0 rfl rfl)
  obtain ⟨z0, w0⟩ := u8x_of_trod Try.underlying32 Try.underlying5 (by kernel_rfl) h0
  obtain ⟨b1, l1, c1, rfl⟩ := okWide_slice Try.underlying32 (hval 1 32 v1 rfl rfl)
  obtain ⟨z1, w1⟩ := u8x_of_trod Try.underlying32 Try.underlying5 (by kernel_rfl) h1
  clear hA0 hval0
  refine (walk_FnPairs b0 l0 c0 z0 b1 l1 c1 z1 W w0 w1).mono fun e W' ⟨he, bel⟩ => ?_
  subst he
  exact ⟨_, rfl, _, _, _, [], _, [], hW', trodAll_mk1 (shut_bool Try.underlying4 _), (trodAll_cons_mk (Below.trod laidOut (by kernel_rfl) (of_decide_eq_true (by kernel_rfl)) k0 bel lt0) (trodAll_cons_mk (Below.trod laidOut (by kernel_rfl) (of_decide_eq_true (by kernel_rfl)) k1 bel lt1) trodAll_mk0)), rfl, bel.frame _, fun h => by cases h⟩
theorem over : Rows.fnPairsRow.holds Try.pinned (OpenSpec.ofChange Rows.fnPairsSpec) :=
  OpenClaim.holds_of_wide 6 Try.f6 rfl rfl rfl rfl rfl rfl rfl ⟨rfl, rfl, rfl, rfl, rfl⟩ rfl rfl rfl rfl rfl (by kernel_rfl) Try.func6 (by kernel_rfl)
    (of_decide_eq_true (by kernel_rfl)) (by unfold Func.isWrapper; first | (rw [if_pos (by decide +kernel)]; kernel_rfl) | (rw [if_neg (by decide +kernel)]; exact ⟨rfl, rfl⟩))
    (fun os started H enc _ => lifted os started H enc)
theorem proved : Rows.FnPairsSaid := over
#print axioms proved
end fnPairs
end Go.Proofs.Ytciamgnfbhijlaa
