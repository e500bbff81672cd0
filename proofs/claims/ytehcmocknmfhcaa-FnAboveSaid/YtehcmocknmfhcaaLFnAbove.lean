/- For every two rows of bytes the law FnAbove answers true: the best course above another one has no clash with it, and no drawn one without a clash has fewer cuts. No condition. -/
import Derived.Test.YtehcmocknmfhcaaAboveLaw
import Derived.Test.YtehcmocknmfhcaaA2
import Derived.Test.YtehcmocknmfhcaaOpenU
namespace Go.Proofs.Ytehcmocknmfhcaa
open Go.RowKit
set_option linter.unusedSimpArgs false
set_option linter.unusedVariables false
set_option linter.unnecessarySimpa false

theorem strs_two {W : World} {g : Nat} {x y : ByteArray} {T : TypeId} {mm : Nat × Nat} (h : W.heap[g]? = some (.cells #[.string x, .string y] T mm)) (hx : x.size ≤ 9223372036854775807) (hy : y.size ≤ 9223372036854775807) : Strs W (some ⟨g, 0, none⟩) 2 [x, y] := by
  refine ⟨rfl, by omega, fun i hi => ⟨g, 0, rfl, ?_⟩, fun s hs => ?_⟩
  · have h2 : i = 0 ∨ i = 1 := by omega
    rcases h2 with rfl | rfl <;> simp [World.cell?, h]
  · simp only [List.mem_cons, List.not_mem_nil, or_false] at hs
    rcases hs with rfl | rfl
    · exact hx
    · exact hy
set_option maxRecDepth 100000 in
set_option maxHeartbeats 4000000 in
theorem walk_FnAbove (ao : Option Addr) (n c : Nat) (bs : List UInt8) (bo : Option Addr) (m d : Nat) (cs : List UInt8) (w : World) (hx : U8x w ao n bs) (hy : U8x w bo m cs) :
    Calls Try.prog 8 #[.slice ao n c, .slice bo m d] w fun e w' => e = .returned (.bool true) ∧ Below w.heap.size w w' := by
  have HLO := Lib.hid (fun W => l_a2Long ao bo n m c d W hx.2.1 hy.2.1)
  have hlong : longB n m = false → n ≤ 3000 ∧ m ≤ 3000 := fun h => by unfold longB at h; simp at h; omega
  cases hl : longB n m with
  | true =>
    rw [hl] at HLO
    clear hx hy hlong hl
    go_enter Try.func8, Try.ntmps8
    go_wp2_with (go_at_call 20; refine (HLO.out _).mono ?_; rintro e w' ⟨rfl, rfl⟩)
    go_ret
    exact ⟨rfl, Below.refl _ _⟩
  | false =>
    rw [hl] at HLO
    have ⟨hn, hm⟩ := hlong hl
    have HX := Lib.hid (hx.small (by omega))
    have HY := Lib.hid (hy.small (by omega))
    have HAT : Hid (∀ W, Ext w W → Calls Try.prog 23 #[.slice bo m d, .int .i64 4, .int .i64 2] W (RetAt 2 W)) := Lib.hid (fun W e => l_a2At bo m d cs 4 2 W (HY.out.ext e) (by decide) (by decide))
    clear hx hy hlong hl hn hm
    go_enter Try.func8, Try.ntmps8
    go_wp2_with (go_at_call 20; refine (HLO.out _).mono ?_; rintro e w' ⟨rfl, rfl⟩)
    refine (s_A2Length bo m d cs w HY.out).mono ?_
    rintro e w1 ⟨L, L1, L2, rfl, e1⟩
    have HE1 := Lib.hid e1
    clear e1
    go_wp2_with fail
    refine (s_A2Course ao n c bs L _ (HX.out.ext HE1.out) L1 L2).mono ?_
    rintro e w2 ⟨lb, rfl, bpc, bsum, e2⟩
    have HE2 := Lib.hid (HE1.out.trans e2)
    clear e2
    go_wp2_with fail
    refine (HAT.out _ HE2.out).mono ?_
    rintro e w3 ⟨x, x0, x2, rfl, e3⟩
    have HE3 := Lib.hid (HE2.out.trans e3)
    clear e3
    obtain ⟨lap, hlap⟩ : ∃ lap, 1 + x = lap := ⟨_, rfl⟩
    have hl1 : 1 ≤ lap := by omega
    have hl2 : lap ≤ 4 := by omega
    have hcase := above_is bpc bsum L1 L2 lap hl1 hl2
    have hwall := fun lo (p : lo.all isPc = true) (q : qSum lo = (L : Int)) => wall_two bpc bsum p q L1 L2 lap hl1 hl2
    have hbl := (valid_len bpc bsum L1 L2).2
    have hbsz := mkS_size lb
    have hBA := fun W => i_BestAbove (mkS lb) lap (by omega) W
    have hCA := fun W => i_CutsAbove (mkS lb) lap (by omega) W
    obtain ⟨b, hb⟩ : ∃ b, mkS lb = b := ⟨_, rfl⟩
    rw [hb] at hcase hwall hbsz hBA hCA
    rw [hb]
    have hb63 : b.size ≤ 9223372036854775807 := by omega
    rcases hcase with ⟨hk, hno⟩ | ⟨hk, t, ht, tpc, tsum, tcut, tfine, tmin⟩
    · obtain ⟨z, hz⟩ : ∃ z, mkS (askO b lap).t = z := ⟨_, rfl⟩
      obtain ⟨zc, hzc⟩ : ∃ zc, (askO b lap).c = zc := ⟨_, rfl⟩
      rw [hk, hz] at hBA
      rw [hk, hzc] at hCA
      have HBA : Hid (∀ W, Calls Try.prog 38 #[.string b, .int .i64 lap] W (RetTC z 3 W)) := Lib.hid hBA
      have HCA : Hid (∀ W, Calls Try.prog 39 #[.string b, .int .i64 lap] W (PairE zc 3 W)) := Lib.hid hCA
      have HNO := Lib.hid hno
      have HWALL := Lib.hid hwall
      clear hBA hCA hno hwall hk hz hzc hb hbsz bpc bsum hbl
      go_wp2_with fail
      refine (HBA.out _).mono ?_
      rintro e w4 ⟨rfl, e4⟩
      have HE4 := Lib.hid (HE3.out.trans e4)
      clear e4
      go_wp2_with fail
      refine (HCA.out _).mono ?_
      rintro e w5 ⟨rfl, e5⟩
      have HE5 := Lib.hid (HE4.out.trans e5)
      clear e5
      go_wp2_with fail
      refine (s_A2Course bo m d cs L _ (HY.out.ext HE5.out) L1 L2).mono ?_
      rintro e w6 ⟨lo, rfl, opc, osum, e6⟩
      have HE6 := Lib.hid (HE5.out.trans e6)
      have hw := HWALL.out lo opc osum
      have hfn := HNO.out lo opc osum
      have hov := valid_len opc osum L1 L2
      have hosz := mkS_size lo
      have hCO := fun W => s_CutsIn (mkS lo) (by omega) W
      rw [bts_mkS, hov.1] at hCO
      obtain ⟨o, ho⟩ : ∃ o, mkS lo = o := ⟨_, rfl⟩
      obtain ⟨cv, hcv⟩ : ∃ cv, cutN lo = cv := ⟨_, rfl⟩
      rw [ho] at hw hfn hosz hCO
      rw [hcv] at hCO
      rw [ho]
      have ho63 : o.size ≤ 9223372036854775807 := by omega
      have hIB := fun W g (h : Strs W (some ⟨g, 0, none⟩) 2 [b, o]) => s_IsBonded (some ⟨g, 0, none⟩) 2 2 [b, o] lap W h hw.2
      have hib : ibV [b, o] lap = .tuple #[.bool false, .int .i64 0] := by unfold ibV; rw [if_pos hw.1, hfn]
      rw [hib] at hIB
      have HIB := Lib.hid hIB
      have HCO : Hid (∀ W, Calls Try.prog 35 #[.string o] W (Pair cv 0 W)) := Lib.hid hCO
      have HST := Lib.hid (strs_two (heap_alloc_new w6 (.cells #[.string b, .string o] 9)) hb63 ho63)
      have HE7 := Lib.hid (HE6.out.alloc (.cells #[.string b, .string o] 9))
      clear e6 hw hfn hov hosz hCO ho hcv hIB hib opc osum
      go_wp2_with fail
      refine (HIB.out _ _ HST.out).mono ?_
      rintro e w8 ⟨rfl, e8⟩
      have HE8 := Lib.hid (HE7.out.trans e8)
      clear e8
      go_wp2_with (go_at_call 35; refine (HCO.out _).mono ?_; rintro e w' ⟨rfl, rfl⟩)
      go_ret
      exact ⟨rfl, HE8.out⟩
    · have htv := valid_len tpc tsum L1 L2
      have hzsz := mkS_size t
      have hCT := fun W => s_CutsIn (mkS t) (by omega) W
      rw [bts_mkS, htv.1] at hCT
      have hwt := hwall t tpc tsum
      rw [ht] at hBA
      rw [tcut] at hCA
      rw [hk] at hBA hCA
      obtain ⟨z, hz⟩ : ∃ z, mkS t = z := ⟨_, rfl⟩
      obtain ⟨zc, hzc⟩ : ∃ zc, cutN t = zc := ⟨_, rfl⟩
      rw [hz] at hBA tfine hzsz hCT hwt
      rw [hzc] at hCA tmin hCT
      have hz63 : z.size ≤ 9223372036854775807 := by omega
      have HBA : Hid (∀ W, Calls Try.prog 38 #[.string b, .int .i64 lap] W (RetTC z 0 W)) := Lib.hid hBA
      have HCA : Hid (∀ W, Calls Try.prog 39 #[.string b, .int .i64 lap] W (PairE zc 0 W)) := Lib.hid hCA
      have HCT : Hid (∀ W, Calls Try.prog 35 #[.string z] W (Pair zc 0 W)) := Lib.hid hCT
      have hIZ := fun W g (h : Strs W (some ⟨g, 0, none⟩) 2 [b, z]) => s_IsBonded (some ⟨g, 0, none⟩) 2 2 [b, z] lap W h hwt.2
      have hiz : ibV [b, z] lap = .tuple #[.bool true, .int .i64 0] := by unfold ibV; rw [if_pos hwt.1, tfine]
      rw [hiz] at hIZ
      have HIZ := Lib.hid hIZ
      have HMIN := Lib.hid tmin
      have HWALL := Lib.hid hwall
      clear hBA hCA tmin hwall hk hz hzc hb hbsz bpc bsum hbl htv hzsz hCT hwt ht tcut tfine tpc tsum hIZ hiz
      go_wp2_with fail
      refine (HBA.out _).mono ?_
      rintro e w4 ⟨rfl, e4⟩
      have HE4 := Lib.hid (HE3.out.trans e4)
      clear e4
      go_wp2_with fail
      refine (HCA.out _).mono ?_
      rintro e w5 ⟨rfl, e5⟩
      have HE5 := Lib.hid (HE4.out.trans e5)
      clear e5
      go_wp2_with fail
      refine (s_A2Course bo m d cs L _ (HY.out.ext HE5.out) L1 L2).mono ?_
      rintro e w6 ⟨lo, rfl, opc, osum, e6⟩
      have HE6 := Lib.hid (HE5.out.trans e6)
      have hw := HWALL.out lo opc osum
      have hmn := HMIN.out lo opc osum
      have hov := valid_len opc osum L1 L2
      have hosz := mkS_size lo
      have hCO := fun W => s_CutsIn (mkS lo) (by omega) W
      rw [bts_mkS, hov.1] at hCO
      obtain ⟨o, ho⟩ : ∃ o, mkS lo = o := ⟨_, rfl⟩
      obtain ⟨cv, hcv⟩ : ∃ cv, cutN lo = cv := ⟨_, rfl⟩
      rw [ho] at hw hmn hosz hCO
      rw [hcv] at hCO hmn
      rw [ho]
      have ho63 : o.size ≤ 9223372036854775807 := by omega
      have hIB := fun W g (h : Strs W (some ⟨g, 0, none⟩) 2 [b, o]) => s_IsBonded (some ⟨g, 0, none⟩) 2 2 [b, o] lap W h hw.2
      obtain ⟨fn, hfn⟩ : ∃ fn, (findK lap 0 [b, o]).isNone = fn := ⟨_, rfl⟩
      rw [hfn] at hmn
      have hib : ibV [b, o] lap = .tuple #[.bool fn, .int .i64 0] := by unfold ibV; rw [if_pos hw.1, hfn]
      rw [hib] at hIB
      have HIB := Lib.hid hIB
      have HCO : Hid (∀ W, Calls Try.prog 35 #[.string o] W (Pair cv 0 W)) := Lib.hid hCO
      have HST := Lib.hid (strs_two (heap_alloc_new w6 (.cells #[.string b, .string o] 9)) hb63 ho63)
      have HE7 := Lib.hid (HE6.out.alloc (.cells #[.string b, .string o] 9))
      have HMN := Lib.hid hmn
      clear e6 hw hov hosz hCO ho hcv hIB hib opc osum hfn hmn
      cases fn with
      | true =>
        have hle := HMN.out rfl
        go_wp2_with fail
        refine (HIB.out _ _ HST.out).mono ?_
        rintro e w8 ⟨rfl, e8⟩
        have HE8 := Lib.hid (HE7.out.trans e8)
        have HSZ := Lib.hid (strs_two (heap_alloc_new w8 (.cells #[.string b, .string z] 9)) hb63 hz63)
        have HE9 := Lib.hid (HE8.out.alloc (.cells #[.string b, .string z] 9))
        clear e8
        go_wp2_with (go_at_call 35; refine (HCO.out _).mono ?_; rintro e w' ⟨rfl, rfl⟩)
        refine (HIZ.out _ _ HSZ.out).mono ?_
        rintro e w10 ⟨rfl, e10⟩
        have HE10 := Lib.hid (HE9.out.trans e10)
        clear e10
        go_wp2_with (go_at_call 35; refine (HCT.out _).mono ?_; rintro e w' ⟨rfl, rfl⟩)
        go_ret
        exact ⟨rfl, HE10.out⟩
      | false =>
        go_wp2_with fail
        refine (HIB.out _ _ HST.out).mono ?_
        rintro e w8 ⟨rfl, e8⟩
        have HE8 := Lib.hid (HE7.out.trans e8)
        have HSZ := Lib.hid (strs_two (heap_alloc_new w8 (.cells #[.string b, .string z] 9)) hb63 hz63)
        have HE9 := Lib.hid (HE8.out.alloc (.cells #[.string b, .string z] 9))
        clear e8
        go_wp2_with (go_at_call 35; refine (HCO.out _).mono ?_; rintro e w' ⟨rfl, rfl⟩)
        refine (HIZ.out _ _ HSZ.out).mono ?_
        rintro e w10 ⟨rfl, e10⟩
        have HE10 := Lib.hid (HE9.out.trans e10)
        clear e10
        go_wp2_with (go_at_call 35; refine (HCT.out _).mono ?_; rintro e w' ⟨rfl, rfl⟩)
        go_ret
        exact ⟨rfl, HE10.out⟩

/-! ### the row's step: written by a program of mine (frame.py) after the guide's own frame -/
namespace fnAbove
open Go.ChangeShapes Go.WideShapes Go.ChangeAt Go.RowKit Go.Joins
open Go.ChangeMaps (open_string shut_string)
set_option linter.unusedVariables false
theorem own : ownKnob Try.prog.godebug = none := by kernel_rfl
theorem laidOut : laidOutB Try.prog = true := by kernel_rfl
set_option maxRecDepth 100000 in
theorem lifted (os : Os) (started : os.Started) (H : Type) (enc : TypeId × Value → H) :
    ReturnsInHanded {} Try.checked os 8 .any (Rows.fnAboveSpec.pre6 enc Try.prog Try.f8 Rows.fnAboveRow.domain false) (Rows.fnAboveSpec.post enc Try.prog Try.f8 false true false false) := by
  refine returnsInHanded_of_change (C := Try.checked) own started (by kernel_rfl) Try.func8
    (ChangeSpec.witness6 (enc := enc) (C := Try.checked) false ⟨#[], #[.slice none 0 0, .slice none 0 0], []⟩ 8 (by kernel_rfl) (by kernel_rfl) (by kernel_rfl) (by kernel_rfl)) ?_
  intro W base args ds gs before hval0 hW hcnd _
  have hval : ∀ (j : Nat) t v, Try.f8.params[j]? = some t → args[j]? = some v → Value.okWide Try.prog W .any base t v := hval0
  have hW' := hW
  obtain ⟨p, q, hA0, hV, rfl, hfz, hnd⟩ := hW
  have hA : DataW.TrodAll enc Try.prog W 0 (fun _ => true) true Try.f8.params.toList args.toList ds p := hA0
  rw [Try.params8] at hA hval
  obtain ⟨v0, vs0, d0, ds0, p0, q0, hargs, rfl, rfl, h0, r0⟩ := trodAll_cons hA
  obtain ⟨v1, vs1, d1, ds1, p1, q1, rfl, rfl, rfl, h1, r1⟩ := trodAll_cons r0
  obtain ⟨rfl, rfl, rfl⟩ := trodAll_nil r1
  obtain rfl : args = #[v0, v1] := by cases args; simp_all
  obtain ⟨rfl, rfl⟩ := trodVars_none hV
  have k0 := h0
  have lt0 : ∀ x ∈ p0, x.block < W.heap.size := by obtain ⟨m, hm⟩ := k0; exact DataW.trod_lt m _ _ _ hm
  have k1 := h1
  have lt1 : ∀ x ∈ p1, x.block < W.heap.size := by obtain ⟨m, hm⟩ := k1; exact DataW.trod_lt m _ _ _ hm
  obtain ⟨b0, l0, c0, rfl⟩ := okWide_slice Try.underlying40 (hval 0 40 v0 rfl rfl)
  obtain ⟨z0, w0⟩ := u8x_of_trod Try.underlying40 Try.underlying5 (by kernel_rfl) h0
  obtain ⟨b1, l1, c1, rfl⟩ := okWide_slice Try.underlying40 (hval 1 40 v1 rfl rfl)
  obtain ⟨z1, w1⟩ := u8x_of_trod Try.underlying40 Try.underlying5 (by kernel_rfl) h1
  clear hA0 hval0
  refine (walk_FnAbove b0 l0 c0 z0 b1 l1 c1 z1 W w0 w1).mono fun e W' ⟨he, bel⟩ => ?_
  subst he
  exact ⟨_, rfl, _, _, _, [], _, [], hW', trodAll_mk1 (shut_bool Try.underlying4 _), (trodAll_cons_mk (Below.trod laidOut (by kernel_rfl) (of_decide_eq_true (by kernel_rfl)) k0 bel lt0) (trodAll_cons_mk (Below.trod laidOut (by kernel_rfl) (of_decide_eq_true (by kernel_rfl)) k1 bel lt1) trodAll_mk0)), rfl, bel.frame _, fun h => by cases h⟩
theorem over : Rows.fnAboveRow.holds Try.pinned (OpenSpec.ofChange Rows.fnAboveSpec) :=
  OpenClaim.holds_of_wide 8 Try.f8 rfl rfl rfl rfl rfl rfl rfl ⟨rfl, rfl, rfl, rfl, rfl⟩ rfl rfl rfl rfl rfl (by kernel_rfl) Try.func8 (by kernel_rfl)
    (of_decide_eq_true (by kernel_rfl)) (by unfold Func.isWrapper; first | (rw [if_pos (by decide +kernel)]; kernel_rfl) | (rw [if_neg (by decide +kernel)]; exact ⟨rfl, rfl⟩))
    (fun os started H enc _ => lifted os started H enc)
theorem proved : Rows.FnAboveSaid := over
#print axioms proved
end fnAbove
end Go.Proofs.Ytehcmocknmfhcaa
