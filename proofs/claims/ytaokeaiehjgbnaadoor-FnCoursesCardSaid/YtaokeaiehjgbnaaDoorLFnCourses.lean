/- For every two rows of bytes the law FnCourses answers true: a course from the other end has its perpends at the same distances from there, and courses are read back from their short texts; the library's tables and its error value are as its text lays them. -/
import Derived.Test.YtaokeaiehjgbnaaDoorReadR
import Derived.Test.YtaokeaiehjgbnaaDoorMirM
import Derived.Test.YtaokeaiehjgbnaaDoorGaA
import Derived.Test.YtaokeaiehjgbnaaDoorOpenU
import Derived.Test.YtaokeaiehjgbnaaDoorDoor
namespace Go.Proofs.YtaokeaiehjgbnaaDoor
open Go.RowKit
set_option linter.unusedSimpArgs false
set_option linter.unusedVariables false
set_option linter.unnecessarySimpa false

theorem perps_bd {l : List UInt8} {i : Nat} (h : i < l.length - 1) : 0 ≤ (perps l).getD i 0 ∧ (perps l).getD i 0 ≤ qSum l := by
  unfold perps
  rw [perpTo_at _ _ _ h]
  have := congrArg qSum (List.take_append_drop (i + 1) l)
  rw [qSum_append] at this
  have h1 := qSum_bd (l.take (i + 1))
  have h2 := qSum_bd (l.drop (i + 1))
  omega
set_option maxRecDepth 100000 in
set_option maxHeartbeats 4000000 in
theorem walk_FnCourses (ao : Option Addr) (n c : Nat) (bs : List UInt8) (bo : Option Addr) (m d : Nat) (ds : List UInt8) (w : World) (hx : U8x w ao n bs) (hy : U8x w bo m ds) (hT : TabP w) (hE : ErrP w) (hMx : MaxP w) :
    Calls Tryd.prog 7 #[.slice ao n c, .slice bo m d] w fun e w' => e = .returned (.bool true) ∧ Below w.heap.size w w' := by
  have HLO := Lib.hid (fun W => l_a2Long ao bo n m c d W hx.2.1 hy.2.1)
  have hlong : longB n m = false → n ≤ 3000 ∧ m ≤ 3000 := fun h => by unfold longB at h; simp at h; omega
  cases hl : longB n m with
  | true =>
    rw [hl] at HLO
    clear hx hy hlong hl
    go_enter Tryd.func7, Tryd.ntmps7
    go_wp2_with (go_at_call 21; refine (HLO.out _).mono ?_; rintro e w' ⟨rfl, rfl⟩)
    go_ret
    exact ⟨rfl, Below.refl _ _⟩
  | false =>
    rw [hl] at HLO
    have ⟨hn, hm⟩ := hlong hl
    have HX := Lib.hid (hx.small (by omega))
    have HY := Lib.hid (hy.small (by omega))
    have HTb := Lib.hid hT
    have HEr := Lib.hid hE
    have HMx := Lib.hid hMx
    clear hx hy hlong hl hn hm hT hE hMx
    go_enter Tryd.func7, Tryd.ntmps7
    go_wp2_with (go_at_call 21; refine (HLO.out _).mono ?_; rintro e w' ⟨rfl, rfl⟩)
    refine (s_A2Length bo m d ds w HY.out).mono ?_
    rintro e w1 ⟨L, L1, L2, rfl, e1⟩
    have HE1 := Lib.hid e1
    clear e1
    go_wp2_with fail
    refine (s_A2Course ao n c bs L w1 (HX.out.ext HE1.out) L1 L2).mono ?_
    rintro e w2 ⟨l, rfl, hpc, hsum, e2⟩
    have HE2 := Lib.hid (HE1.out.trans e2)
    clear e2
    obtain ⟨hval, l1, l40, hfree⟩ := validC_of hpc hsum L1 L2
    have hvr : validC l.reverse = true := by rw [validC_rev]; exact hval
    have hsz := mkS_size l
    have hsr := mkS_size l.reverse
    rw [List.length_reverse] at hsr
    have hbl := bts_mkS l
    have hbr := bts_mkS l.reverse
    have hM := Lib.hid (fun i (h : i < l.length - 1) => perps_mirror (l := l) (i := i) h)
    have hB := Lib.hid (fun i (h : i < l.reverse.length - 1) => perps_bd (l := l.reverse) (i := i) h)
    have hpl := perps_length l
    have hql := perps_length l.reverse
    rw [List.length_reverse] at hql hB
    rw [qSum_rev, hsum] at hB
    rw [hsum] at hM
    have m1 : mirC l = l.reverse := if_pos hval
    have m2 : mirC l.reverse = l := by unfold mirC; rw [if_pos hvr, List.reverse_reverse]
    have p1 : perpsC l = perps l := if_pos hval
    have p2 : perpsC l.reverse = perps l.reverse := if_pos hvr
    have hrr := rr_course (by omega) (by intro e; rw [e] at l1; simp at l1) hfree hval
    have hcrun := crun_t hval
    obtain ⟨z, hz⟩ : ∃ z, mkS l = z := ⟨_, rfl⟩
    obtain ⟨y, hy⟩ : ∃ y, mkS l.reverse = y := ⟨_, rfl⟩
    rw [hz] at hsz hbl ⊢
    rw [hy] at hsr hbr
    have hCL := fun W => i_CourseLength z (by omega) W
    have hM1 := fun W => i_MirrorCourse z (by omega) W
    have hM2 := fun W => i_MirrorCourse y (by omega) W
    have hP1 := fun W => i_CoursePerpends z (by omega) W
    have hP2 := fun W => i_CoursePerpends y (by omega) W
    have hC1 := fun W => i_CutsIn z (by omega) W
    have hC2 := fun W => i_CutsIn y (by omega) W
    have hCR := fun W => i_CourseRuns z (by omega) W
    rw [hbl, hval, hsum] at hCL
    rw [hbl, hval, m1] at hM1
    rw [hbr, hvr, m2] at hM2
    rw [hbl, hval, p1] at hP1
    rw [hbr, hvr, p2] at hP2
    rw [hbl, hval] at hC1
    rw [hbr, hvr, cutN_rev] at hC2
    rw [hbl, hcrun] at hCR
    obtain ⟨ps, hps⟩ : ∃ ps, perps l = ps := ⟨_, rfl⟩
    obtain ⟨qs, hqs⟩ : ∃ qs, perps l.reverse = qs := ⟨_, rfl⟩
    obtain ⟨K, hK⟩ : ∃ K, cutN l = K := ⟨_, rfl⟩
    rw [hps] at hP1 hM hpl
    rw [hqs] at hP2 hM hB hql
    rw [hK] at hC1 hC2
    obtain ⟨p, hp⟩ : ∃ p, l.length - 1 = p := ⟨_, rfl⟩
    rw [hp] at hM hB hpl hql
    have hjl : (Lib.join (runs l) [32]).length ≤ 2000000 := by
      have h1 := hrr
      rcases Nat.lt_or_ge 2000000 (Lib.join (runs l) [32]).length with h | h
      · exfalso
        have h2 := join_len [32] 21 (runs l) (runs_short l (by omega))
        have h3 := runs_len l
        simp only [List.length_singleton] at h2
        have h4 : (runs l).length * (21 + 1) ≤ l.length * 22 := Nat.mul_le_mul h3 (Nat.le_refl _)
        omega
      · exact h
    have hts := mkS_size (Lib.join (runs l) [32])
    have htb := bts_mkS (Lib.join (runs l) [32])
    obtain ⟨t, ht⟩ : ∃ t, mkS (Lib.join (runs l) [32]) = t := ⟨_, rfl⟩
    rw [ht] at hts htb hCR
    have hRR := fun W (e : Ext w W) => i_ReadRuns t (by omega) W (HTb.out.ext e) (HEr.out.ext e) (HMx.out.ext e)
    rw [htb, rrV_some hrr, hz] at hRR
    have HCL : Hid (∀ W, Calls Tryd.prog 24 #[.string z] W (Pair L 0 W)) := Lib.hid hCL
    have HM1 : Hid (∀ W, Calls Tryd.prog 25 #[.string z] W (RetSC l.reverse 0 W)) := Lib.hid hM1
    have HM2 : Hid (∀ W, Calls Tryd.prog 25 #[.string y] W (RetSC l 0 W)) := Lib.hid hM2
    have HP1 : Hid (∀ W, Calls Tryd.prog 26 #[.string z] W (RetIntsC ps 0 W)) := Lib.hid hP1
    have HP2 : Hid (∀ W, Calls Tryd.prog 26 #[.string y] W (RetIntsC qs 0 W)) := Lib.hid hP2
    have HC1 : Hid (∀ W, Calls Tryd.prog 27 #[.string z] W (Pair K 0 W)) := Lib.hid hC1
    have HC2 : Hid (∀ W, Calls Tryd.prog 27 #[.string y] W (Pair K 0 W)) := Lib.hid hC2
    have HCR : Hid (∀ W, Calls Tryd.prog 18 #[.string z] W (RetE (.string t) W)) := Lib.hid hCR
    have HRR : Hid (∀ W, Ext w W → Calls Tryd.prog 20 #[.string t] W (RetE (.tuple #[.string z, .bool true]) W)) := Lib.hid hRR
    have HZ := Lib.hid hz
    have HY2 := Lib.hid hy
    have HPL := Lib.hid hpl
    have HQL := Lib.hid hql
    have hzp : (z.size : Int) - 1 = (p : Int) := by omega
    have hp40 : p ≤ 40 := by omega
    clear hval l1 l40 hfree hvr hsz hsr hbl hbr hpl hql m1 m2 p1 p2 hrr hcrun hz hy hCL hM1 hM2 hP1 hP2 hC1 hC2 hCR hps hqs hK hp hjl hts htb ht hRR hpc hsum
    go_wp2_with fail
    refine (HCL.out _).mono ?_
    rintro e w' ⟨rfl, rfl⟩
    go_wp2_with fail
    refine (HM1.out _).mono ?_
    rintro e w3 ⟨rfl, e3⟩
    rw [HY2.out]
    have HE3 := Lib.hid (HE2.out.trans e3)
    clear e3
    go_wp2_with fail
    refine (HM2.out _).mono ?_
    rintro e w4 ⟨rfl, e4⟩
    rw [HZ.out]
    have HE4 := Lib.hid (HE3.out.trans e4)
    clear e4
    go_wp2_with fail
    refine (HP1.out _).mono ?_
    rintro e w5 ⟨a5, c5, rfl, o5, e5⟩
    rw [HPL.out] at o5 ⊢
    have HI5 := Lib.hid o5.ints
    have HE5 := Lib.hid (HE4.out.trans e5)
    clear o5 e5
    go_wp2_with fail
    refine (HP2.out _).mono ?_
    rintro e w6 ⟨a6, c6, rfl, o6, e6⟩
    rw [HQL.out] at o6 ⊢
    have HI6 := Lib.hid o6.ints
    have HJ6 := Lib.hid (HI5.out.ext e6)
    have HE6 := Lib.hid (HE5.out.trans e6)
    clear o6 e6
    go_wp2_with fail
    refine (HC1.out _).mono ?_
    rintro e w' ⟨rfl, rfl⟩
    go_wp2_with fail
    refine (HC2.out _).mono ?_
    rintro e w' ⟨rfl, rfl⟩
    go_wp2
    go_loopw [21] (fun i wr => ∃ k : Nat, k ≤ p ∧ i = .int .i64 k ∧ Hid (Ext w6 wr)) (fun i _ => p - (intOf i).toNat)
    case atStart => exact ⟨0, Nat.zero_le _, rfl, Lib.hid (Ext.refl _)⟩
    case round =>
      obtain ⟨k, hk, rfl, HE⟩ := hrel
      by_cases hlt : k < p
      · have hki : (k : Int) < (p : Int) := by omega
        obtain ⟨r, hr⟩ : ∃ r, p - 1 - k = r := ⟨_, rfl⟩
        have hrp : r < p := by omega
        have hrk : (p : Int) - 1 - (k : Int) = (r : Int) := by omega
        have hri : (r : Int) < (p : Int) := by omega
        obtain ⟨b5, o5, rfl, h5⟩ := HJ6.out.2.2.1 k hlt
        obtain ⟨b6, o6, rfl, h6⟩ := HI6.out.2.2.1 r hrp
        have hM2 := hM.out k hlt
        have hB2 := hB.out r hrp
        rw [hr] at hM2
        obtain ⟨u, hu⟩ : ∃ u, qs.getD r 0 = u := ⟨_, rfl⟩
        rw [hM2, hu] at h5
        rw [hu] at h6 hB2
        have h5 := HE.out.cell h5
        have h6 := HE.out.cell h6
        clear hM2 hu hr
        go_wp2
        go_quiet (fail)
        go_wp2
        go_roundw
        case rel => exact ⟨k + 1, by omega, by go_num, Lib.hid (HE.out.drewN _)⟩
        case measure => simp [intOf]; omega
      · have hki : ¬ (k : Int) < (p : Int) := by omega
        go_wp2_with (first
          | (go_at_call 18; refine (HCR.out _).mono ?_; rintro e w7 ⟨rfl, e7⟩; have HE7 := Lib.hid ((HE6.out.trans HE.out).trans e7); clear e7)
          | (go_at_call 20; refine (HRR.out _ HE7.out).mono ?_; rintro e w8 ⟨rfl, e8⟩; have HE8 := Lib.hid (HE7.out.trans e8); clear e8))
        go_ret
        exact ⟨rfl, HE8.out⟩
/-! ### the row's step: written by a program of mine (frame.py) after the guide's own frame -/
namespace fnCourses
open Go.ChangeShapes Go.WideShapes Go.ChangeAt Go.RowKit Go.Joins
open Go.ChangeMaps (open_string shut_string)
set_option linter.unusedVariables false
theorem own : ownKnob Tryd.prog.godebug = none := by kernel_rfl
theorem laidOut : laidOutB Tryd.prog = true := by kernel_rfl
theorem laid_met (os : Os) (args : Array Value) : laidMet Tryd.prog Rows.fnCoursesRow.laid ((laidWorld os).forCall (fun _ _ => 0) ⟨#[], args, []⟩).memory :=
  (LaidIn.of_run (l := Rows.fnCoursesRow.laid) [6, 7, 1, 5, 3, N0, 2, N0 + 1, 4] 8 (by kernel_rfl) (by kernel_rfl) (by kernel_rfl) (by kernel_rfl)).met
theorem witness_row (os : Os) {H : Type} (enc : TypeId × Value → H) :
    (OpenSpec.ofChange Rows.fnCoursesSpec).preRow enc Tryd.prog Tryd.f7 Rows.fnCoursesRow.domain false Rows.fnCoursesRow.laid ((laidWorld os).forCall (fun _ _ => 0) ⟨#[], #[.slice none 0 0, .slice none 0 0], []⟩).memory #[.slice none 0 0, .slice none 0 0] := by
  have hw : (DataW.whole enc Tryd.prog ((laidWorld os).forCall (fun _ _ => 0) ⟨#[], #[.slice none 0 0, .slice none 0 0], []⟩).memory Tryd.f7.params.toList (OpenSpec.ofChange Rows.fnCoursesSpec).vars false (#[.slice none 0 0, .slice none 0 0] : Array Value).toList 8).map (fun x => (x.1, x.2.1)) =
      some ([.nil, .nil], []) := by kernel_rfl
  obtain ⟨⟨x1, x2, x3⟩, hx, hx1⟩ := Option.map_eq_some_iff.1 hw
  simp only [Prod.mk.injEq] at hx1
  obtain ⟨rfl, rfl⟩ := hx1
  exact OpenSpec.preRow_of_cond 8 hx (by kernel_rfl) (fun k hk => by cases hk) (by kernel_rfl) (laid_met os _)
set_option maxRecDepth 100000 in
theorem lifted (os : Os) (started : os.Started) (H : Type) (enc : TypeId × Value → H) (F : Stop.Interp) :
    ReturnsInHanded {} Tryd.checked os 7 .any ((OpenSpec.ofChange Rows.fnCoursesSpec).preRow enc Tryd.prog Tryd.f7 Rows.fnCoursesRow.domain false Rows.fnCoursesRow.laid) (((OpenSpec.ofChange Rows.fnCoursesSpec).at F).post enc Tryd.prog Tryd.f7 false true false false) := by
  refine returnsInHanded_of_row (C := Tryd.checked) (s := OpenSpec.ofChange Rows.fnCoursesSpec) own started (by kernel_rfl) Tryd.func7
    (witness_row_atRef (enc := enc) (C := Tryd.checked) false (laidWorld os) #[.slice none 0 0, .slice none 0 0] rfl (by kernel_rfl) (by kernel_rfl) (by kernel_rfl) (witness_row os enc)) ?_
  intro W base args ds gs before hval0 hW hcnd _ _ hL hsh _
  have hval : ∀ (j : Nat) t v, Tryd.f7.params[j]? = some t → args[j]? = some v → Value.okWide Tryd.prog W .any base t v := hval0
  have hW' := hW
  obtain ⟨p, q, hA0, hV, rfl, hfz, hnd⟩ := hW
  have hA : DataW.TrodAll enc Tryd.prog W 0 (fun _ => true) true Tryd.f7.params.toList args.toList ds p := hA0
  rw [Tryd.params7] at hA hval
  obtain ⟨v0, vs0, d0, ds0, p0, q0, hargs, rfl, rfl, h0, r0⟩ := trodAll_cons hA
  obtain ⟨v1, vs1, d1, ds1, p1, q1, rfl, rfl, rfl, h1, r1⟩ := trodAll_cons r0
  obtain ⟨rfl, rfl, rfl⟩ := trodAll_nil r1
  obtain rfl : args = #[v0, v1] := by cases args; simp_all
  obtain ⟨rfl, rfl⟩ := trodVars_none hV
  have k0 := h0
  have lt0 : ∀ x ∈ p0, x.block < W.heap.size := by obtain ⟨m, hm⟩ := k0; exact DataW.trod_lt m _ _ _ hm
  have k1 := h1
  have lt1 : ∀ x ∈ p1, x.block < W.heap.size := by obtain ⟨m, hm⟩ := k1; exact DataW.trod_lt m _ _ _ hm
  obtain ⟨b0, l0, c0, rfl⟩ := okWide_slice Tryd.underlying38 (hval 0 38 v0 rfl rfl)
  obtain ⟨z0, w0⟩ := u8x_of_trod Tryd.underlying38 Tryd.underlying5 (by kernel_rfl) h0
  obtain ⟨b1, l1, c1, rfl⟩ := okWide_slice Tryd.underlying38 (hval 1 38 v1 rfl rfl)
  obtain ⟨z1, w1⟩ := u8x_of_trod Tryd.underlying38 Tryd.underlying5 (by kernel_rfl) h1
  clear hA0 hval0
  have hL0 : laidMet Tryd.prog Rows.fnCoursesRow.laid W := hL
  have hTab : TabP W := tab_laid hL0.tail.tail
  have hErr : ErrP W := err_laid hL0.tail.tail.tail.tail.tail
  have hMax : MaxP W := max_shaped hsh
  refine (walk_FnCourses b0 l0 c0 z0 b1 l1 c1 z1 W w0 w1 hTab hErr hMax).mono fun e W' ⟨he, bel⟩ => ?_
  subst he
  exact ⟨_, rfl, _, _, _, [], _, [], hW', trodAll_mk1 (shut_bool Tryd.underlying4 _), (trodAll_cons_mk (Below.trod laidOut (by kernel_rfl) (of_decide_eq_true (by kernel_rfl)) k0 bel lt0) (trodAll_cons_mk (Below.trod laidOut (by kernel_rfl) (of_decide_eq_true (by kernel_rfl)) k1 bel lt1) trodAll_mk0)), rfl, bel.frame _, fun h => by cases h⟩
theorem over : Rows.fnCoursesRow.holds Tryd.pinned (OpenSpec.ofChange Rows.fnCoursesSpec) :=
  OpenClaim.holds_of_cond 7 Tryd.f7 rfl rfl rfl rfl rfl rfl rfl ⟨rfl, rfl, rfl, rfl, rfl⟩ rfl rfl rfl rfl rfl (by kernel_rfl) Tryd.func7 (by kernel_rfl)
    (of_decide_eq_true (by kernel_rfl)) (by unfold Func.isWrapper; first | (rw [if_pos (by decide +kernel)]; kernel_rfl) | (rw [if_neg (by decide +kernel)]; exact ⟨rfl, rfl⟩))
    (fun os started H enc _ F0 => by rw [OpenClaim.pre_eq_preRow]; exact lifted os started H enc F0)
theorem proved : Rows.FnCoursesCardSaid :=
  Claim7.holds_tied_plain_at .later [] [.data, .data, .data, .data, .sentinel, .sentinel, .pinned] true (true, "9cc497ef2af0512bcb3bf161b70c347e05e4fea15a44848d6b8a4322bb5dbd7d") true
    over (fun _ h => by cases h) (by kernel_rfl) (fun _ h => by cases h) fnCourses_row_tie rfl ⟨rfl, rfl⟩ (by kernel_rfl) rfl
    (fun f fn hf hfn => by
      obtain rfl : f = 7 := Option.some.inj ((show Tryd.prog.funcNamed "loop.example/g01042/laws.FnCourses" = some 7 by kernel_rfl).symm.trans hf) |>.symm
      obtain rfl : fn = Tryd.f7 := (Option.some.inj (Tryd.func7.symm.trans hfn)).symm
      exact ⟨by kernel_rfl, fun j t ht => by
        rw [Tryd.params7] at ht
        have h3 : t = 38 := by
          rcases j with _ | (_ | j)
          · have e : t = 38 := by simpa using ht.symm
            simp [e]
          · have e : t = 38 := by simpa using ht.symm
            simp [e]
          · simp at ht
        subst h3
        exact (show Tryd.prog.wantsStandIn 38 = false by kernel_rfl)⟩)
    (by kernel_rfl)
#print axioms proved
end fnCourses
end Go.Proofs.YtaokeaiehjgbnaaDoor
