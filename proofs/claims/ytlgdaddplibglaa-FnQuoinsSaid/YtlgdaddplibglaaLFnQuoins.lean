/- For every row of bytes the law FnQuoins answers true: at each corner just one side runs through, the lengths of a course do not change with the courses together, and closers keep a lap of one. No condition. -/
import Derived.Test.YtlgdaddplibglaaHouseH
import Derived.Test.YtlgdaddplibglaaHouse6
import Derived.Test.YtlgdaddplibglaaHouse7
import Derived.Test.YtlgdaddplibglaaOpenU
namespace Go.Proofs.Ytlgdaddplibglaa
open Go.RowKit
set_option linter.unusedSimpArgs false
set_option linter.unusedVariables false
set_option linter.unnecessarySimpa false

set_option maxRecDepth 100000 in
set_option maxHeartbeats 8000000 in
theorem walk_FnQuoins (ao : Option Addr) (n c : Nat) (bs : List UInt8) (w : World) (hx : U8x w ao n bs) :
    Calls Try.prog 4 #[.slice ao n c] w fun e w' => e = .returned (.bool true) ∧ Below w.heap.size w w' := by
  have HLO := Lib.hid (fun W => l_f6big ao n c W hx.2.1)
  cases hl : bigC n with
  | true =>
    rw [hl] at HLO
    clear hx hl
    go_enter Try.func4, Try.ntmps4
    go_wp2_with (go_at_call 12; refine (HLO.out _).mono ?_; rintro e w' ⟨rfl, rfl⟩)
    go_ret
    exact ⟨rfl, Below.refl _ _⟩
  | false =>
    rw [hl] at HLO
    have HX := Lib.hid (hx.small (by have h := hl; unfold bigC at h; simp at h; omega))
    clear hx hl
    go_enter Try.func4, Try.ntmps4
    go_wp2_with (go_at_call 12; refine (HLO.out _).mono ?_; rintro e w' ⟨rfl, rfl⟩)
    refine (s_DrawCourseAround ao n c bs _ HX.out).mono ?_
    rintro e w1 ⟨v1, t1, xs1, r1, rfl, hr1, hF1⟩
    obtain ⟨b1, c1, rfl, l1, l1', l1c, lt1, hI1, _, e1⟩ := hF1
    have hA := fun W (h : Ints W (some ⟨b1, 0, none⟩) xs1.length xs1) => i_CourseAround (some ⟨b1, 0, none⟩) xs1.length c1 xs1 t1 r1 W h (by omega)
    have hB := fun W (h : Ints W (some ⟨b1, 0, none⟩) xs1.length xs1) => s_CourseAround (some ⟨b1, 0, none⟩) xs1.length c1 xs1 t1 r1 W h (by omega)
    have hR := fun W (h : Ints W (some ⟨b1, 0, none⟩) xs1.length xs1) => i_RoundHouse (some ⟨b1, 0, none⟩) xs1.length c1 xs1 t1 W h (by omega)
    have hsum : codeH xs1 (bts t1) 0 r1 = 0 → ((arH xs1 (bts t1) r1).sum = sumN xs1 xs1.length - 2 * (arH xs1 (bts t1) r1).length ∧ (∀ x ∈ arH xs1 (bts t1) r1, 0 ≤ x ∧ x ≤ 1000000)) ∧ validH xs1 (bts t1) = true ∧ 0 ≤ sumN xs1 xs1.length ∧ sumN xs1 xs1.length ≤ 10000 := fun h => ⟨arH_sum h, (code_0 h).1, by have hv := validH_bd (code_0 h).1; have := sumN_bd hv.2.2.1 xs1.length (Nat.le_refl _); omega, by have hv := validH_bd (code_0 h).1; have := sumN_bd hv.2.2.1 xs1.length (Nat.le_refl _); omega⟩
    have hlen := arH_len xs1 (bts t1) r1
    obtain ⟨L, hL⟩ : ∃ L, arH xs1 (bts t1) r1 = L := ⟨_, rfl⟩
    obtain ⟨K, hK⟩ : ∃ K, codeH xs1 (bts t1) 0 r1 = K := ⟨_, rfl⟩
    obtain ⟨S1, hS1⟩ : ∃ S, sumN xs1 xs1.length = S := ⟨_, rfl⟩
    rw [hL, hK] at hA hB hsum
    rw [hS1] at hR hsum
    rw [hL] at hlen
    obtain ⟨V, hV⟩ : ∃ V, validH xs1 (bts t1) = V := ⟨_, rfl⟩
    rw [hV] at hR hsum
    have HA := Lib.hid hA
    have HB := Lib.hid hB
    have HR := Lib.hid hR
    have HSUM := Lib.hid hsum
    have HI1 := Lib.hid (hI1.ext ((Ext.refl w1).alloc (.cells #[.slice (some ⟨b1, 0, none⟩) xs1.length c1, .string t1] 26)))
    have HE1 := Lib.hid (e1.alloc (.cells #[.slice (some ⟨b1, 0, none⟩) xs1.length c1, .string t1] 26))
    have A1 := Two.new w1 (.slice (some ⟨b1, 0, none⟩) xs1.length c1) (.string t1) 26
    clear hA hB hR hsum hI1 e1 hL hK hS1 hV
    go_wp2_with fail
    refine (HA.out _ HI1.out).mono ?_
    rintro e w2 ⟨a2, c2, rfl, o2, e2⟩
    have HE2 := Lib.hid (HE1.out.trans e2)
    have HI2 := Lib.hid (HI1.out.ext e2)
    have HL2 := Lib.hid o2.ints
    replace A1 := A1.ext e2
    clear e2 o2
    go_wp2_with fail
    refine (HB.out _ HI2.out).mono ?_
    rintro e w3 ⟨a3, c3, rfl, o3, e3⟩
    have HE3 := Lib.hid (HE2.out.trans e3)
    have HI3 := Lib.hid (HI2.out.ext e3)
    have HL3 := Lib.hid (HL2.out.ext e3)
    have HM3 := Lib.hid o3.ints
    replace A1 := A1.ext e3
    clear e3 o3 HA HB
    go_wp2_with fail
    refine (s_DrawSideInCourse ao n c bs _ (HX.out.ext HE3.out)).mono ?_
    rintro e w4 ⟨v4, t4, xs4, k4, r4, rfl, hk4, hr4, hF4⟩
    obtain ⟨b4, c4, rfl, l4, l4', l4c, lt4, hI4, _, e4⟩ := hF4
    have HW4 := Lib.hid (e4.alloc (.cells #[.slice (some ⟨b4, 0, none⟩) xs4.length c4, .string t4] 26))
    have hA := fun W (h : Ints W (some ⟨b4, 0, none⟩) xs4.length xs4) => i_SideInCourse (some ⟨b4, 0, none⟩) xs4.length c4 xs4 t4 k4 r4 W h (by omega)
    have hB := fun W (h : Ints W (some ⟨b4, 0, none⟩) xs4.length xs4) => s_SideInCourse (some ⟨b4, 0, none⟩) xs4.length c4 xs4 t4 k4 r4 W h (by omega)
    have hC := fun W (h : Ints W (some ⟨b4, 0, none⟩) xs4.length xs4) => i_RunsThrough (some ⟨b4, 0, none⟩) xs4.length c4 xs4 t4 k4 r4 W h (by omega)
    have hD := fun W (h : Ints W (some ⟨b4, 0, none⟩) xs4.length xs4) => s_RunsThrough (some ⟨b4, 0, none⟩) xs4.length c4 xs4 t4 k4 r4 W h (by omega)
    have hN := fun W (h : Ints W (some ⟨b4, 0, none⟩) xs4.length xs4) => i_RunsThrough (some ⟨b4, 0, none⟩) xs4.length c4 xs4 t4 k4 (r4 + 1) W h (by omega)
    have hnext : codeH xs4 (bts t4) k4 r4 = 0 → r4 < 1000 → codeH xs4 (bts t4) k4 (r4 + 1) = 0 ∧ runsH xs4 (bts t4) k4 (r4 + 1) = !runsH xs4 (bts t4) k4 r4 := fun h h2 => ⟨code_next h h2, runs_next h h2⟩
    have hlow : codeH xs4 (bts t4) k4 r4 = 0 → 0 ≤ r4 := fun h => (code_0 h).2.2.2.1
    obtain ⟨D, hD4⟩ : ∃ D, sideH xs4 (bts t4) k4 r4 = D := ⟨_, rfl⟩
    obtain ⟨R, hR4⟩ : ∃ R, runsH xs4 (bts t4) k4 r4 = R := ⟨_, rfl⟩
    obtain ⟨K4, hK4⟩ : ∃ K, codeH xs4 (bts t4) k4 r4 = K := ⟨_, rfl⟩
    obtain ⟨R', hR4'⟩ : ∃ R, runsH xs4 (bts t4) k4 (r4 + 1) = R := ⟨_, rfl⟩
    obtain ⟨K4', hK4'⟩ : ∃ K, codeH xs4 (bts t4) k4 (r4 + 1) = K := ⟨_, rfl⟩
    rw [hD4, hK4] at hA hB
    rw [hR4, hK4] at hC hD
    rw [hR4', hK4'] at hN
    rw [hK4, hR4, hR4', hK4'] at hnext
    rw [hK4] at hlow
    have HA := Lib.hid hA
    have HB := Lib.hid hB
    have HC := Lib.hid hC
    have HD := Lib.hid hD
    have HN := Lib.hid hN
    have HNEXT := Lib.hid hnext
    have HLOW := Lib.hid hlow
    have HE4 := Lib.hid (HE3.out.trans HW4.out)
    have HI1 := Lib.hid (HI3.out.ext HW4.out)
    have HL := Lib.hid (HL3.out.ext HW4.out)
    have HM := Lib.hid (HM3.out.ext HW4.out)
    have HI4 := Lib.hid (hI4.ext ((Ext.refl w4).alloc (.cells #[.slice (some ⟨b4, 0, none⟩) xs4.length c4, .string t4] 26)))
    replace A1 := A1.ext HW4.out
    have A4 := Two.new w4 (.slice (some ⟨b4, 0, none⟩) xs4.length c4) (.string t4) 26
    clear hA hB hC hD hN hnext hlow hD4 hR4 hK4 hR4' hK4' HI2 HI3 HL2 HL3 HM3 hI4 e4 HW4
    go_wp2_with fail
    refine (HA.out _ HI4.out).mono ?_
    rintro e w5 ⟨rfl, e5⟩
    have HE5 := Lib.hid (HE4.out.trans e5)
    have HG5 := Lib.hid e5
    have HI45 := Lib.hid (HI4.out.ext e5)
    replace A1 := A1.ext e5
    replace A4 := A4.ext e5
    clear e5 HA
    go_wp2_with fail
    refine (HB.out _ HI45.out).mono ?_
    rintro e w6 ⟨rfl, e6⟩
    have HE6 := Lib.hid (HE5.out.trans e6)
    have HG6 := Lib.hid (HG5.out.trans e6)
    have HI46 := Lib.hid (HI45.out.ext e6)
    replace A1 := A1.ext e6
    replace A4 := A4.ext e6
    clear e6 HB
    go_wp2_with fail
    refine (HC.out _ HI46.out).mono ?_
    rintro e w7 ⟨rfl, e7⟩
    have HE7 := Lib.hid (HE6.out.trans e7)
    have HG7 := Lib.hid (HG6.out.trans e7)
    have HI47 := Lib.hid (HI46.out.ext e7)
    replace A1 := A1.ext e7
    replace A4 := A4.ext e7
    clear e7 HC
    go_wp2_with fail
    refine (HD.out _ HI47.out).mono ?_
    rintro e w8 ⟨rfl, e8⟩
    have HE8 := Lib.hid (HE7.out.trans e8)
    have HG8 := Lib.hid (HG7.out.trans e8)
    have HI48 := Lib.hid (HI47.out.ext e8)
    replace A1 := A1.ext e8
    replace A4 := A4.ext e8
    clear e8 HD HI45 HI46 HI47
    go_wp2_with fail
    refine (s_DrawQuoinLap ao n c bs _ (HX.out.ext HE8.out)).mono ?_
    rintro e w9 ⟨v9, t9, xs9, k9, cl, rfl, hk9, hF9⟩
    obtain ⟨b9, c9, rfl, l9, l9', l9c, lt9, hI9, _, e9⟩ := hF9
    have HW9 := Lib.hid (e9.alloc (.cells #[.slice (some ⟨b9, 0, none⟩) xs9.length c9, .string t9] 26))
    have hA := fun W (h : Ints W (some ⟨b9, 0, none⟩) xs9.length xs9) => i_QuoinLap (some ⟨b9, 0, none⟩) xs9.length c9 xs9 t9 k9 cl W h (by omega)
    have hB := fun W (h : Ints W (some ⟨b9, 0, none⟩) xs9.length xs9) => s_QuoinLap (some ⟨b9, 0, none⟩) xs9.length c9 xs9 t9 k9 cl W h (by omega)
    have hlap : codeH xs9 (bts t9) k9 0 = 0 → 1 ≤ lapH xs9 (bts t9) k9 cl ∧ lapH xs9 (bts t9) k9 cl ≤ 2 := fun h => lap_in h
    obtain ⟨P, hP⟩ : ∃ P, lapH xs9 (bts t9) k9 cl = P := ⟨_, rfl⟩
    obtain ⟨K9, hK9⟩ : ∃ K, codeH xs9 (bts t9) k9 0 = K := ⟨_, rfl⟩
    rw [hP, hK9] at hA hB hlap
    have HA := Lib.hid hA
    have HB := Lib.hid hB
    have HLAP := Lib.hid hlap
    have HE9 := Lib.hid (HE8.out.trans HW9.out)
    have HG9 := Lib.hid (HG8.out.trans HW9.out)
    have HI4 := Lib.hid (HI48.out.ext HW9.out)
    have HI9 := Lib.hid (hI9.ext ((Ext.refl w9).alloc (.cells #[.slice (some ⟨b9, 0, none⟩) xs9.length c9, .string t9] 26)))
    replace A1 := A1.ext HW9.out
    replace A4 := A4.ext HW9.out
    have A9 := Two.new w9 (.slice (some ⟨b9, 0, none⟩) xs9.length c9) (.string t9) 26
    clear hA hB hlap hP hK9 HI48 hI9 e9 HW9
    go_wp2_with fail
    refine (HA.out _ HI9.out).mono ?_
    rintro e w10 ⟨rfl, e10⟩
    have HE10 := Lib.hid (HE9.out.trans e10)
    have HG10 := Lib.hid (HG9.out.trans e10)
    have HI4 := Lib.hid (HI4.out.ext e10)
    have HI9 := Lib.hid (HI9.out.ext e10)
    replace A1 := A1.ext e10
    replace A4 := A4.ext e10
    replace A9 := A9.ext e10
    clear e10 HA
    go_wp2_with fail
    refine (HB.out _ HI9.out).mono ?_
    rintro e w11 ⟨rfl, e11⟩
    have HE11 := Lib.hid (HE10.out.trans e11)
    have HG11 := Lib.hid (HG10.out.trans e11)
    have HI4 := Lib.hid (HI4.out.ext e11)
    replace A1 := A1.ext e11
    replace A4 := A4.ext e11
    clear e11 HB A9
    have HLL := Lib.hid (HL.out.ext HG11.out)
    have HMM := Lib.hid (HM.out.ext HG11.out)
    have HFI := Lib.hid (fun W h1 h2 => show Calls Try.prog 24 _ W (RetE (.bool true) W) from (by have := l_f6ints a2 a3 L.length L.length c2 c3 L L W h1 h2; rwa [beq_self_eq_true] at this))
    have t1e : (K != K) = false := by simp
    have t2e : (K4 != K4) = false := by simp
    have t3e : (D != D) = false := by simp
    have t4e : (R != R) = false := by simp
    have t5e : (K9 != K9) = false := by simp
    have t6e : (P != P) = false := by simp
    have hR2 : ((!R) == R) = false := by cases R <;> rfl
    have HK9 : Hid (K9 = 0 → 1 ≤ P ∧ P ≤ 2) := HLAP
    have hcase9 : (K9 = 0 ∧ 1 ≤ P ∧ P ≤ 2) ∨ (K9 == 0) = false := by
      by_cases h : K9 = 0
      · exact .inl ⟨h, HLAP.out h⟩
      · exact .inr (by simp [h])
    have hcase4 : (K4 = 0 ∧ 0 ≤ r4 ∧ r4 < 1000 ∧ K4' = 0 ∧ R' = !R) ∨ (K4 = 0 ∧ 1000 ≤ r4) ∨ (K4 == 0) = false := by
      by_cases h : K4 = 0
      · by_cases h2 : r4 < 1000
        · exact .inl ⟨h, HLOW.out h, h2, HNEXT.out h h2⟩
        · exact .inr (.inl ⟨h, by omega⟩)
      · exact .inr (.inr (by simp [h]))
    have hcase1 : (K = 0 ∧ V = true ∧ 0 ≤ S1 ∧ S1 ≤ 10000 ∧ Hid (∀ W, Calls Try.prog 26 #[.slice a3 L.length c3] W (RetV (.int .i64 (S1 - 2 * (L.length : Int))) W) ∨ ¬ Ints W a3 L.length L)) ∨ (K != 0) = true := by
      by_cases h : K = 0
      · obtain ⟨⟨h1, h2⟩, h3, h4, h5⟩ := HSUM.out h
        refine .inl ⟨h, h3, h4, h5, Lib.hid (fun W => ?_)⟩
        by_cases hi : Ints W a3 L.length L
        · left
          have := l_f6sum a3 L.length c3 L W hi h2 (by omega)
          rwa [h1] at this
        · exact .inr hi
      · exact .inr (by simp [h])
    clear HLAP HLOW HNEXT HSUM HK9
    rcases hcase9 with ⟨rfl, p1, p2⟩ | h9
    all_goals
      rcases hcase4 with ⟨rfl, q1, q2, rfl, rfl⟩ | ⟨rfl, q1⟩ | h4
    all_goals
      rcases hcase1 with ⟨rfl, rfl, u1, u2, HF6⟩ | h1
    all_goals
      have HEc := HE11
      have HI1c := Lib.hid (HI1.out.ext HG11.out)
      have HI4c := HI4
      have HMc := HMM
      go_wp2_with (first
        | (go_at_call 24; refine (HFI.out _ HLL.out HMM.out).mono ?_; rintro e w12 ⟨rfl, e12⟩; have HEc := Lib.hid (HEc.out.trans e12); have HI1c := Lib.hid (HI1c.out.ext e12); have HI4c := Lib.hid (HI4c.out.ext e12); have HMc := Lib.hid (HMc.out.ext e12); replace A1 := A1.ext e12; replace A4 := A4.ext e12; clear e12)
        | (go_at_call 19; refine (HN.out _ HI4c.out).mono ?_; rintro e w13 ⟨rfl, e13⟩; have HEc := Lib.hid (HEc.out.trans e13); have HI1c := Lib.hid (HI1c.out.ext e13); have HMc := Lib.hid (HMc.out.ext e13); replace A1 := A1.ext e13; clear e13)
        | (go_at_call 25; refine (HR.out _ HI1c.out).mono ?_; rw [sel_t rfl, sel_t rfl]; rintro e w14 ⟨rfl, e14⟩; have HEc := Lib.hid (HEc.out.trans e14); have HMc := Lib.hid (HMc.out.ext e14); clear e14)
        | (go_at_call 26; refine ((HF6.out _).resolve_right (fun h => h HMc.out)).mono ?_; rintro e w15 ⟨rfl, rfl⟩))
      go_ret
      exact ⟨rfl, HEc.out⟩
/-! ### the row's step: written by a program of mine (frame.py) after the guide's own frame -/
namespace fnQuoins
open Go.ChangeShapes Go.WideShapes Go.ChangeAt Go.RowKit Go.Joins
open Go.ChangeMaps (open_string shut_string)
set_option linter.unusedVariables false
theorem own : ownKnob Try.prog.godebug = none := by kernel_rfl
theorem laidOut : laidOutB Try.prog = true := by kernel_rfl
set_option maxRecDepth 100000 in
theorem lifted (os : Os) (started : os.Started) (H : Type) (enc : TypeId × Value → H) :
    ReturnsInHanded {} Try.checked os 4 .any (Rows.fnQuoinsSpec.pre6 enc Try.prog Try.f4 Rows.fnQuoinsRow.domain false) (Rows.fnQuoinsSpec.post enc Try.prog Try.f4 false true false false) := by
  refine returnsInHanded_of_change (C := Try.checked) own started (by kernel_rfl) Try.func4
    (ChangeSpec.witness6 (enc := enc) (C := Try.checked) false ⟨#[], #[.slice none 0 0], []⟩ 8 (by kernel_rfl) (by kernel_rfl) (by kernel_rfl) (by kernel_rfl)) ?_
  intro W base args ds gs before hval0 hW hcnd _
  have hval : ∀ (j : Nat) t v, Try.f4.params[j]? = some t → args[j]? = some v → Value.okWide Try.prog W .any base t v := hval0
  have hW' := hW
  obtain ⟨p, q, hA0, hV, rfl, hfz, hnd⟩ := hW
  have hA : DataW.TrodAll enc Try.prog W 0 (fun _ => true) true Try.f4.params.toList args.toList ds p := hA0
  rw [Try.params4] at hA hval
  obtain ⟨v0, vs0, d0, ds0, p0, q0, hargs, rfl, rfl, h0, r0⟩ := trodAll_cons hA
  obtain ⟨rfl, rfl, rfl⟩ := trodAll_nil r0
  obtain rfl : args = #[v0] := by cases args; simp_all
  obtain ⟨rfl, rfl⟩ := trodVars_none hV
  have k0 := h0
  have lt0 : ∀ x ∈ p0, x.block < W.heap.size := by obtain ⟨m, hm⟩ := k0; exact DataW.trod_lt m _ _ _ hm
  obtain ⟨b0, l0, c0, rfl⟩ := okWide_slice Try.underlying33 (hval 0 33 v0 rfl rfl)
  obtain ⟨z0, w0⟩ := u8x_of_trod Try.underlying33 Try.underlying5 (by kernel_rfl) h0
  clear hA0 hval0
  refine (walk_FnQuoins b0 l0 c0 z0 W w0).mono fun e W' ⟨he, bel⟩ => ?_
  subst he
  exact ⟨_, rfl, _, _, _, [], _, [], hW', trodAll_mk1 (shut_bool Try.underlying4 _), (trodAll_cons_mk (Below.trod laidOut (by kernel_rfl) (of_decide_eq_true (by kernel_rfl)) k0 bel lt0) trodAll_mk0), rfl, bel.frame _, fun h => by cases h⟩
theorem over : Rows.fnQuoinsRow.holds Try.pinned (OpenSpec.ofChange Rows.fnQuoinsSpec) :=
  OpenClaim.holds_of_wide 4 Try.f4 rfl rfl rfl rfl rfl rfl rfl ⟨rfl, rfl, rfl, rfl, rfl⟩ rfl rfl rfl rfl rfl (by kernel_rfl) Try.func4 (by kernel_rfl)
    (of_decide_eq_true (by kernel_rfl)) (by unfold Func.isWrapper; first | (rw [if_pos (by decide +kernel)]; kernel_rfl) | (rw [if_neg (by decide +kernel)]; exact ⟨rfl, rfl⟩))
    (fun os started H enc _ => lifted os started H enc)
theorem proved : Rows.FnQuoinsSaid := over
#print axioms proved
end fnQuoins
end Go.Proofs.Ytlgdaddplibglaa
