/- For every two rows of bytes the law FnBestCourses answers true: a course with an even length needs no cut, one with an odd length needs one, and the best one has no more pieces than a drawn one with as few cuts. No condition. -/
import Derived.Test.YtehcmocknmfhcaaBestLaw
import Derived.Test.YtehcmocknmfhcaaA2
import Derived.Test.YtehcmocknmfhcaaOpenU
namespace Go.Proofs.Ytehcmocknmfhcaa
open Go.RowKit
set_option linter.unusedSimpArgs false
set_option linter.unusedVariables false
set_option linter.unnecessarySimpa false

theorem was_cut : ∀ (l : List UInt8), l.all isPc = true → cutN l ≤ wasN l ∧ wasN l ≤ 3 * cutN l
  | [], _ => by simp [wasN, cutN]
  | b :: l, h => by
    rw [List.all_cons, Bool.and_eq_true] at h
    have ih := was_cut l h.2
    have e : wasN (b :: l) = wasB b + wasN l := by simp [wasN]
    rw [e, cutN_cons]
    cases hc : cutB b with
    | true =>
      have h1 := was_bd hc h.1
      have h2 : wasB b = 4 - qB b := by unfold wasB; rw [hc]; rfl
      rw [h2, if_pos rfl]
      omega
    | false =>
      have h2 : wasB b = 0 := by unfold wasB; rw [hc]; rfl
      rw [h2, if_neg (by decide)]
      omega
theorem valid_of {l : List UInt8} {L : Nat} (h : l.all isPc = true) (hq : qSum l = L) (h1 : 1 ≤ L) (h2 : L ≤ 40) : validC l = true := by
  have h3 := qSum_ge' h
  have h4 : l ≠ [] := fun e => by rw [e, qSum_nil] at hq; omega
  have h5 : 0 < l.length := List.length_pos_iff.2 h4
  unfold validC
  rw [h, show inB l.length 1 60 = true by simp [inB]; omega]
  simp; omega
set_option maxRecDepth 100000 in
set_option maxHeartbeats 4000000 in
theorem walk_FnBestCourses (ao : Option Addr) (n c : Nat) (bs : List UInt8) (bo : Option Addr) (m d : Nat) (cs : List UInt8) (w : World) (hx : U8x w ao n bs) (hy : U8x w bo m cs) :
    Calls Try.prog 7 #[.slice ao n c, .slice bo m d] w fun e w' => e = .returned (.bool true) ∧ Below w.heap.size w w' := by
  have HLO := Lib.hid (fun W => l_a2Long ao bo n m c d W hx.2.1 hy.2.1)
  have hlong : longB n m = false → n ≤ 3000 ∧ m ≤ 3000 := fun h => by unfold longB at h; simp at h; omega
  cases hl : longB n m with
  | true =>
    rw [hl] at HLO
    clear hx hy hlong hl
    go_enter Try.func7, Try.ntmps7
    go_wp2_with (go_at_call 20; refine (HLO.out _).mono ?_; rintro e w' ⟨rfl, rfl⟩)
    go_ret
    exact ⟨rfl, Below.refl _ _⟩
  | false =>
    rw [hl] at HLO
    have ⟨hn, hm⟩ := hlong hl
    have HX := Lib.hid (hx.small (by omega))
    have HY := Lib.hid (hy.small (by omega))
    clear hx hy hlong hl hn hm
    go_enter Try.func7, Try.ntmps7
    go_wp2_with (go_at_call 20; refine (HLO.out _).mono ?_; rintro e w' ⟨rfl, rfl⟩)
    refine (s_A2Length bo m d cs w HY.out).mono ?_
    rintro e w1 ⟨L, L1, L2, rfl, e1⟩
    have HE1 := Lib.hid e1
    clear e1
    obtain ⟨t, hT, tpc, tsum, tcut, tlen, hC, hmin⟩ := best_is L L1 L2
    have hval := valid_of tpc tsum L1 L2
    have hwas := was_cut t tpc
    have hin : inB (L : Int) 1 80 = true := by simp [inB]; omega
    have hf : ((L % 2 : Nat) : Int) = (L : Int) % 2 := by omega
    rw [hf] at tcut hC hmin
    have hf2 : 0 ≤ (L : Int) % 2 ∧ (L : Int) % 2 ≤ 1 := by omega
    have hB := i_BestCourse L w1
    rw [hT, hin] at hB
    have hF := fun W => i_FewestCuts L W
    rw [hC, hin] at hF
    have hsz := mkS_size t
    obtain ⟨z, hz⟩ : ∃ z, mkS t = z := ⟨_, rfl⟩
    have hbz : bts z = t := by rw [← hz]; exact bts_mkS t
    rw [hz] at hB hsz
    have hCL := fun W => s_CourseLength z (by omega) W
    have hCU := fun W => s_CutsIn z (by omega) W
    have hWA := fun W => i_WastedQuarters z (by omega) W
    rw [hbz, hval, tsum] at hCL
    rw [hbz, hval, tcut] at hCU
    rw [hbz, hval] at hWA
    obtain ⟨wq, hwq⟩ : ∃ wq, wasN t = wq := ⟨_, rfl⟩
    rw [hwq] at hWA hwas
    rw [tcut] at hwas
    have HB : Hid (Calls Try.prog 33 #[.int .i64 L] w1 (RetTC z 0 w1)) := Lib.hid hB
    have HF : Hid (∀ W, Calls Try.prog 34 #[.int .i64 L] W (PairE ((L : Int) % 2) 0 W)) := Lib.hid hF
    have HCL : Hid (∀ W, Calls Try.prog 26 #[.string z] W (Pair L 0 W)) := Lib.hid hCL
    have HCU : Hid (∀ W, Calls Try.prog 35 #[.string z] W (Pair ((L : Int) % 2) 0 W)) := Lib.hid hCU
    have HWA : Hid (∀ W, Calls Try.prog 37 #[.string z] W (Pair wq 0 W)) := Lib.hid hWA
    have HBZ := Lib.hid hbz
    have HMIN := Lib.hid hmin
    obtain ⟨fv, hfv⟩ : ∃ fv, (L : Int) % 2 = fv := ⟨_, rfl⟩
    have HFV := Lib.hid hfv
    rw [hfv] at hf2 hwas HF HCU HMIN
    have HSZ := Lib.hid hsz
    clear hB hF hCL hCU hWA hbz hmin hz hT tpc tsum tcut hC hval hf hwq hin hfv hsz
    have u1 : fv ≤ wq := hwas.1
    have u2 : wq ≤ 3 * fv := hwas.2
    have eq1 := HFV.out
    go_wp2_with fail
    refine HB.out.mono ?_
    rintro e w2 ⟨rfl, e2⟩
    have HE2 := Lib.hid (HE1.out.trans e2)
    clear e2
    go_wp2_with fail
    refine (HF.out _).mono ?_
    rintro e w3 ⟨rfl, e3⟩
    have HE3 := Lib.hid (HE2.out.trans e3)
    clear e3
    go_wp2_with (first | (go_at_call 26; refine (HCL.out _).mono ?_; rintro e w' ⟨rfl, rfl⟩) | (go_at_call 35; refine (HCU.out _).mono ?_; rintro e w' ⟨rfl, rfl⟩))
    refine (s_A2Course ao n c bs L _ (HX.out.ext HE3.out) L1 L2).mono ?_
    rintro e w4 ⟨l, rfl, lpc, lsum, e4⟩
    have HE4 := Lib.hid (HE3.out.trans e4)
    have hlv := valid_of lpc lsum L1 L2
    have hdis := HMIN.out l lpc lsum
    have hos := mkS_size l
    have hol := qSum_ge' lpc
    obtain ⟨o, ho⟩ : ∃ o, mkS l = o := ⟨_, rfl⟩
    have hbo : bts o = l := by rw [← ho]; exact bts_mkS l
    rw [ho] at hos
    rw [ho]
    have hCO := fun W => s_CutsIn o (by omega) W
    rw [hbo, hlv] at hCO
    obtain ⟨cv, hcv⟩ : ∃ cv, cutN l = cv := ⟨_, rfl⟩
    rw [hcv] at hCO hdis
    have HCO : Hid (∀ W, Calls Try.prog 35 #[.string o] W (Pair cv 0 W)) := Lib.hid hCO
    have HSO := Lib.hid hos
    have HBO := Lib.hid hbo
    have HLT := Lib.hid HSZ.out
    have HDIS := Lib.hid hdis
    clear e4 hlv hos hol hbo hCO hcv hdis lpc lsum ho
    by_cases hgt : fv < cv
    · go_wp2_with (first | (go_at_call 35; refine (HCO.out _).mono ?_; rintro e w' ⟨rfl, rfl⟩) | (go_at_call 37; refine (HWA.out _).mono ?_; rintro e w' ⟨rfl, rfl⟩))
      go_ret
      exact ⟨rfl, HE4.out⟩
    · rcases HDIS.out with h | h | ⟨h, h2⟩
      · exact absurd h hgt
      · have hlt : (z.size : Int) < (o.size : Int) := by have := HSZ.out; have := HSO.out; omega
        clear h
        go_wp2_with (first | (go_at_call 35; refine (HCO.out _).mono ?_; rintro e w' ⟨rfl, rfl⟩) | (go_at_call 37; refine (HWA.out _).mono ?_; rintro e w' ⟨rfl, rfl⟩))
        go_ret
        exact ⟨rfl, HE4.out⟩
      · have hlt : ¬ (z.size : Int) < (o.size : Int) := by have := HSZ.out; have := HSO.out; omega
        have heq : ((z.size : Int) == (o.size : Int)) = true := by have := HSZ.out; have := HSO.out; simp; omega
        have hle : (Op.bytesLess z.toList o.toList || z.toList == o.toList) = true := by
          have e1 : z.toList = t := by rw [ByteArray.toList_eq]; exact HBZ.out
          have e2 : o.toList = l := by rw [ByteArray.toList_eq]; exact HBO.out
          rw [e1, e2]
          rcases h2 with h2 | h2
          · rw [h2]; rfl
          · rw [h2]; simp
        clear h h2
        go_wp2_with (first | (go_at_call 35; refine (HCO.out _).mono ?_; rintro e w' ⟨rfl, rfl⟩) | (go_at_call 37; refine (HWA.out _).mono ?_; rintro e w' ⟨rfl, rfl⟩))
        go_ret
        exact ⟨rfl, HE4.out⟩

/-! ### the row's step: written by a program of mine (frame.py) after the guide's own frame -/
namespace fnBestCourses
open Go.ChangeShapes Go.WideShapes Go.ChangeAt Go.RowKit Go.Joins
open Go.ChangeMaps (open_string shut_string)
set_option linter.unusedVariables false
theorem own : ownKnob Try.prog.godebug = none := by kernel_rfl
theorem laidOut : laidOutB Try.prog = true := by kernel_rfl
set_option maxRecDepth 100000 in
theorem lifted (os : Os) (started : os.Started) (H : Type) (enc : TypeId × Value → H) :
    ReturnsInHanded {} Try.checked os 7 .any (Rows.fnBestCoursesSpec.pre6 enc Try.prog Try.f7 Rows.fnBestCoursesRow.domain false) (Rows.fnBestCoursesSpec.post enc Try.prog Try.f7 false true false false) := by
  refine returnsInHanded_of_change (C := Try.checked) own started (by kernel_rfl) Try.func7
    (ChangeSpec.witness6 (enc := enc) (C := Try.checked) false ⟨#[], #[.slice none 0 0, .slice none 0 0], []⟩ 8 (by kernel_rfl) (by kernel_rfl) (by kernel_rfl) (by kernel_rfl)) ?_
  intro W base args ds gs before hval0 hW hcnd _
  have hval : ∀ (j : Nat) t v, Try.f7.params[j]? = some t → args[j]? = some v → Value.okWide Try.prog W .any base t v := hval0
  have hW' := hW
  obtain ⟨p, q, hA0, hV, rfl, hfz, hnd⟩ := hW
  have hA : DataW.TrodAll enc Try.prog W 0 (fun _ => true) true Try.f7.params.toList args.toList ds p := hA0
  rw [Try.params7] at hA hval
  obtain ⟨v0, vs0, d0, ds0, p0, q0, hargs, rfl, rfl, h0, r0⟩ := trodAll_cons hA
  obtain ⟨v1, vs1, d1, ds1, p1, q1, rfl, rfl, rfl, h1, r1⟩ := trodAll_cons r0
  obtain ⟨rfl, rfl, rfl⟩ := trodAll_nil r1
  obtain rfl : args = #[v0, v1] := by cases args; simp_all
  obtain ⟨rfl, rfl⟩ := trodVars_none hV
  have k0 := h0
  have lt0 : ∀ x ∈ p0, x.block < W.heap.size := by obtain ⟨m, hm⟩ := k0; exact DataW.trod_lt m _ _ _ hm
  have k1 := h1
  have lt1 : ∀ x ∈ p1, x.block < W.heap.size := by obtain ⟨m, hm⟩ := k1; exact DataW.trod_lt m _ _ _ hm
  obtain ⟨b0, l0, c0, rfl⟩ := okWide_slice Try.underlying40 (hval 0 40 v0 rfl rfl)
  obtain ⟨z0, w0⟩ := u8x_of_trod Try.underlying40 Try.underlying5 (by kernel_rfl) h0
  obtain ⟨b1, l1, c1, rfl⟩ := okWide_slice Try.underlying40 (hval 1 40 v1 rfl rfl)
  obtain ⟨z1, w1⟩ := u8x_of_trod Try.underlying40 Try.underlying5 (by kernel_rfl) h1
  clear hA0 hval0
  refine (walk_FnBestCourses b0 l0 c0 z0 b1 l1 c1 z1 W w0 w1).mono fun e W' ⟨he, bel⟩ => ?_
  subst he
  exact ⟨_, rfl, _, _, _, [], _, [], hW', trodAll_mk1 (shut_bool Try.underlying4 _), (trodAll_cons_mk (Below.trod laidOut (by kernel_rfl) (of_decide_eq_true (by kernel_rfl)) k0 bel lt0) (trodAll_cons_mk (Below.trod laidOut (by kernel_rfl) (of_decide_eq_true (by kernel_rfl)) k1 bel lt1) trodAll_mk0)), rfl, bel.frame _, fun h => by cases h⟩
theorem over : Rows.fnBestCoursesRow.holds Try.pinned (OpenSpec.ofChange Rows.fnBestCoursesSpec) :=
  OpenClaim.holds_of_wide 7 Try.f7 rfl rfl rfl rfl rfl rfl rfl ⟨rfl, rfl, rfl, rfl, rfl⟩ rfl rfl rfl rfl rfl (by kernel_rfl) Try.func7 (by kernel_rfl)
    (of_decide_eq_true (by kernel_rfl)) (by unfold Func.isWrapper; first | (rw [if_pos (by decide +kernel)]; kernel_rfl) | (rw [if_neg (by decide +kernel)]; exact ⟨rfl, rfl⟩))
    (fun os started H enc _ => lifted os started H enc)
theorem proved : Rows.FnBestCoursesSaid := over
#print axioms proved
end fnBestCourses
end Go.Proofs.Ytehcmocknmfhcaa
