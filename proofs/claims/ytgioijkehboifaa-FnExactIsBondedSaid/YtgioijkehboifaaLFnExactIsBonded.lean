/- For every list of courses and every lap the law FnExactIsBonded answers true: the program's IsBonded returns what the reference's returns, and leaves its argument as it was. No condition. -/
import Derived.Test.YtgioijkehboifaaClashI
import Derived.Test.YtgioijkehboifaaOpenS
namespace Go.Proofs.Ytgioijkehboifaa
open Go.RowKit
set_option linter.unusedSimpArgs false
set_option linter.unusedVariables false
set_option linter.unnecessarySimpa false

theorem ibV_tup (ss : List ByteArray) (lap : Int) : ∃ (r0 : Bool) (r1 : Int), ibV ss lap = .tuple #[.bool r0, .int .i64 r1] := by
  unfold ibV
  split
  · exact ⟨_, _, rfl⟩
  · exact ⟨_, _, rfl⟩
set_option maxHeartbeats 800000 in
theorem walk_FnExactIsBonded (ao : Option Addr) (n c : Nat) (xs : List ByteArray) (lap : Int) (w : World) (hx : Strs w ao n xs) (_ : IsI64 lap) :
    Calls Try.prog 9 #[.slice ao n c, .int .i64 lap] w fun e w' => e = .returned (.bool true) ∧ Below w.heap.size w w' := by
  have hxm := hx.2.1
  obtain ⟨L, hL⟩ : ∃ L, leftS 1048576 n xs = L := ⟨_, rfl⟩
  by_cases hn : L < 0
  · go_enter Try.func9, Try.ntmps9
    go_wp2_with (go_at_call 15; refine (l_szStringS _ _ _ xs _ _ hx (by omega) (by omega)).mono ?_; rw [hL]; rintro e w1 ⟨rfl, rfl⟩)
    go_ret
    exact ⟨rfl, Ext.refl _⟩
  · have hlen : n ≤ 1048576 := by have := leftS_len (hL ▸ hn); omega
    have hsm : Small xs := fun s hs => by have := leftS_small (hL ▸ hn) s hs; omega
    obtain ⟨r0, r1, hv⟩ := ibV_tup xs lap
    have HS := Lib.hid (fun ao n c W (h : Strs W ao n xs) => s_IsBonded ao n c xs lap W h hsm)
    have HI := Lib.hid (fun ao n c W (h : Strs W ao n xs) => i_IsBonded ao n c xs lap W h hsm)
    rw [hv] at HS HI
    clear hv
    go_enter Try.func9, Try.ntmps9
    go_wp2_with (go_at_call 15; refine (l_szStringS _ _ _ xs _ _ hx (by omega) (by omega)).mono ?_; rw [hL]; rintro e w1 ⟨rfl, rfl⟩)
    refine (l_toStringS _ _ _ xs _ hx hlen).mono ?_
    rintro e w1 ⟨a1, c1, rfl, o1, e1⟩
    go_wp2_with fail
    refine (HS.out _ _ _ _ o1.strs).mono ?_
    rintro e w2 ⟨rfl, e2⟩
    have e02 := e1.trans e2
    go_wp2_with fail
    refine (l_toStringS _ _ _ xs _ (hx.ext e02) hlen).mono ?_
    rintro e w3 ⟨a3, c3, rfl, o3, e3⟩
    go_wp2_with fail
    refine (HI.out _ _ _ _ o3.strs).mono ?_
    rintro e w4 ⟨rfl, e4⟩
    have e04 := (e02.trans e3).trans e4
    go_wp2_with fail
    refine (l_toStringS _ _ _ xs _ (hx.ext e04) hlen).mono ?_
    rintro e w5 ⟨a5, c5, rfl, o5, e5⟩
    go_wp2_with fail
    refine (l_eqStringS _ _ _ _ _ _ xs xs _ ((o3.ext e4).ext e5).strs o5.strs).mono ?_
    rintro e w6 ⟨rfl, e6⟩
    rw [show decide (xs = xs) = true by simp]
    go_wp2
    go_ret
    exact ⟨rfl, (e04.trans e5).trans e6⟩

/-! ### the row's step: written by a program of mine (frame.py) after the guide's own frame -/
namespace fnExactIsBonded
open Go.ChangeShapes Go.WideShapes Go.ChangeAt Go.RowKit Go.Joins
open Go.ChangeMaps (open_string shut_string)
set_option linter.unusedVariables false
theorem own : ownKnob Try.prog.godebug = none := by kernel_rfl
theorem laidOut : laidOutB Try.prog = true := by kernel_rfl
set_option maxRecDepth 100000 in
theorem lifted (os : Os) (started : os.Started) (H : Type) (enc : TypeId × Value → H) :
    ReturnsInHanded {} Try.checked os 9 .any (Rows.fnExactIsBondedSpec.pre6 enc Try.prog Try.f9 Rows.fnExactIsBondedRow.domain false) (Rows.fnExactIsBondedSpec.post enc Try.prog Try.f9 false true false false) := by
  refine returnsInHanded_of_change (C := Try.checked) own started (by kernel_rfl) Try.func9
    (ChangeSpec.witness6 (enc := enc) (C := Try.checked) false ⟨#[], #[.slice none 0 0, .int .i64 0], []⟩ 8 (by kernel_rfl) (by kernel_rfl) (by kernel_rfl) (by kernel_rfl)) ?_
  intro W base args ds gs before hval0 hW hcnd _
  have hval : ∀ (j : Nat) t v, Try.f9.params[j]? = some t → args[j]? = some v → Value.okWide Try.prog W .any base t v := hval0
  have hW' := hW
  obtain ⟨p, q, hA0, hV, rfl, hfz, hnd⟩ := hW
  have hA : DataW.TrodAll enc Try.prog W 0 (fun _ => true) true Try.f9.params.toList args.toList ds p := hA0
  rw [Try.params9] at hA hval
  obtain ⟨v0, vs0, d0, ds0, p0, q0, hargs, rfl, rfl, h0, r0⟩ := trodAll_cons hA
  obtain ⟨v1, vs1, d1, ds1, p1, q1, rfl, rfl, rfl, h1, r1⟩ := trodAll_cons r0
  obtain ⟨rfl, rfl, rfl⟩ := trodAll_nil r1
  obtain rfl : args = #[v0, v1] := by cases args; simp_all
  obtain ⟨rfl, rfl⟩ := trodVars_none hV
  have k0 := h0
  have lt0 : ∀ x ∈ p0, x.block < W.heap.size := by obtain ⟨m, hm⟩ := k0; exact DataW.trod_lt m _ _ _ hm
  have k1 := h1
  have lt1 : ∀ x ∈ p1, x.block < W.heap.size := by obtain ⟨m, hm⟩ := k1; exact DataW.trod_lt m _ _ _ hm
  obtain ⟨b0, l0, c0, rfl⟩ := okWide_slice Try.underlying22 (hval 0 22 v0 rfl rfl)
  obtain ⟨z0, w0⟩ := strs_of_trod Try.underlying22 Try.underlying9 (by kernel_rfl) h0
  obtain ⟨a1, rfl, rfl, rfl, w1⟩ := open_int Try.underlying2 (hval 1 2 v1 rfl rfl) h1
  clear hA0 hval0
  refine (walk_FnExactIsBonded b0 l0 c0 z0 a1 W w0 (i64_of_wf w1)).mono fun e W' ⟨he, bel⟩ => ?_
  subst he
  exact ⟨_, rfl, _, _, _, [], _, [], hW', trodAll_mk1 (shut_bool Try.underlying4 _), (trodAll_cons_mk (Below.trod laidOut (by kernel_rfl) (of_decide_eq_true (by kernel_rfl)) k0 bel lt0) (trodAll_cons_mk (Below.trod laidOut (by kernel_rfl) (of_decide_eq_true (by kernel_rfl)) k1 bel lt1) trodAll_mk0)), rfl, bel.frame _, fun h => by cases h⟩
theorem over : Rows.fnExactIsBondedRow.holds Try.pinned (OpenSpec.ofChange Rows.fnExactIsBondedSpec) :=
  OpenClaim.holds_of_wide 9 Try.f9 rfl rfl rfl rfl rfl rfl rfl ⟨rfl, rfl, rfl, rfl, rfl⟩ rfl rfl rfl rfl rfl (by kernel_rfl) Try.func9 (by kernel_rfl)
    (of_decide_eq_true (by kernel_rfl)) (by unfold Func.isWrapper; first | (rw [if_pos (by decide +kernel)]; kernel_rfl) | (rw [if_neg (by decide +kernel)]; exact ⟨rfl, rfl⟩))
    (fun os started H enc _ => lifted os started H enc)
theorem proved : Rows.FnExactIsBondedSaid := over
#print axioms proved
end fnExactIsBonded
end Go.Proofs.Ytgioijkehboifaa
