/- For every two texts and every number the law FnExactWallOf answers true: the program's WallOf returns what the reference's returns, in memory of its own. No condition. -/
import Derived.Test.YtgioijkehboifaaWallOf
import Derived.Test.YtgioijkehboifaaOpenS
namespace Go.Proofs.Ytgioijkehboifaa
open Go.RowKit
set_option linter.unusedSimpArgs false
set_option linter.unusedVariables false
set_option linter.unnecessarySimpa false

theorem dec_self (xs : List ByteArray) : decide (xs = xs) = true := by simp
set_option maxHeartbeats 800000 in
theorem walk_FnExactWallOf (s t : ByteArray) (k : Int) (w : World) (hs : s.size ≤ maxLen) (ht : t.size ≤ maxLen) (_ : IsI64 k) :
    Calls Try.prog 6 #[.string s, .string t, .int .i64 k] w fun e w' => e = .returned (.bool true) ∧ Below w.heap.size w w' := by
  have hs' : s.size ≤ 9223372036854775807 := by unfold maxLen at hs; omega
  have ht' : t.size ≤ 9223372036854775807 := by unfold maxLen at ht; omega
  by_cases hn : s.size ≤ 1048576
  · by_cases hm : t.size ≤ 1048576
    · have hl := wofL_length s t k
      generalize hxs : wofL s t k = xs at hl
      generalize hcode : wofC s t k = code
      have HS : Hid (∀ w, Calls Try.prog 24 #[.string s, .string t, .int .i64 k] w (RetStrsC xs code w)) := by intro w; rw [← hxs, ← hcode]; exact s_WallOf s t k hs' ht' w
      have HI : Hid (∀ w, Calls Try.prog 25 #[.string s, .string t, .int .i64 k] w (RetStrsC xs code w)) := by intro w; rw [← hxs, ← hcode]; exact i_WallOf s t k hs' ht' w
      clear hxs hcode
      go_enter Try.func6, Try.ntmps6
      go_wp2_with (go_at_call 24; refine (HS.out _).mono ?_; rintro e w1 ⟨a1, c1, rfl, o1, e1⟩)
      refine (HI.out _).mono ?_
      rintro e w2 ⟨a2, c2, rfl, o2, e2⟩
      go_wp2_with fail
      refine (l_eqStringS _ _ _ _ _ _ xs xs _ o2.strs (o1.ext e2).strs).mono ?_
      rintro e w3 ⟨rfl, e3⟩
      rw [dec_self]
      go_wp2_with fail
      refine (l_markStringS w1.heap.size _ _ _ _ xs _ rfl (o2.ext e3) (by omega) (by omega) (by omega)).mono ?_
      rintro e w4 ⟨rfl, o4, g4⟩
      have o1' := (o1.ext (e2.trans e3)).apart g4 (fun k k' hk hk' => by have := (o1.blk k hk).2; have := (o2.blk k' hk').1; omega)
      have e24 : Ext w1 w4 := (e2.trans e3).grown g4 (fun k hk => (o2.blk k hk).1)
      go_wp2_with fail
      refine (l_heldStringS _ _ _ _ _ (by simpa [markSs_length] using o4.strs) (by omega) (by omega) (by omega)).mono ?_
      rintro e w5 ⟨rfl, e5⟩
      go_wp2_with fail
      refine (HI.out _).mono ?_
      rintro e w6 ⟨a6, c6, rfl, o6, e6⟩
      go_wp2_with fail
      refine (l_eqStringS _ _ _ _ _ _ xs xs _ o6.strs ((o1'.ext e5).ext e6).strs).mono ?_
      rintro e w7 ⟨rfl, e7⟩
      rw [dec_self]
      go_wp2_with fail
      refine (l_heldStringS _ _ _ _ _ (by simpa [markSs_length] using (((o4.ext e5).ext e6).ext e7).strs) (by omega) (by omega) (by omega)).mono ?_
      rintro e w8 ⟨rfl, e8⟩
      go_wp2
      go_ret
      exact ⟨rfl, ((((e1.trans e24).trans e5).trans e6).trans e7).trans e8⟩
    · go_enter Try.func6, Try.ntmps6
      go_wp2
      go_ret
      exact ⟨rfl, Below.refl _ _⟩
  · go_enter Try.func6, Try.ntmps6
    go_wp2
    go_ret
    exact ⟨rfl, Below.refl _ _⟩

/-! ### the row's step: written by a program of mine (frame.py) after the guide's own frame -/
namespace fnExactWallOf
open Go.ChangeShapes Go.WideShapes Go.ChangeAt Go.RowKit Go.Joins
open Go.ChangeMaps (open_string shut_string)
set_option linter.unusedVariables false
theorem own : ownKnob Try.prog.godebug = none := by kernel_rfl
theorem laidOut : laidOutB Try.prog = true := by kernel_rfl
set_option maxRecDepth 100000 in
theorem lifted (os : Os) (started : os.Started) (H : Type) (enc : TypeId × Value → H) :
    ReturnsInHanded {} Try.checked os 6 .any (Rows.fnExactWallOfSpec.pre6 enc Try.prog Try.f6 Rows.fnExactWallOfRow.domain false) (Rows.fnExactWallOfSpec.post enc Try.prog Try.f6 false true false false) := by
  refine returnsInHanded_of_change (C := Try.checked) own started (by kernel_rfl) Try.func6
    (ChangeSpec.witness6 (enc := enc) (C := Try.checked) false ⟨#[], #[.string ByteArray.empty, .string ByteArray.empty, .int .i64 0], []⟩ 8 (by kernel_rfl) (by kernel_rfl) (by kernel_rfl) (by kernel_rfl)) ?_
  intro W base args ds gs before hval0 hW hcnd _
  have hval : ∀ (j : Nat) t v, Try.f6.params[j]? = some t → args[j]? = some v → Value.okWide Try.prog W .any base t v := hval0
  have hW' := hW
  obtain ⟨p, q, hA0, hV, rfl, hfz, hnd⟩ := hW
  have hA : DataW.TrodAll enc Try.prog W 0 (fun _ => true) true Try.f6.params.toList args.toList ds p := hA0
  rw [Try.params6] at hA hval
  obtain ⟨v0, vs0, d0, ds0, p0, q0, hargs, rfl, rfl, h0, r0⟩ := trodAll_cons hA
  obtain ⟨v1, vs1, d1, ds1, p1, q1, rfl, rfl, rfl, h1, r1⟩ := trodAll_cons r0
  obtain ⟨v2, vs2, d2, ds2, p2, q2, rfl, rfl, rfl, h2, r2⟩ := trodAll_cons r1
  obtain ⟨rfl, rfl, rfl⟩ := trodAll_nil r2
  obtain rfl : args = #[v0, v1, v2] := by cases args; simp_all
  obtain ⟨rfl, rfl⟩ := trodVars_none hV
  have k0 := h0
  have lt0 : ∀ x ∈ p0, x.block < W.heap.size := by obtain ⟨m, hm⟩ := k0; exact DataW.trod_lt m _ _ _ hm
  have k1 := h1
  have lt1 : ∀ x ∈ p1, x.block < W.heap.size := by obtain ⟨m, hm⟩ := k1; exact DataW.trod_lt m _ _ _ hm
  have k2 := h2
  have lt2 : ∀ x ∈ p2, x.block < W.heap.size := by obtain ⟨m, hm⟩ := k2; exact DataW.trod_lt m _ _ _ hm
  obtain ⟨a0, rfl, rfl, rfl, w0⟩ := open_string Try.underlying9 (hval 0 9 v0 rfl rfl) h0
  obtain ⟨a1, rfl, rfl, rfl, w1⟩ := open_string Try.underlying9 (hval 1 9 v1 rfl rfl) h1
  obtain ⟨a2, rfl, rfl, rfl, w2⟩ := open_int Try.underlying2 (hval 2 2 v2 rfl rfl) h2
  clear hA0 hval0
  refine (walk_FnExactWallOf a0 a1 a2 W w0 w1 (i64_of_wf w2)).mono fun e W' ⟨he, bel⟩ => ?_
  subst he
  exact ⟨_, rfl, _, _, _, [], _, [], hW', trodAll_mk1 (shut_bool Try.underlying4 _), (trodAll_cons_mk (Below.trod laidOut (by kernel_rfl) (of_decide_eq_true (by kernel_rfl)) k0 bel lt0) (trodAll_cons_mk (Below.trod laidOut (by kernel_rfl) (of_decide_eq_true (by kernel_rfl)) k1 bel lt1) (trodAll_cons_mk (Below.trod laidOut (by kernel_rfl) (of_decide_eq_true (by kernel_rfl)) k2 bel lt2) trodAll_mk0))), rfl, bel.frame _, fun h => by cases h⟩
theorem over : Rows.fnExactWallOfRow.holds Try.pinned (OpenSpec.ofChange Rows.fnExactWallOfSpec) :=
  OpenClaim.holds_of_wide 6 Try.f6 rfl rfl rfl rfl rfl rfl rfl ⟨rfl, rfl, rfl, rfl, rfl⟩ rfl rfl rfl rfl rfl (by kernel_rfl) Try.func6 (by kernel_rfl)
    (of_decide_eq_true (by kernel_rfl)) (by unfold Func.isWrapper; first | (rw [if_pos (by decide +kernel)]; kernel_rfl) | (rw [if_neg (by decide +kernel)]; exact ⟨rfl, rfl⟩))
    (fun os started H enc _ => lifted os started H enc)
theorem proved : Rows.FnExactWallOfSaid := over
#print axioms proved
end fnExactWallOf
end Go.Proofs.Ytgioijkehboifaa
