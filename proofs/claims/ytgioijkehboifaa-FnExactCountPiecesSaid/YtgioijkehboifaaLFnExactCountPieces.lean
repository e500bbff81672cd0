/- For every list of courses the law FnExactCountPieces answers true: the program's CountPieces returns what the reference's returns, in memory of its own, and leaves its argument as it was. No condition. -/
import Derived.Test.YtgioijkehboifaaCount
import Derived.Test.YtgioijkehboifaaOpenS
namespace Go.Proofs.Ytgioijkehboifaa
open Go.RowKit
set_option linter.unusedSimpArgs false
set_option linter.unusedVariables false
set_option linter.unnecessarySimpa false

theorem own_apart {E : TypeId} {w w' : World} {b1 n1 c1 : Nat} {a1 : Option Addr} {v2 : Value} {xs : List Int} {b2 : Nat} (h : OwnInts E w b1 (.slice a1 n1 c1) xs) (hg : w.grownBy w' v2.ownBlock) (hlo : ∀ k, v2.ownBlock = some k → k < b1) : OwnInts E w' b1 (.slice a1 n1 c1) xs :=
  h.apart hg (fun k k' hk hk' => by have := (h.blk k hk).1; have := hlo k' hk'; omega)
set_option maxHeartbeats 1600000 in
theorem walk_FnExactCountPieces (ao : Option Addr) (n c : Nat) (xs : List ByteArray) (w : World) (hx : Strs w ao n xs) :
    Calls Try.prog 7 #[.slice ao n c] w fun e w' => e = .returned (.bool true) ∧ Below w.heap.size w w' := by
  have hxm := hx.2.1
  obtain ⟨L, hL⟩ : ∃ L, leftS 1048576 n xs = L := ⟨_, rfl⟩
  by_cases hn : L < 0
  · go_enter Try.func7, Try.ntmps7
    go_wp2_with (go_at_call 15; refine (l_szStringS _ _ _ xs _ _ hx (by omega) (by omega)).mono ?_; rw [hL]; rintro e w1 ⟨rfl, rfl⟩)
    go_ret
    exact ⟨rfl, Ext.refl _⟩
  · have hlen : n ≤ 1048576 := by have := leftS_len (hL ▸ hn); omega
    have hsm : Small xs := fun s hs => by have := leftS_small (hL ▸ hn) s hs; omega
    have hxb : xs.length ≤ 1048576 := by rw [hx.1]; exact hlen
    have hcl := cpL_length xs
    have HS := Lib.hid (fun ao n c W (h : Strs W ao n xs) => s_CountPieces ao n c xs W h hsm)
    have HI := Lib.hid (fun ao n c W (h : Strs W ao n xs) => i_CountPieces ao n c xs W h hsm)
    obtain ⟨cs, hcs⟩ : ∃ cs, cpL xs = cs := ⟨_, rfl⟩
    obtain ⟨code, hcode⟩ : ∃ code, sel (validW xs) 0 1 = code := ⟨_, rfl⟩
    rw [hcs, hcode] at HS HI
    rw [hcs] at hcl
    clear hcs hcode
    go_enter Try.func7, Try.ntmps7
    go_wp2_with (go_at_call 15; refine (l_szStringS _ _ _ xs _ _ hx (by omega) (by omega)).mono ?_; rw [hL]; rintro e w1 ⟨rfl, rfl⟩)
    refine (l_toStringS _ _ _ xs _ hx hlen).mono ?_
    rintro e w1 ⟨a1, c1, rfl, o1, e1⟩
    go_wp2_with fail
    refine (HS.out _ _ _ _ o1.strs).mono ?_
    rintro e w2 ⟨a2, c2, rfl, o2, e2⟩
    have B2 := fun k hk => (o2.blk k hk).2
    have e02 := e1.trans e2
    clear o1
    go_wp2_with fail
    refine (l_toStringS _ _ _ xs _ (hx.ext e02) hlen).mono ?_
    rintro e w3 ⟨a3, c3, rfl, o3, e3⟩
    have B3 := o3.blk
    go_wp2_with fail
    refine (HI.out _ _ _ _ o3.strs).mono ?_
    rintro e w4 ⟨a4, c4, rfl, o4, e4⟩
    have B4 := fun k hk => (o4.blk k hk).1
    have e04 := (e02.trans e3).trans e4
    replace o2 := (o2.ext e3).ext e4
    replace o3 := o3.ext e4
    go_wp2_with fail
    refine (l_eqInt64S _ _ _ _ _ _ cs cs _ o4.ints o2.ints).mono ?_
    rintro e w5 ⟨rfl, e5⟩
    rw [beq_self_eq_true]
    replace o2 := o2.ext e5
    replace o3 := o3.ext e5
    replace o4 := o4.ext e5
    have e05 := e04.trans e5
    go_wp2_with fail
    refine (l_toStringS _ _ _ xs _ (hx.ext e05) hlen).mono ?_
    rintro e w6 ⟨a6, c6, rfl, o6, e6⟩
    replace o2 := o2.ext e6
    replace o3 := o3.ext e6
    replace o4 := o4.ext e6
    have e06 := e05.trans e6
    go_wp2_with fail
    refine (l_eqStringS _ _ _ _ _ _ xs xs _ o3.strs o6.strs).mono ?_
    rintro e w7 ⟨rfl, e7⟩
    rw [show decide (xs = xs) = true by simp]
    replace o2 := o2.ext e7
    replace o3 := o3.ext e7
    replace o4 := o4.ext e7
    have e07 := e06.trans e7
    clear o6
    go_wp2_with fail
    refine (l_markStringS w2.heap.size _ _ _ _ xs _ rfl o3 (by omega) (by omega) (by omega)).mono ?_
    rintro e w8 ⟨rfl, o3', g8⟩
    have e08 : Ext w w8 := e07.grown g8 (fun k hk => by have := (B3 k hk).1; have := e02.size; omega)
    replace o2 := o2.apart g8 (fun k k' hk hk' => by have := B2 k hk; have := (B3 k' hk').1; omega)
    replace o4 := o4.apart g8 (fun k k' hk hk' => by have := B4 k hk; have := (B3 k' hk').2; omega)
    clear o3 o3'
    go_wp2_with fail
    refine (l_eqInt64S _ _ _ _ _ _ cs cs _ o4.ints o2.ints).mono ?_
    rintro e w9 ⟨rfl, e9⟩
    rw [beq_self_eq_true]
    replace o2 := o2.ext e9
    replace o4 := o4.ext e9
    have e09 := e08.trans e9
    go_wp2_with fail
    refine (l_markInt64S w3.heap.size _ _ _ _ cs _ rfl o4 (by omega) (by omega) (by omega)).mono ?_
    rintro e w10 ⟨rfl, o4', g10⟩
    have e10 : Ext w w10 := e09.grown g10 (fun k hk => by have := B4 k hk; have := (e02.trans e3).size; omega)
    replace o2 := o2.apart g10 (fun k k' hk hk' => by have := B2 k hk; have := B4 k' hk'; have := e3.size; omega)
    go_wp2_with fail
    refine (l_heldInt64S _ _ _ _ _ (by simpa [marks_length] using o4'.ints) (by omega) (by omega) (by omega)).mono ?_
    rintro e w11 ⟨rfl, rfl⟩
    go_wp2_with fail
    refine (l_toStringS _ _ _ xs _ (hx.ext e10) hlen).mono ?_
    rintro e w12 ⟨a12, c12, rfl, o12, e12⟩
    go_wp2_with fail
    refine (HI.out _ _ _ _ o12.strs).mono ?_
    rintro e w13 ⟨a13, c13, rfl, o13, e13⟩
    replace o2 := (o2.ext e12).ext e13
    replace o4' := (o4'.ext e12).ext e13
    have e013 := (e10.trans e12).trans e13
    go_wp2_with fail
    refine (l_eqInt64S _ _ _ _ _ _ cs cs _ o13.ints o2.ints).mono ?_
    rintro e w14 ⟨rfl, e14⟩
    rw [beq_self_eq_true]
    go_wp2_with fail
    refine (l_heldInt64S _ _ _ _ _ (by simpa [marks_length] using (o4'.ext e14).ints) (by omega) (by omega) (by omega)).mono ?_
    rintro e w15 ⟨rfl, rfl⟩
    go_wp2
    go_ret
    exact ⟨rfl, e013.trans e14⟩

/-! ### the row's step: written by a program of mine (frame.py) after the guide's own frame -/
namespace fnExactCountPieces
open Go.ChangeShapes Go.WideShapes Go.ChangeAt Go.RowKit Go.Joins
open Go.ChangeMaps (open_string shut_string)
set_option linter.unusedVariables false
theorem own : ownKnob Try.prog.godebug = none := by kernel_rfl
theorem laidOut : laidOutB Try.prog = true := by kernel_rfl
set_option maxRecDepth 100000 in
theorem lifted (os : Os) (started : os.Started) (H : Type) (enc : TypeId × Value → H) :
    ReturnsInHanded {} Try.checked os 7 .any (Rows.fnExactCountPiecesSpec.pre6 enc Try.prog Try.f7 Rows.fnExactCountPiecesRow.domain false) (Rows.fnExactCountPiecesSpec.post enc Try.prog Try.f7 false true false false) := by
  refine returnsInHanded_of_change (C := Try.checked) own started (by kernel_rfl) Try.func7
    (ChangeSpec.witness6 (enc := enc) (C := Try.checked) false ⟨#[], #[.slice none 0 0], []⟩ 8 (by kernel_rfl) (by kernel_rfl) (by kernel_rfl) (by kernel_rfl)) ?_
  intro W base args ds gs before hval0 hW hcnd _
  have hval : ∀ (j : Nat) t v, Try.f7.params[j]? = some t → args[j]? = some v → Value.okWide Try.prog W .any base t v := hval0
  have hW' := hW
  obtain ⟨p, q, hA0, hV, rfl, hfz, hnd⟩ := hW
  have hA : DataW.TrodAll enc Try.prog W 0 (fun _ => true) true Try.f7.params.toList args.toList ds p := hA0
  rw [Try.params7] at hA hval
  obtain ⟨v0, vs0, d0, ds0, p0, q0, hargs, rfl, rfl, h0, r0⟩ := trodAll_cons hA
  obtain ⟨rfl, rfl, rfl⟩ := trodAll_nil r0
  obtain rfl : args = #[v0] := by cases args; simp_all
  obtain ⟨rfl, rfl⟩ := trodVars_none hV
  have k0 := h0
  have lt0 : ∀ x ∈ p0, x.block < W.heap.size := by obtain ⟨m, hm⟩ := k0; exact DataW.trod_lt m _ _ _ hm
  obtain ⟨b0, l0, c0, rfl⟩ := okWide_slice Try.underlying22 (hval 0 22 v0 rfl rfl)
  obtain ⟨z0, w0⟩ := strs_of_trod Try.underlying22 Try.underlying9 (by kernel_rfl) h0
  clear hA0 hval0
  refine (walk_FnExactCountPieces b0 l0 c0 z0 W w0).mono fun e W' ⟨he, bel⟩ => ?_
  subst he
  exact ⟨_, rfl, _, _, _, [], _, [], hW', trodAll_mk1 (shut_bool Try.underlying4 _), (trodAll_cons_mk (Below.trod laidOut (by kernel_rfl) (of_decide_eq_true (by kernel_rfl)) k0 bel lt0) trodAll_mk0), rfl, bel.frame _, fun h => by cases h⟩
theorem over : Rows.fnExactCountPiecesRow.holds Try.pinned (OpenSpec.ofChange Rows.fnExactCountPiecesSpec) :=
  OpenClaim.holds_of_wide 7 Try.f7 rfl rfl rfl rfl rfl rfl rfl ⟨rfl, rfl, rfl, rfl, rfl⟩ rfl rfl rfl rfl rfl (by kernel_rfl) Try.func7 (by kernel_rfl)
    (of_decide_eq_true (by kernel_rfl)) (by unfold Func.isWrapper; first | (rw [if_pos (by decide +kernel)]; kernel_rfl) | (rw [if_neg (by decide +kernel)]; exact ⟨rfl, rfl⟩))
    (fun os started H enc _ => lifted os started H enc)
theorem proved : Rows.FnExactCountPiecesSaid := over
#print axioms proved
end fnExactCountPieces
end Go.Proofs.Ytgioijkehboifaa
