/- The law FnExactReadHouse: for every text, the program reads back the same plan as the reference, or both find none, and hands back memory of its own; the library's tables and its error value are as its text lays them. -/
import Derived.Test.YtaokeaiehjgbnaaDoorReadH
import Derived.Test.YtaokeaiehjgbnaaDoorHouse0
import Derived.Test.YtaokeaiehjgbnaaDoorPtsL
import Derived.Test.YtaokeaiehjgbnaaDoorDoor
import Derived.Test.YtaokeaiehjgbnaaDoorOpen
namespace Go.Proofs.YtaokeaiehjgbnaaDoor
open Go.RowKit
set_option linter.unusedSimpArgs false
set_option linter.unusedVariables false
set_option linter.unnecessarySimpa false

theorem rhX_len (l : List UInt8) : (rhX l).length ≤ 12 := by
  unfold rhX
  split
  · rename_i h
    unfold rhB at h
    simp only [Bool.and_eq_true] at h
    exact (validH_bd h.2).2.1
  · simp
theorem blk_grownL {w w' : World} {row : Option Nat} {b : Nat} {o : Obj} (h : w.heap[b]? = some o) (g : w.grownBy w' row) (hne : some b ≠ row) : w'.heap[b]? = some o := (g.block b (lt_of_block h) hne).trans h
set_option maxRecDepth 100000 in
set_option maxHeartbeats 3000000 in
theorem walk_FnExactReadHouse (s : ByteArray) (w : World) (hs : s.size ≤ 9223372036854775807) (hT : TabP w) (hE : ErrP w) (hMx : MaxP w) : Calls Tryd.prog 4 #[.string s] w (fun e w' => e = .returned (.bool true) ∧ Below w.heap.size w w') := by
  by_cases hb : s.size ≤ 1048576
  · have hS := fun W => s_ReadHouse s (by omega) W
    have hI := fun W (e : Ext w W) => i_ReadHouse s (by omega) W (hT.ext e) (hE.ext e) (hMx.ext e)
    have hpl := rhX_len (bts s)
    obtain ⟨ps, hps⟩ : ∃ ps, rhX (bts s) = ps := ⟨_, rfl⟩
    obtain ⟨pt, hpt⟩ : ∃ pt, rhT (bts s) = pt := ⟨_, rfl⟩
    obtain ⟨b, hbb⟩ : ∃ b, rhB (bts s) = b := ⟨_, rfl⟩
    rw [hps, hpt, hbb] at hS hI
    rw [hps] at hpl
    have HS := Lib.hid hS
    have HI := Lib.hid hI
    have HEQ := Lib.hid (fun W ao bo c d h1 h2 => show Calls Tryd.prog 12 #[.agg #[.slice ao ps.length c, .string pt], .agg #[.slice bo ps.length d, .string pt]] W (RetE (.bool true) W) from (by have := l_eqHouse ao bo ps.length ps.length c d ps ps pt pt W h1 h2; rwa [show (ps == ps && decide (pt = pt)) = true by simp] at this))
    have hb' : ¬ (1048576 : Int) < (s.size : Int) := by omega
    clear hps hpt hbb hS hI hb hT hE hMx
    cases b
    all_goals
      go_enter Tryd.func4, Tryd.ntmps4
      go_wp2_with fail
      refine (HS.out _).mono ?_
      rintro e w1 ⟨aw, cw, rfl, ow, e1⟩
      have HE1 := Lib.hid (e1.alloc (.cells #[.slice aw ps.length cw, .string pt] 27))
      have HB1 := Lib.hid (heap_alloc_new w1 (.cells #[.slice aw ps.length cw, .string pt] 27))
      have HOW := Lib.hid (ow.ext ((Ext.refl w1).alloc (.cells #[.slice aw ps.length cw, .string pt] 27)))
      have HZ1 : Hid ((w1.alloc (.cells #[.slice aw ps.length cw, .string pt] 27)).heap.size = w1.heap.size + 1) := Lib.hid (by simp)
      clear ow e1
      go_wp2_with fail
      refine (HI.out _ HE1.out).mono ?_
      rintro e w2 ⟨ag, cg, rfl, og, e2⟩
      have HE2 := Lib.hid (e2.alloc (.cells #[.slice ag ps.length cg, .string pt] 27))
      have HB2 := Lib.hid (heap_alloc_new w2 (.cells #[.slice ag ps.length cg, .string pt] 27))
      have HBG : Hid (∀ j, (Value.slice ag ps.length cg).ownBlock = some j → w1.heap.size + 1 ≤ j ∧ j < w2.heap.size) := Lib.hid (fun j hj => by have := og.blk j hj; rw [HZ1.out] at this; exact this)
      have HOG := Lib.hid (og.ext ((Ext.refl w2).alloc (.cells #[.slice ag ps.length cg, .string pt] 27)))
      clear og e2
      have HOW2 := Lib.hid (HOW.out.ext HE2.out)
      have HB12 := Lib.hid (HE2.out.block HB1.out)
      obtain ⟨p0, p1, p2, p3, p4⟩ := two_cells HB2.out
      obtain ⟨q0, q1, q2, q3, q4⟩ := two_cells HB12.out
      go_wp2_with fail
      refine (HEQ.out _ _ _ _ _ HOG.out.ints HOW2.out.ints).mono ?_
      rintro e w3 ⟨rfl, e3⟩
      have EW3 := Lib.hid (HE2.out.trans e3)
      have OG3 := Lib.hid (HOG.out.ext e3)
      have HB13 := Lib.hid (e3.block HB12.out)
      have HB23 := Lib.hid (e3.block HB2.out)
      clear e3 p0 p1 p2 p3 p4 q0 q1 q2 q3 q4 HOG HOW2
      obtain ⟨p0, p1, p2, p3, p4⟩ := two_cells HB23.out
      go_wp2_with fail
      refine (l_markHouse _ ag ps.length cg 1 ps pt _ rfl OG3.out (by omega) (by omega) (by omega)).mono ?_
      rintro e w10 ⟨rfl, om, g10⟩
      have HM10 := Lib.hid om
      have EW10 := Lib.hid (EW3.out.grown g10 (fun j hj => by have h := (HBG.out j hj).1; rw [HZ1.out]; exact h))
      have HB210 := Lib.hid (blk_grownL HB23.out g10 (fun e => by have h := HBG.out _ e.symm; omega))
      have HB110 := Lib.hid (blk_grownL HB13.out g10 (fun e => by have h := HBG.out _ e.symm; omega))
      clear om g10 p0 p1 p2 p3 p4
      obtain ⟨p0, p1, p2, p3, p4⟩ := two_cells HB210.out
      go_wp2_with fail
      refine (l_heldHouse ag ps.length cg 1 pt _ HM10.out.ints (by omega) (by omega) (by omega)).mono ?_
      rintro e w11 ⟨rfl, e10⟩
      have HM11 := Lib.hid (HM10.out.ext e10)
      have EW11 := Lib.hid (EW10.out.trans e10)
      have HB211 := Lib.hid (e10.block HB210.out)
      have HB111 := Lib.hid (e10.block HB110.out)
      clear e10 p0 p1 p2 p3 p4
      go_wp2_with fail
      refine (HI.out _ (HE1.out.trans EW11.out)).mono ?_
      rintro e w12 ⟨ah, ch, rfl, oh, e12⟩
      have e12a := e12.alloc (.cells #[.slice ah ps.length ch, .string pt] 27)
      have HM12 := Lib.hid (HM11.out.ext e12a)
      have EW12 := Lib.hid (EW11.out.trans e12a)
      have OH := Lib.hid (oh.ext ((Ext.refl w12).alloc (.cells #[.slice ah ps.length ch, .string pt] 27)))
      have OW12 := Lib.hid (HOW.out.ext EW12.out)
      have HB212 := Lib.hid (e12a.block HB211.out)
      obtain ⟨q0, q1, q2, q3, q4⟩ := two_cells (e12a.block HB111.out)
      clear oh e12 e12a
      go_wp2_with fail
      refine (HEQ.out _ _ _ _ _ OH.out.ints OW12.out.ints).mono ?_
      rintro e w13 ⟨rfl, e13⟩
      have HM13 := Lib.hid (HM12.out.ext e13)
      have EW13 := Lib.hid (EW12.out.trans e13)
      obtain ⟨p0, p1, p2, p3, p4⟩ := two_cells (e13.block HB212.out)
      clear e13 q0 q1 q2 q3 q4
      go_wp2_with fail
      refine (l_heldHouse ag ps.length cg 1 pt _ HM13.out.ints (by omega) (by omega) (by omega)).mono ?_
      rintro e w14 ⟨rfl, e14⟩
      have EF := Lib.hid (HE1.out.trans (EW13.out.trans e14))
      go_wp2
      go_ret
      exact ⟨rfl, EF.out⟩
  · have hb' : (1048576 : Int) < (s.size : Int) := by omega
    go_enter Tryd.func4, Tryd.ntmps4
    go_wp2
    go_ret
    exact ⟨rfl, Below.refl _ _⟩
/-! ### the row's step: written by a program of mine (frame.py) after the guide's own frame -/
namespace fnExactReadHouse
open Go.ChangeShapes Go.WideShapes Go.ChangeAt Go.RowKit Go.Joins
open Go.ChangeMaps (open_string shut_string)
set_option linter.unusedVariables false
theorem own : ownKnob Tryd.prog.godebug = none := by kernel_rfl
theorem laidOut : laidOutB Tryd.prog = true := by kernel_rfl
theorem laid_met (os : Os) (args : Array Value) : laidMet Tryd.prog Rows.fnExactReadHouseRow.laid ((laidWorld os).forCall (fun _ _ => 0) ⟨#[], args, []⟩).memory :=
  (LaidIn.of_run (l := Rows.fnExactReadHouseRow.laid) [6, 7, 1, 5, 3, N0, 2, N0 + 1, 4] 8 (by kernel_rfl) (by kernel_rfl) (by kernel_rfl) (by kernel_rfl)).met
theorem witness_row (os : Os) {H : Type} (enc : TypeId × Value → H) :
    (OpenSpec.ofChange Rows.fnExactReadHouseSpec).preRow enc Tryd.prog Tryd.f4 Rows.fnExactReadHouseRow.domain false Rows.fnExactReadHouseRow.laid ((laidWorld os).forCall (fun _ _ => 0) ⟨#[], #[.string ByteArray.empty], []⟩).memory #[.string ByteArray.empty] := by
  have hw : (DataW.whole enc Tryd.prog ((laidWorld os).forCall (fun _ _ => 0) ⟨#[], #[.string ByteArray.empty], []⟩).memory Tryd.f4.params.toList (OpenSpec.ofChange Rows.fnExactReadHouseSpec).vars false (#[.string ByteArray.empty] : Array Value).toList 8).map (fun x => (x.1, x.2.1)) =
      some ([.lit (.string [])], []) := by kernel_rfl
  obtain ⟨⟨x1, x2, x3⟩, hx, hx1⟩ := Option.map_eq_some_iff.1 hw
  simp only [Prod.mk.injEq] at hx1
  obtain ⟨rfl, rfl⟩ := hx1
  exact OpenSpec.preRow_of_cond 8 hx (by kernel_rfl) (fun k hk => by cases hk) (by kernel_rfl) (laid_met os _)
set_option maxRecDepth 100000 in
theorem lifted (os : Os) (started : os.Started) (H : Type) (enc : TypeId × Value → H) (F : Stop.Interp) :
    ReturnsInHanded {} Tryd.checked os 4 .any ((OpenSpec.ofChange Rows.fnExactReadHouseSpec).preRow enc Tryd.prog Tryd.f4 Rows.fnExactReadHouseRow.domain false Rows.fnExactReadHouseRow.laid) (((OpenSpec.ofChange Rows.fnExactReadHouseSpec).at F).post enc Tryd.prog Tryd.f4 false true false false) := by
  refine returnsInHanded_of_row (C := Tryd.checked) (s := OpenSpec.ofChange Rows.fnExactReadHouseSpec) own started (by kernel_rfl) Tryd.func4
    (witness_row_atRef (enc := enc) (C := Tryd.checked) false (laidWorld os) #[.string ByteArray.empty] rfl (by kernel_rfl) (by kernel_rfl) (by kernel_rfl) (witness_row os enc)) ?_
  intro W base args ds gs before hval0 hW hcnd _ _ hL hsh _
  have hval : ∀ (j : Nat) t v, Tryd.f4.params[j]? = some t → args[j]? = some v → Value.okWide Tryd.prog W .any base t v := hval0
  have hW' := hW
  obtain ⟨p, q, hA0, hV, rfl, hfz, hnd⟩ := hW
  have hA : DataW.TrodAll enc Tryd.prog W 0 (fun _ => true) true Tryd.f4.params.toList args.toList ds p := hA0
  rw [Tryd.params4] at hA hval
  obtain ⟨v0, vs0, d0, ds0, p0, q0, hargs, rfl, rfl, h0, r0⟩ := trodAll_cons hA
  obtain ⟨rfl, rfl, rfl⟩ := trodAll_nil r0
  obtain rfl : args = #[v0] := by cases args; simp_all
  obtain ⟨rfl, rfl⟩ := trodVars_none hV
  have k0 := h0
  have lt0 : ∀ x ∈ p0, x.block < W.heap.size := by obtain ⟨m, hm⟩ := k0; exact DataW.trod_lt m _ _ _ hm
  obtain ⟨a0, rfl, rfl, rfl, w0⟩ := open_string Tryd.underlying9 (hval 0 9 v0 rfl rfl) h0
  clear hA0 hval0
  have hL0 : laidMet Tryd.prog Rows.fnExactReadHouseRow.laid W := hL
  have hTab : TabP W := tab_laid hL0.tail.tail
  have hErr : ErrP W := err_laid hL0.tail.tail.tail.tail.tail
  have hMax : MaxP W := max_shaped hsh
  refine (walk_FnExactReadHouse a0 W w0 hTab hErr hMax).mono fun e W' ⟨he, bel⟩ => ?_
  subst he
  exact ⟨_, rfl, _, _, _, [], _, [], hW', trodAll_mk1 (shut_bool Tryd.underlying4 _), (trodAll_cons_mk (Below.trod laidOut (by kernel_rfl) (of_decide_eq_true (by kernel_rfl)) k0 bel lt0) trodAll_mk0), rfl, bel.frame _, fun h => by cases h⟩
theorem over : Rows.fnExactReadHouseRow.holds Tryd.pinned (OpenSpec.ofChange Rows.fnExactReadHouseSpec) :=
  OpenClaim.holds_of_cond 4 Tryd.f4 rfl rfl rfl rfl rfl rfl rfl ⟨rfl, rfl, rfl, rfl, rfl⟩ rfl rfl rfl rfl rfl (by kernel_rfl) Tryd.func4 (by kernel_rfl)
    (of_decide_eq_true (by kernel_rfl)) (by unfold Func.isWrapper; first | (rw [if_pos (by decide +kernel)]; kernel_rfl) | (rw [if_neg (by decide +kernel)]; exact ⟨rfl, rfl⟩))
    (fun os started H enc _ F0 => by rw [OpenClaim.pre_eq_preRow]; exact lifted os started H enc F0)
theorem proved : Rows.FnExactReadHouseCardSaid :=
  Claim7.holds_tied_plain_at .later [] [.data, .data, .data, .data, .sentinel, .sentinel, .pinned] true (true, "9cc497ef2af0512bcb3bf161b70c347e05e4fea15a44848d6b8a4322bb5dbd7d") true
    over (fun _ h => by cases h) (by kernel_rfl) (fun _ h => by cases h) fnExactReadHouse_row_tie rfl ⟨rfl, rfl⟩ (by kernel_rfl) rfl
    (fun f fn hf hfn => by
      obtain rfl : f = 4 := Option.some.inj ((show Tryd.prog.funcNamed "loop.example/g01042/laws.FnExactReadHouse" = some 4 by kernel_rfl).symm.trans hf) |>.symm
      obtain rfl : fn = Tryd.f4 := (Option.some.inj (Tryd.func4.symm.trans hfn)).symm
      exact ⟨by kernel_rfl, fun j t ht => by
        rw [Tryd.params4] at ht
        have h3 : t = 9 := by
          rcases j with _ | j
          · have e : t = 9 := by simpa using ht.symm
            simp [e]
          · simp at ht
        subst h3
        exact (show Tryd.prog.wantsStandIn 9 = false by kernel_rfl)⟩)
    (by kernel_rfl)
#print axioms proved
end fnExactReadHouse
end Go.Proofs.YtaokeaiehjgbnaaDoor
