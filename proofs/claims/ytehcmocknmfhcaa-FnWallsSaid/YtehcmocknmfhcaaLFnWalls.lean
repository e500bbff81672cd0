/- For every two rows of bytes the law FnWalls answers true: a wall upside down is bonded alike, a lesser lap is kept too, and its pieces are those of its courses. No condition. -/
import Derived.Test.YtehcmocknmfhcaaWallL
import Derived.Test.YtehcmocknmfhcaaClashI
import Derived.Test.YtehcmocknmfhcaaOpenU
namespace Go.Proofs.Ytehcmocknmfhcaa
open Go.RowKit
set_option linter.unusedSimpArgs false
set_option linter.unusedVariables false
set_option linter.unnecessarySimpa false

theorem valid_ofW {l : List UInt8} {L : Nat} (h : l.all isPc = true) (hq : qSum l = L) (h1 : 1 ≤ L) (h2 : L ≤ 40) : validC l = true := by
  have h3 := qSum_ge' h
  have h4 : l ≠ [] := fun e => by rw [e, qSum_nil] at hq; omega
  have h5 : 0 < l.length := List.length_pos_iff.2 h4
  unfold validC
  rw [h, show inB l.length 1 60 = true by simp [inB]; omega]
  simp; omega
theorem validW_good {L : Nat} {ws : List ByteArray} (L1 : 1 ≤ L) (L2 : L ≤ 30) (n1 : 1 ≤ ws.length) (n2 : ws.length ≤ 6) (h : ∀ s ∈ ws, goodC L s) : validW ws = true := by
  have hh : headL ws = L := by
    unfold headL lenS
    rw [List.getD_eq_getElem?_getD, List.getElem?_eq_getElem (by omega)]
    exact (h _ (List.getElem_mem _)).2
  unfold validW
  rw [show inB ws.length 1 40 = true by simp [inB]; omega, Bool.true_and, Bool.not_eq_true', List.any_eq_false]
  intro s hs
  have hg := h s hs
  unfold badC
  rw [valid_ofW hg.1 hg.2 L1 (by omega), hh]
  simp [lenS, hg.2]
theorem allB_good {L : Nat} {ws : List ByteArray} (h : ∀ s ∈ ws, goodC L s) (k : Nat) : (allB ws k).all isPc = true := by
  unfold allB
  rw [List.all_eq_true]
  intro b hb
  obtain ⟨l, hl, hbl⟩ := List.mem_flatten.1 hb
  obtain ⟨s, hs, rfl⟩ := List.mem_map.1 hl
  exact List.all_eq_true.1 (h s (List.mem_of_mem_take hs)).1 b hbl
theorem cutN_app (a b : List UInt8) : cutN (a ++ b) = cutN a + cutN b := by unfold cutN; rw [List.countP_append]; omega
theorem keepW3 {w7 W W' : World} {a b c : Addr} {x y z : Value} (h : W.cell? a = some x ∧ W.cell? b = some y ∧ W.cell? c = some z ∧ Ext w7 W) (e : Ext W W') : W'.cell? a = some x ∧ W'.cell? b = some y ∧ W'.cell? c = some z ∧ Ext w7 W' := ⟨e.cell h.1, e.cell h.2.1, e.cell h.2.2.1, h.2.2.2.trans e⟩
theorem heldW3 {w7 W : World} {a b c : Addr} {x y z : Value} (h : W.cell? a = some x ∧ W.cell? b = some y ∧ W.cell? c = some z ∧ Ext w7 W) : Ext w7 W := h.2.2.2
set_option maxRecDepth 100000 in
set_option maxHeartbeats 4000000 in
theorem walk_FnWalls (ao : Option Addr) (n c : Nat) (bs : List UInt8) (bo : Option Addr) (m d : Nat) (ds : List UInt8) (w : World) (hx : U8x w ao n bs) (hy : U8x w bo m ds) :
    Calls Try.prog 6 #[.slice ao n c, .slice bo m d] w fun e w' => e = .returned (.bool true) ∧ Below w.heap.size w w' := by
  have HLO := Lib.hid (fun W => l_a2Long ao bo n m c d W hx.2.1 hy.2.1)
  have hlong : longB n m = false → n ≤ 3000 ∧ m ≤ 3000 := fun h => by unfold longB at h; simp at h; omega
  cases hl : longB n m with
  | true =>
    rw [hl] at HLO
    clear hx hy hlong hl
    go_enter Try.func6, Try.ntmps6
    go_wp2_with (go_at_call 20; refine (HLO.out _).mono ?_; rintro e w' ⟨rfl, rfl⟩)
    go_ret
    exact ⟨rfl, Below.refl _ _⟩
  | false =>
    rw [hl] at HLO
    have ⟨hn, hm⟩ := hlong hl
    have HX := Lib.hid (hx.small (by omega))
    have HY := Lib.hid (hy.small (by omega))
    clear hx hy hlong hl hn hm
    go_enter Try.func6, Try.ntmps6
    go_wp2_with (go_at_call 20; refine (HLO.out _).mono ?_; rintro e w' ⟨rfl, rfl⟩)
    refine (s_A2Wall ao n c bs w HX.out).mono ?_
    rintro e w1 ⟨L, ws, a1, c1, rfl, L1, L2, n1, n2, hst, hgd, e1⟩
    have hval := validW_good L1 L2 n1 n2 hgd
    have hvalR := validW_good (ws := ws.reverse) L1 L2 (by simpa using n1) (by simpa using n2) (fun s hs => hgd s (List.mem_reverse.1 hs))
    have hsm : Small ws := fun s hs => by have := good_size (hgd s hs); omega
    have hsmR : Small ws.reverse := fun s hs => hsm s (List.mem_reverse.1 hs)
    have hcs := cnt5_sum (allB ws ws.length) (allB_good hgd _)
    have hcl : cpL ws = cnt5 (allB ws ws.length) := by unfold cpL; rw [if_pos hval]
    obtain ⟨k, hk⟩ : ∃ k, ws.length = k := ⟨_, rfl⟩
    rw [hk] at n1 n2 hst hcs hcl ⊢
    have HK := Lib.hid hk
    have HE1 := Lib.hid e1
    have HST := Lib.hid hst
    have HGD := Lib.hid hgd
    have HVAL := Lib.hid hval
    have HVALR := Lib.hid hvalR
    have HSM := Lib.hid hsm
    have HSMR := Lib.hid hsmR
    have HCS := Lib.hid hcs
    have HCL := Lib.hid hcl
    clear e1 hst hgd hval hvalR hsm hsmR hcs hcl
    go_wp2_with fail
    refine (l_a2At bo m d ds 0 3 _ (HY.out.ext HE1.out) (by decide) (by decide)).mono ?_
    rintro e w2 ⟨x, x1, x2, rfl, e2⟩
    have HE2 := Lib.hid (HE1.out.trans e2)
    have HST2 := Lib.hid (HST.out.ext e2)
    clear e2
    go_wp2
    go_loopw [7, 8] (fun v i wr => ∃ j : Nat, j ≤ k ∧ i = .int .i64 ((k : Int) - 1 - j) ∧ Hid (OwnStrs wr w2.heap.size v (ws.reverse.take j)) ∧ Hid (Ext w2 wr)) (fun _ i _ => (intOf i + 1).toNat)
    case atStart => exact ⟨0, Nat.zero_le _, by go_num, Lib.hid (by simpa using OwnStrs.empty (Ext.refl w2)), Lib.hid ((Ext.refl w2).alloc _)⟩
    case round =>
      obtain ⟨j, hj, rfl, HO, HE⟩ := hrel
      by_cases hlt : j < k
      · have hidx : ((k : Int) - 1 - j).toNat = k - 1 - j := by omega
        obtain ⟨b, off, rfl, hc⟩ := (HST2.out.ext HE.out).2.2.1 (k - 1 - j) (by omega)
        have HLN : Hid ((ws.reverse.take j).length ≤ 10000000) := Lib.hid (by rw [List.length_take, List.length_reverse, HK.out]; omega)
        have HSN : Hid (ws.reverse.take (j + 1) = ws.reverse.take j ++ [ws.getD (k - 1 - j) ByteArray.empty]) := Lib.hid (by
          have h2 : j < ws.reverse.length := by rw [List.length_reverse, HK.out]; exact hlt
          have h3 := getD_rev ws j (by rw [HK.out]; exact hlt)
          rw [HK.out, List.getD_eq_getElem?_getD, List.getElem?_eq_getElem h2, Option.getD_some] at h3
          rw [List.take_succ_eq_append_getElem h2, h3])
        have HZS : Hid ((ws.getD (k - 1 - j) ByteArray.empty).size ≤ 9223372036854775807) := Lib.hid (HST2.out.at (by omega))
        obtain ⟨z, hz⟩ : ∃ z, ws.getD (k - 1 - j) ByteArray.empty = z := ⟨_, rfl⟩
        rw [hz] at hc HSN HZS
        have h0 : (0 : Int) ≤ (k : Int) - 1 - j := by omega
        clear hz
        go_wp2_with (at_builtin; refine wpList_append_str (W := w2) rfl _ _ rfl _ (ws.reverse.take j) z rfl rfl rfl HO.out HE.out HZS.out HLN.out ?_; intro v' w3 ho3 e3; have HO3 := Lib.hid ho3; have HE3 := Lib.hid e3; clear ho3 e3)
        go_roundw
        case rel => exact ⟨j + 1, by omega, by go_num, Lib.hid (by rw [HSN.out]; exact HO3.out), HE3⟩
        case measure => simp [intOf]; omega
      · obtain rfl : j = k := by omega
        have hneg : ¬ (0 : Int) ≤ (j : Int) - 1 - j := by omega
        have HR : Hid (ws.reverse.take j = ws.reverse) := Lib.hid (List.take_of_length_le (by rw [List.length_reverse, HK.out]; exact Nat.le_refl _))
        have ho := HO.out
        rw [HR.out] at ho
        obtain ⟨a3, c3, rfl, hst3, _⟩ := ho.shape
        rw [List.length_reverse, HK.out] at hst3 ⊢
        have HST3 := Lib.hid hst3
        have HSTr := Lib.hid (HST2.out.ext HE.out)
        clear ho hst3
        have hw1 : wcode ws (1 + x) = 0 := by unfold wcode; rw [if_pos HVAL.out, if_pos (by simp [inB]; omega)]
        have hw2 : wcode ws.reverse (1 + x) = 0 := by unfold wcode; rw [if_pos HVALR.out, if_pos (by simp [inB]; omega)]
        have hw3 : wcode ws (1 + x + 1) = 0 := by unfold wcode; rw [if_pos HVAL.out, if_pos (by simp [inB]; omega)]
        have hB1 := i_IsBonded a1 j c1 ws (1 + x) wr HSTr.out HSM.out
        have hB2 := fun W (e : Ext wr W) => i_IsBonded a3 j c3 ws.reverse (1 + x) W (HST3.out.ext e) HSMR.out
        have hB3 := fun W (e : Ext wr W) => i_IsBonded a1 j c1 ws (1 + x + 1) W (HSTr.out.ext e) HSM.out
        have hCP := fun W (e : Ext wr W) => i_CountPieces a1 j c1 ws W (HSTr.out.ext e) HSM.out
        rw [HVAL.out, HCL.out] at hCP
        unfold ibV at hB1 hB2 hB3
        rw [if_pos hw1] at hB1
        simp only [hw2, if_pos] at hB2
        simp only [hw3, if_pos] at hB3
        have hrev := findK_rev (1 + x) ws 0 0
        simp only [hrev] at hB2
        have hlap := fun h => findK_lap (l := ws) (show 1 + x ≤ 1 + x + 1 by omega) 0 h
        obtain ⟨fa, hfa⟩ : ∃ b, (findK (1 + x) 0 ws).isNone = b := ⟨_, rfl⟩
        obtain ⟨fc, hfc⟩ : ∃ b, (findK (1 + x + 1) 0 ws).isNone = b := ⟨_, rfl⟩
        rw [hfa] at hB1 hB2
        rw [hfc] at hB3
        have hac : fc = true → fa = true := fun h => by
          rw [← hfa, Option.isNone_iff_eq_none]
          exact hlap (by rw [← Option.isNone_iff_eq_none, hfc]; exact h)
        have HB1 := Lib.hid hB1
        have HB2 := Lib.hid hB2
        have HB3 := Lib.hid hB3
        have HCP := Lib.hid hCP
        clear hB1 hB2 hB3 hCP hw1 hw2 hw3 hrev hlap hfa hfc
        go_wp2_with fail
        refine HB1.out.mono ?_
        rintro e w4 ⟨rfl, e4⟩
        have HE4 := Lib.hid e4
        clear e4
        go_wp2_with fail
        refine (HB2.out _ HE4.out).mono ?_
        rintro e w5 ⟨rfl, e5⟩
        have HE5 := Lib.hid (HE4.out.trans e5)
        clear e5
        go_wp2_with fail
        refine (HB3.out _ HE5.out).mono ?_
        rintro e w6 ⟨rfl, e6⟩
        have HE6 := Lib.hid (HE5.out.trans e6)
        clear e6
        go_wp2_with fail
        refine (HCP.out _ HE6.out).mono ?_
        rintro e w7 ⟨a4, c4, rfl, o4, e7⟩
        have HE7 := Lib.hid (HE6.out.trans e7)
        rw [cnt5_length] at o4 ⊢
        have HI4 := Lib.hid o4.ints
        have HST7 := Lib.hid (HSTr.out.ext HE7.out)
        clear e7 o4
        have hcase : (fa = true ∧ fc = true) ∨ (fa = true ∧ fc = false) ∨ (fa = false ∧ fc = false) := by
          cases fa <;> cases fc <;> simp at hac ⊢
        rcases hcase with ⟨rfl, rfl⟩ | ⟨rfl, rfl⟩ | ⟨rfl, rfl⟩
        all_goals
          clear hac
          go_wp2
          go_loopw [17, 18, 19] (fun q r i ws' => ∃ t : Nat, t ≤ j ∧ i = .int .i64 t ∧ q = .int .i64 ((allB ws t).length : Int) ∧ r = .int .i64 (cutN (allB ws t)) ∧ (allB ws t).length ≤ 30 * t ∧ Ext w7 ws') (fun _ _ i _ => j - (intOf i).toNat)
          case atStart => exact ⟨0, Nat.zero_le _, rfl, rfl, rfl, by simp [allB], Ext.refl _⟩
          case round =>
            obtain ⟨t, ht, rfl, rfl, rfl, hal, er⟩ := hrel
            have hcb : 0 ≤ cutN (allB ws t) ∧ cutN (allB ws t) ≤ (allB ws t).length := by unfold cutN; have := List.countP_le_length (p := cutB) (l := allB ws t); omega
            by_cases hlt2 : t < j
            · obtain ⟨b, off, rfl, hc⟩ := (HST7.out.ext er).2.2.1 t hlt2
              have hzg : goodC L (ws.getD t ByteArray.empty) := HGD.out _ (by rw [List.getD_eq_getElem?_getD, List.getElem?_eq_getElem (by omega)]; exact List.getElem_mem _)
              have hasu := allB_succ ws t (by omega)
              obtain ⟨z, hz⟩ : ∃ z, ws.getD t ByteArray.empty = z := ⟨_, rfl⟩
              rw [hz] at hc hzg hasu
              have hzs := good_size hzg
              have hzl := bts_length z
              have hCU := fun W => i_CutsIn z (by omega) W
              rw [valid_ofW hzg.1 hzg.2 L1 (by omega)] at hCU
              have hcz : 0 ≤ cutN (bts z) ∧ cutN (bts z) ≤ (bts z).length := by unfold cutN; have := List.countP_le_length (p := cutB) (l := bts z); omega
              have h1 : ((allB ws (t + 1)).length : Int) = (allB ws t).length + z.size := by rw [hasu, List.length_append, hzl]; omega
              have h2 : cutN (allB ws (t + 1)) = cutN (allB ws t) + cutN (bts z) := by rw [hasu, cutN_app]
              obtain ⟨p, hp⟩ : ∃ p, (allB ws t).length = p := ⟨_, rfl⟩
              obtain ⟨r, hr⟩ : ∃ r, cutN (allB ws t) = r := ⟨_, rfl⟩
              obtain ⟨y, hy⟩ : ∃ y, cutN (bts z) = y := ⟨_, rfl⟩
              rw [hp] at hal hcb h1 ⊢
              rw [hr] at hcb h2 ⊢
              rw [hy] at hcz h2 hCU
              have HCU : Hid (∀ W, Calls Try.prog 31 #[.string z] W (Pair y 0 W)) := Lib.hid hCU
              have H1 := Lib.hid h1
              have H2 := Lib.hid h2
              clear h1 h2 hasu hz hzg hCU hp hr hy
              go_wp2_with (go_at_call 31; refine (HCU.out _).mono ?_; rintro e w' ⟨rfl, rfl⟩)
              go_roundw
              case rel => exact ⟨t + 1, by omega, by go_num, by rw [H1.out], by rw [H2.out], by have := H1.out; omega, er⟩
              case measure => simp [intOf]; omega
            · obtain rfl : t = j := by omega
              have hI := HI4.out.ext er
              obtain ⟨s1, s2⟩ := HCS.out
              obtain ⟨b, off, rfl, f2⟩ := hI.2.2.1 2 (by decide)
              obtain ⟨b', off', he, f3⟩ := hI.2.2.1 3 (by decide)
              simp only [Option.some.injEq, Addr.mk.injEq, and_true] at he
              obtain ⟨rfl, rfl⟩ := he
              obtain ⟨b', off', he, f4⟩ := hI.2.2.1 4 (by decide)
              simp only [Option.some.injEq, Addr.mk.injEq, and_true] at he
              obtain ⟨rfl, rfl⟩ := he
              have hbdx := cnt5_bd (allB ws t)
              have b2 := cnt5_at (allB ws t) 2 (by decide)
              have b3 := cnt5_at (allB ws t) 3 (by decide)
              have b4 := cnt5_at (allB ws t) 4 (by decide)
              have HSU := Lib.hid (fun W (e : Ext w7 W) => l_a2Sum _ 5 c4 _ W (HI4.out.ext e) (fun x hx => by have := hbdx x hx; omega) (by decide))
              rw [s1] at HSU
              obtain ⟨p, hp⟩ : ∃ p, (allB ws t).length = p := ⟨_, rfl⟩
              obtain ⟨r, hr⟩ : ∃ r, cutN (allB ws t) = r := ⟨_, rfl⟩
              obtain ⟨x2', h2'⟩ : ∃ y, (cnt5 (allB ws t)).getD 2 0 = y := ⟨_, rfl⟩
              obtain ⟨x3', h3'⟩ : ∃ y, (cnt5 (allB ws t)).getD 3 0 = y := ⟨_, rfl⟩
              obtain ⟨x4', h4'⟩ : ∃ y, (cnt5 (allB ws t)).getD 4 0 = y := ⟨_, rfl⟩
              rw [hp] at hal hcb b2 b3 b4 HSU ⊢
              rw [hr] at hcb s2 ⊢
              rw [h2'] at f2 b2 s2
              rw [h3'] at f3 b3 s2
              rw [h4'] at f4 b4 s2
              clear hbdx s1 hp hr h2' h3' h4' hI
              have HE9 := Lib.hid (((HE2.out.trans HE.out).trans HE7.out).trans er)
              have hres : ((x2' + x3' + x4' : Int) == r) = true := by simp; exact s2
              have K2 := f2
              have K3 := f3
              have K4 := f4
              go_wp2
              go_region_held3 (fun W => W.cell? ⟨b, off + 2, none⟩ = some (.int .i64 x2') ∧ W.cell? ⟨b, off + 3, none⟩ = some (.int .i64 x3') ∧ W.cell? ⟨b, off + 4, none⟩ = some (.int .i64 x4') ∧ Ext w7 W) (first | exact ⟨K2, K3, K4, er.drew⟩ | exact keepW3 (by assumption) (by assumption)) (first | (go_at_call 32; refine (HSU.out _ (heldW3 (by assumption))).mono ?_; rintro e w9 ⟨rfl, e9⟩))
              all_goals
                have hEE := heldW3 (by assumption)
                go_wp2
                go_ret
                refine ⟨?_, ((HE2.out.trans HE.out).trans HE7.out).trans hEE⟩
                have w1 : IntKind.i64.wrap (x2' + x3') = x2' + x3' := IntWalk.i64_in _ (by omega)
                have w2 : IntKind.i64.wrap (x2' + x3' + x4') = x2' + x3' + x4' := IntWalk.i64_in _ (by omega)
                refine congrArg Ending.returned (?_ : _ = Value.bool true)
                refine bool_eq ?_
                first | exact hres | (rw [w1, w2]; exact hres) | (simp [w1, w2, hres, s2])
/-! ### the row's step: written by a program of mine (frame.py) after the guide's own frame -/
namespace fnWalls
open Go.ChangeShapes Go.WideShapes Go.ChangeAt Go.RowKit Go.Joins
open Go.ChangeMaps (open_string shut_string)
set_option linter.unusedVariables false
theorem own : ownKnob Try.prog.godebug = none := by kernel_rfl
theorem laidOut : laidOutB Try.prog = true := by kernel_rfl
set_option maxRecDepth 100000 in
theorem lifted (os : Os) (started : os.Started) (H : Type) (enc : TypeId × Value → H) :
    ReturnsInHanded {} Try.checked os 6 .any (Rows.fnWallsSpec.pre6 enc Try.prog Try.f6 Rows.fnWallsRow.domain false) (Rows.fnWallsSpec.post enc Try.prog Try.f6 false true false false) := by
  refine returnsInHanded_of_change (C := Try.checked) own started (by kernel_rfl) Try.func6
    (ChangeSpec.witness6 (enc := enc) (C := Try.checked) false ⟨#[], #[.slice none 0 0, .slice none 0 0], []⟩ 8 (by kernel_rfl) (by kernel_rfl) (by kernel_rfl) (by kernel_rfl)) ?_
  intro W base args ds gs before hval0 hW hcnd _
  have hval : ∀ (j : Nat) t v, Try.f6.params[j]? = some t → args[j]? = some v → Value.okWide Try.prog W .any base t v := hval0
  have hW' := hW
  obtain ⟨p, q, hA0, hV, rfl, hfz, hnd⟩ := hW
  have hA : DataW.TrodAll enc Try.prog W 0 (fun _ => true) true Try.f6.params.toList args.toList ds p := hA0
  rw [Try.params6] at hA hval
  obtain ⟨v0, vs0, d0, ds0, p0, q0, hargs, rfl, rfl, h0, r0⟩ := trodAll_cons hA
  obtain ⟨v1, vs1, d1, ds1, p1, q1, rfl, rfl, rfl, h1, r1⟩ := trodAll_cons r0
  obtain ⟨rfl, rfl, rfl⟩ := trodAll_nil r1
  obtain rfl : args = #[v0, v1] := by cases args; simp_all
  obtain ⟨rfl, rfl⟩ := trodVars_none hV
  have k0 := h0
  have lt0 : ∀ x ∈ p0, x.block < W.heap.size := by obtain ⟨m, hm⟩ := k0; exact DataW.trod_lt m _ _ _ hm
  have k1 := h1
  have lt1 : ∀ x ∈ p1, x.block < W.heap.size := by obtain ⟨m, hm⟩ := k1; exact DataW.trod_lt m _ _ _ hm
  obtain ⟨b0, l0, c0, rfl⟩ := okWide_slice Try.underlying40 (hval 0 40 v0 rfl rfl)
  obtain ⟨z0, w0⟩ := u8x_of_trod Try.underlying40 Try.underlying5 (by kernel_rfl) h0
  obtain ⟨b1, l1, c1, rfl⟩ := okWide_slice Try.underlying40 (hval 1 40 v1 rfl rfl)
  obtain ⟨z1, w1⟩ := u8x_of_trod Try.underlying40 Try.underlying5 (by kernel_rfl) h1
  clear hA0 hval0
  refine (walk_FnWalls b0 l0 c0 z0 b1 l1 c1 z1 W w0 w1).mono fun e W' ⟨he, bel⟩ => ?_
  subst he
  exact ⟨_, rfl, _, _, _, [], _, [], hW', trodAll_mk1 (shut_bool Try.underlying4 _), (trodAll_cons_mk (Below.trod laidOut (by kernel_rfl) (of_decide_eq_true (by kernel_rfl)) k0 bel lt0) (trodAll_cons_mk (Below.trod laidOut (by kernel_rfl) (of_decide_eq_true (by kernel_rfl)) k1 bel lt1) trodAll_mk0)), rfl, bel.frame _, fun h => by cases h⟩
theorem over : Rows.fnWallsRow.holds Try.pinned (OpenSpec.ofChange Rows.fnWallsSpec) :=
  OpenClaim.holds_of_wide 6 Try.f6 rfl rfl rfl rfl rfl rfl rfl ⟨rfl, rfl, rfl, rfl, rfl⟩ rfl rfl rfl rfl rfl (by kernel_rfl) Try.func6 (by kernel_rfl)
    (of_decide_eq_true (by kernel_rfl)) (by unfold Func.isWrapper; first | (rw [if_pos (by decide +kernel)]; kernel_rfl) | (rw [if_neg (by decide +kernel)]; exact ⟨rfl, rfl⟩))
    (fun os started H enc _ => lifted os started H enc)
theorem proved : Rows.FnWallsSaid := over
#print axioms proved
end fnWalls
end Go.Proofs.Ytehcmocknmfhcaa
