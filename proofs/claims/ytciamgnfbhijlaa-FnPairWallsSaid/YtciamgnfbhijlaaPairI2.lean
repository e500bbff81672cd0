/- The program's search for the best pair of courses: a state that is not yet known (printed by genfrom.py). -/
import Derived.Test.YtciamgnfbhijlaaPairI1
import Derived.Test.YtciamgnfbhijlaaPhase
import Derived.Deep.DeepCutAuto
namespace Go.Proofs.Ytciamgnfbhijlaa
open Go.RowKit
set_option linter.unusedSimpArgs false
set_option linter.unusedVariables false
set_option linter.unnecessarySimpa false

theorem seven (R : World → Prop) {a0 a1 a2 a3 a4 a5 a6 : World} (h0 : R a0) (h1 : R a1) (h2 : R a2) (h3 : R a3) (h4 : R a4) (h5 : R a5) (h6 : R a6) :
    ∃ F : Nat → World, (∀ z, R (F z)) ∧ F 0 = a0 ∧ F 1 = a1 ∧ F 2 = a2 ∧ F 3 = a3 ∧ F 4 = a4 ∧ F 5 = a5 ∧ F 6 = a6 :=
  ⟨fun z => match z with | 0 => a0 | 1 => a1 | 2 => a2 | 3 => a3 | 4 => a4 | 5 => a5 | _ => a6, fun z => by
    match z with
    | 0 => exact h0
    | 1 => exact h1
    | 2 => exact h2
    | 3 => exact h3
    | 4 => exact h4
    | 5 => exact h5
    | _ + 6 => exact h6, rfl, rfl, rfl, rfl, rfl, rfl, rfl⟩
theorem consL_vals (c : UInt8) (y : PR) : pcN (consL c y) = pcN y + cutZ c ∧ ppN (consL c y) = ppN y + 1 ∧ mkS (consL c y).1 = mkS [c] ++ mkS y.1 ∧ mkS (consL c y).2 = mkS y.2 := by
  refine ⟨?_, ?_, ?_, ?_⟩
  · unfold consL pcN; simp only [cutN_cons]; omega
  · unfold consL ppN; simp only [List.length_cons]; omega
  · rw [mkS_app]; rfl
  · rfl
theorem consR_vals (c : UInt8) (y : PR) : pcN (consR c y) = pcN y + cutZ c ∧ ppN (consR c y) = ppN y + 1 ∧ mkS (consR c y).1 = mkS y.1 ∧ mkS (consR c y).2 = mkS [c] ++ mkS y.2 := by
  refine ⟨?_, ?_, ?_, ?_⟩
  · unfold consR pcN; simp only [cutN_cons]; omega
  · unfold consR ppN; simp only [List.length_cons]; omega
  · rfl
  · rw [mkS_app]; rfl
theorem one_txt (c : UInt8) : ∃ E : ByteArray, mkS [c] = E ∧ E.size = 1 ∧ ∀ h : 0 < E.size, E[0] = c := ⟨mkS [c], rfl, rfl, fun _ => rfl⟩
theorem call_with (p q cc : Int) (c : UInt8) (hc : cutZ c = cc) (p0 : 0 ≤ p) (p1 : p ≤ 1000) (q0 : 0 ≤ q) (q1 : q ≤ 1000) (W : World) : Calls Try.prog 74 #[.agg #[.int .i64 p, .int .i64 q], .int .u8 (c.toNat : Int)] W (RetE (.agg #[.int .i64 (p + cc), .int .i64 (q + 1)]) W) := by
  have h1 := i_with p q (c.toNat : Int) W (by omega) (by omega) (by omega) (by omega)
  rw [show (if cutI (c.toNat : Int) then (1 : Int) else 0) = cc from hc] at h1
  exact h1
set_option maxRecDepth 100000 in
set_option maxHeartbeats 16000000 in
theorem i_from_new {L lap : Int} {g bm bk bb : Nat} (hL : 1 ≤ L) (hL2 : L ≤ 80) (hl : 1 ≤ lap) (K : Nat)
    (ih : ∀ (at_ lo hi : Int), L - at_ ≤ K → StP L lap at_ lo hi → ∀ dn w, PI L lap g bm bk bb dn w → Calls Try.prog 51 #[.pointer (some ⟨g, 0, none⟩), .agg #[.int .i64 at_, .int .i64 lo, .int .i64 hi]] w (RetFr L lap at_ lo hi g bm bk bb dn w))
    (at_ lo hi : Int) (hK : L - at_ ≤ ((K + 1 : Nat) : Int)) (hS : StP L lap at_ lo hi) (x0 : 0 ≤ at_) (x1 : at_ < L) (dn : Nat → Bool) (hd : dn (codeN at_ lo hi) = false) (w : World) (hP : PI L lap g bm bk bb dn w) :
    Calls Try.prog 51 #[.pointer (some ⟨g, 0, none⟩), .agg #[.int .i64 at_, .int .i64 lo, .int .i64 hi]] w (RetFr L lap at_ lo hi g bm bk bb dn w) := by
  have HP := Lib.hid hP
  have HS := Lib.hid hS
  have HD := Lib.hid hd
  have HIH := Lib.hid ih
  have l0 := hS.lo0
  have l1 := hS.lo1
  have l2 := hS.lo2
  have y0 := hS.hi0
  have y1 := hS.hi1
  have y2 := hS.hi2
  obtain ⟨hg, hbm, hbk, hbb⟩ := hP.lt
  obtain ⟨c0, c1, c2, c3, c4, c5⟩ := five_cells hP.box
  rcases hP.look x0 (by omega) l0 (show lo ≤ 80 by omega) y0 (show hi ≤ 80 by omega) with ⟨_, hlook⟩ | ⟨h, _⟩
  rotate_left
  · rw [hd] at h; cases h
  have HLK := Lib.hid hlook
  have hne : (at_ == L) = false := by simp; omega
  clear hP hd hlook hS ih
  go_enter Try.func51, Try.ntmps51
  go_wp2
  (try go_quiet (fail))
  (try go_wp2)
  refine gen_world (fun W => Ext w W ∧ W.heap[w.heap.size]? = some (.cells #[.int .i64 at_, .int .i64 lo, .int .i64 hi] 88 (0, 0)) ∧ W.heap[w.heap.size + 1]? = some (.cells #[.int .i64 0, .int .i64 0, .string ⟨#[]⟩, .string ⟨#[]⟩] 54 (0, 0))) ⟨?_, ?_, ?_⟩ ?_
  · repeat' (first | exact Ext.refl _ | refine Ext.drewN ?_ _ | refine Ext.drew ?_ | refine Ext.alloc ?_ _)
  · exact blk_two1 w _ _
  · exact blk_two2 w _ _
  rintro W ⟨eW, hs, hr⟩
  replace c0 := eW.cell c0
  replace c1 := eW.cell c1
  replace c2 := eW.cell c2
  replace c3 := eW.cell c3
  replace c4 := eW.cell c4
  obtain ⟨s0, s1, s2, s8⟩ := three_cells hs
  obtain ⟨r0, r1, r2, r3, f0, f1, f2, f3, f8⟩ := four_cells hr
  have hk0 : ∀ nq, (Instr.lookup 83 (.map (some bk)) (.agg #[.int .i64 at_, .int .i64 lo, .int .i64 hi]) false).run Try.prog (W.drewN nq) = .ok (.bool false) (W.drewN nq) := fun nq => (HLK.out _ (eW.drewN nq)).1
  have hk1 : ∀ nq, (Instr.lookup 83 (.map (some bb)) (.agg #[.int .i64 at_, .int .i64 lo, .int .i64 hi]) false).run Try.prog (W.drewN nq) = .ok (.bool false) (W.drewN nq) := fun nq => (HLK.out _ (eW.drewN nq)).2
  have HW : Hid (∀ W', Ext W W' → W'.heap[w.heap.size]? = some (.cells #[.int .i64 at_, .int .i64 lo, .int .i64 hi] 88 (0, 0)) ∧ W'.heap[w.heap.size + 1]? = some (.cells #[.int .i64 0, .int .i64 0, .string ⟨#[]⟩, .string ⟨#[]⟩] 54 (0, 0))) := Lib.hid (fun W' e => ⟨e.block hs, e.block hr⟩)
  have EW := Lib.hid eW
  clear hs hr eW
  go_quiet (fail)
  go_upto_region 5 with fail
  refine gen_world (fun W2 => Ext W W2) ?_ ?_
  · repeat' (first | exact Ext.refl _ | refine Ext.drewN ?_ _ | refine Ext.drew ?_)
  clear c0 c1 c2 c3 c4 s0 s1 s2 s8 r0 r1 r2 r3 f0 f1 f2 f3 hk0 hk1
  rintro W2 e2
  have hW2 := e2.size
  have HW2 := Lib.hid (HW.out _ e2)
  have HE2 := Lib.hid (EW.out.trans e2)
  have hw2 := HE2.out.size
  clear e2 HW EW
  go_wp2
  go_loopw [51, 7] (fun kv fv wr => ∃ (k : Nat) (o : Option PR) (dn' : Nat → Bool) (u : Bool), k ≤ 4 ∧ kv = .int .i64 k ∧ fv = .bool u ∧ Hid (u = o.isSome) ∧ Hid (IsBest (Upto (ChoK L lap at_ lo hi) k) o) ∧ Hid (RI w L lap at_ lo hi g bm bk bb W2.heap.size o dn dn' wr)) (fun kv _ _ => 4 - (intOf kv).toNat)
  case atStart =>
    refine ⟨0, none, dn, false, by omega, rfl, rfl, Lib.hid rfl, Lib.hid (isBest_zero _), ?_⟩
    refine gen_world (fun W3 => RI w L lap at_ lo hi g bm bk bb W2.heap.size none dn dn W3) ?_ (fun W3 h => Lib.hid h)
    refine ⟨old_blkP HW2.out.1, old_blkP HW2.out.2, heap_alloc_new W2 _, (HP.out.ext HE2.out).ext ((Ext.refl _).alloc _), ((ChgS.refl _ w).ext HE2.out).ext ((Ext.refl _).alloc _), ?_, ⟨hg, hbm, hbk, hbb⟩, fun _ _ _ _ _ _ _ _ _ => rfl⟩
    exact lt_of_block HW2.out.2
  case round =>
    obtain ⟨k, o, dn', u, hk, rfl, rfl, HU, HB, HR⟩ := hrel
    have hgs := HR.out.gs
    have hlt := HR.out.lt
    have hbl := lt_of_block HR.out.now
    obtain ⟨c0, c1, c2, c3, c4, c5⟩ := five_cells HR.out.pi.box
    obtain ⟨s0, s1, s2, s8⟩ := three_cells HR.out.sb
    by_cases hkl : k < 4
    · have hk4 : k = 0 ∨ k = 1 ∨ k = 2 ∨ k = 3 := by omega
      rcases hk4 with rfl | rfl | rfl | rfl
      · obtain ⟨m, hm⟩ : ∃ m, mayP L lap at_ lo hi false false = m := ⟨_, rfl⟩
        have HM : Hid (∀ W, PBox g L lap (.map (some bm)) (.map (some bk)) (.map (some bb)) W → Calls Try.prog 72 #[.pointer (some ⟨g, 0, none⟩), .agg #[.int .i64 at_, .int .i64 lo, .int .i64 hi], .bool false, .bool false] W (RetE (.bool m) W)) := Lib.hid (fun W h => by
          have := i_may g L lap _ _ _ at_ lo hi false false W h (by omega) (by omega) (by omega) (by omega) (by omega) (by omega)
          rw [hm] at this
          exact this)
        have HMM := Lib.hid hm
        clear hm
        cases m
        · have HN := Lib.hid (isBest_skip HB.out (fun x h => by have h2 := HMM.out; rw [show mayP L lap at_ lo hi false false = true from h.1] at h2; cases h2))
          go_wp2_with (go_at_call 72; refine (HM.out _ HR.out.pi.box).mono ?_; rintro e w1 ⟨rfl, e1⟩)
          go_roundw
          case rel => first | exact ⟨1, o, dn', u, by omega, by go_num, rfl, HU, HN, Lib.hid (HR.out.ext e1)⟩ | ((repeat apply Exists.intro); exact ⟨⟨1, o, dn', u, by omega, by go_num, rfl, HU, HN, Lib.hid (HR.out.ext e1)⟩, rfl⟩)
          case measure => simp [intOf]
        · have hst := HS.out.next x1 HMM.out
          have HST : Hid (StP L lap (at_ + 1) lo hi) := Lib.hid hst
          have HC : Hid (∀ x, ChoK L lap at_ lo hi 0 x ↔ ∃ y, SetI L lap (at_ + 1) lo hi y ∧ x = fPair at_ lo hi false false y) := Lib.hid (fun x => ⟨fun h => h.2, fun h => ⟨HMM.out, h⟩⟩)
          clear hst
          go_wp2_with (go_at_call 72; refine (HM.out _ HR.out.pi.box).mono ?_; rintro e w1 ⟨rfl, e1⟩; replace c0 := e1.cell c0; replace s0 := e1.cell s0; replace s1 := e1.cell s1; replace s2 := e1.cell s2; have hs1 := e1.size)
          refine (HIH.out (at_ + 1) lo hi (by omega) HST.out dn' _ ((HR.out.ext e1).ext ((Ext.refl _).alloc _)).pi).mono ?_
          rintro e w6 ⟨o', dn2, ho', he, pi6, ch6, old6⟩
          have HR6 := Lib.hid (((HR.out.ext e1).ext ((Ext.refl _).alloc _)).call pi6 ch6 old6)
          have hx6 := ch6.blk (heap_alloc_new w1 _) (by unfold TM; omega)
          have HX6 := Lib.hid hx6
          have HO' := Lib.hid ho'
          have hbn6 := lt_of_block HR6.out.now
          have hbx6 := lt_of_block hx6
          have hbx0 : W2.heap.size < w1.heap.size := by omega
          have hgs6 := HR6.out.pi.lt
          clear pi6 ch6 old6 hx6 ho' e1 HR HM HIH HLK c0 c1 c2 c3 c4 s0 s1 s2
          cases o' with
          | none =>
            have he' : e = .returned (.tuple #[.agg #[.int .i64 0, .int .i64 0, .string ⟨#[]⟩, .string ⟨#[]⟩], .bool false]) := he
            subst he'
            clear he
            have HN := Lib.hid (isBest_skip HB.out (fun x h => by obtain ⟨y, hy, _⟩ := (HC.out x).1 h; exact HO'.out.2 rfl y hy))
            go_wp2
            go_roundw
            case rel => first | exact ⟨1, o, dn2, u, by omega, by go_num, rfl, HU, HN, Lib.hid (HR6.out.ext ((Ext.refl _).alloc _))⟩ | ((repeat apply Exists.intro); exact ⟨⟨1, o, dn2, u, by omega, by go_num, rfl, HU, HN, Lib.hid (HR6.out.ext ((Ext.refl _).alloc _))⟩, rfl⟩)
            case measure => simp [intOf]
          | some y =>
            have he' : e = .returned (.tuple #[.agg #[.int .i64 (pcN y), .int .i64 (ppN y), .string (mkS y.1), .string (mkS y.2)], .bool true]) := he
            obtain ⟨b1, b2, b3, b4, b5, b6⟩ := setR_bd (HO'.out.1 y rfl).1.1
            obtain ⟨ll, ls⟩ : ∃ l, y.1.length = l := ⟨_, rfl⟩
            have hz1 := mkS_size y.1
            have hz2 := mkS_size y.2
            have hy1 : Hid (pcN (fPair at_ lo hi false false y) = pcN (fPair at_ lo hi false false y)) := Lib.hid rfl
            obtain ⟨y', hy'⟩ : ∃ y', fPair at_ lo hi false false y = y' := ⟨_, rfl⟩
            have hyv : pcN y' = pcN y ∧ ppN y' = ppN y ∧ mkS y'.1 = mkS y.1 ∧ mkS y'.2 = mkS y.2 := by rw [← hy']; exact ⟨rfl, rfl, rfl, rfl⟩
            have HNX := Lib.hid (isBest_succ HB.out ((HO'.out.map (ltP_fPair at_ lo hi false false)).congr (fun x => HC.out x)))
            rw [show Option.map (fPair at_ lo hi false false) (some y) = some y' by rw [← hy']; rfl] at HNX
            obtain ⟨p1, hp1⟩ : ∃ p, pcN y = p := ⟨_, rfl⟩
            obtain ⟨p2, hp2⟩ : ∃ p, ppN y = p := ⟨_, rfl⟩
            obtain ⟨t1, ht1⟩ : ∃ t, mkS y.1 = t := ⟨_, rfl⟩
            obtain ⟨t2, ht2⟩ : ∃ t, mkS y.2 = t := ⟨_, rfl⟩
            rw [hp1, hp2, ht1, ht2] at hyv he'
            rw [hp1] at b3 b4
            rw [hp2] at b5 b6
            rw [ht1] at hz1
            rw [ht2] at hz2
            subst he'
            have hts1 : t1.size ≤ 80 := by omega
            have hts2 : t2.size ≤ 80 := by omega
            have HYV := Lib.hid hyv
            clear he hy' hyv hy1 hp1 hp2 ht1 ht2 ll ls hz1 hz2 b1 b2 HB HC HO'
            obtain ⟨s0, s1, s2, s8⟩ := three_cells HR6.out.sb
            obtain ⟨z0, z1, z2, z8⟩ := three_cells HX6.out
            go_upto_region 17 with fail
            refine gen_world (fun W => RI w L lap at_ lo hi g bm bk bb W2.heap.size o dn dn2 W ∧ W.heap[w1.heap.size]? = some (.cells #[.int .i64 (at_ + 1), .int .i64 lo, .int .i64 hi] 88 (0, 0)) ∧ W.heap[w6.heap.size]? = some (.cells #[.int .i64 p1, .int .i64 p2, .string t1, .string t2] 54 (0, 0))) ⟨HR6.out.ext ((Ext.refl _).alloc _), old_blkP HX6.out, heap_alloc_new w6 _⟩ ?_
            rintro W9 ⟨hr9, hx9, hy9⟩
            have HR9 := Lib.hid hr9
            have HY9 := Lib.hid hy9
            clear s0 s1 s2 s8 z0 z1 z2 z8 hr9 hx9 hy9
            obtain ⟨hv1, hv2, hv3, hv4⟩ := HYV.out
            have HBT : Hid (∀ W, RI w L lap at_ lo hi g bm bk bb W2.heap.size o dn dn2 W → RI w L lap at_ lo hi g bm bk bb W2.heap.size (some y') dn dn2 ((((W.setCell ⟨W2.heap.size, 0, none⟩ (.int .i64 p1)).setCell ⟨W2.heap.size, 1, none⟩ (.int .i64 p2)).setCell ⟨W2.heap.size, 2, none⟩ (.string t1)).setCell ⟨W2.heap.size, 3, none⟩ (.string t2))) := Lib.hid (fun W h => by
              have h2 := h.better y'
              rw [hv1, hv2, hv3, hv4] at h2
              exact h2)
            cases o with
            | none =>
              have hu : u = false := HU.out
              subst hu
              have HN : Hid (IsBest (Upto (ChoK L lap at_ lo hi) 1) (some y')) := HNX
              obtain ⟨n0, n1, n2, n3, i0, i1, i2, i3, i8⟩ := four_cells HR9.out.now
              obtain ⟨v0, v1, v2, v3, j0, j1, j2, j3, j8⟩ := four_cells HY9.out
              clear hv1 hv2 hv3 hv4
              go_wp2
              go_roundw
              case rel => first | exact ⟨1, some y', dn2, true, by omega, by go_num, rfl, Lib.hid rfl, HN, Lib.hid (HBT.out _ HR9.out)⟩ | ((repeat apply Exists.intro); exact ⟨⟨1, some y', dn2, true, by omega, by go_num, rfl, Lib.hid rfl, HN, Lib.hid (HBT.out _ HR9.out)⟩, rfl⟩)
              case measure => simp [intOf]
            | some b =>
              have hu : u = true := HU.out
              subst hu
              obtain ⟨d, hd⟩ : ∃ d, ltP y' b = d := ⟨_, rfl⟩
              have HLE : Hid (∀ W, Calls Try.prog 75 #[.agg #[.int .i64 p1, .int .i64 p2, .string t1, .string t2], .agg #[.int .i64 (pcN b), .int .i64 (ppN b), .string (mkS b.1), .string (mkS b.2)]] W (RetE (.bool d) W)) := Lib.hid (fun W => by
                have h := i_lessP (pcN y') (ppN y') (mkS y'.1) (mkS y'.2) (pcN b) (ppN b) (mkS b.1) (mkS b.2) W
                rw [lesG_eq, hd, hv1, hv2, hv3, hv4] at h
                exact h)
              have HN : Hid (IsBest (Upto (ChoK L lap at_ lo hi) 1) (if d = true then some y' else some b)) := Lib.hid (by
                have h := HNX.out
                simp only [pickP] at h
                rw [hd] at h
                exact h)
              clear hd hv1 hv2 hv3 hv4
              have hn9 : Hid (∀ W, RI w L lap at_ lo hi g bm bk bb W2.heap.size (some b) dn dn2 W → W.heap[W2.heap.size]? = some (.cells #[.int .i64 (pcN b), .int .i64 (ppN b), .string (mkS b.1), .string (mkS b.2)] 54 (0, 0))) := Lib.hid (fun W h => h.now)
              obtain ⟨n0, n1, n2, n3, i0, i1, i2, i3, i8⟩ := four_cells (hn9.out _ HR9.out)
              obtain ⟨v0, v1, v2, v3, j0, j1, j2, j3, j8⟩ := four_cells HY9.out
              cases d
              · go_wp2_with (go_at_call 75; refine (HLE.out _).mono ?_; rintro e w10 ⟨rfl, e10⟩)
                go_roundw
                case rel => first | exact ⟨1, some b, dn2, true, by omega, by go_num, rfl, Lib.hid rfl, Lib.hid (by simpa using HN.out), Lib.hid (HR9.out.ext e10)⟩ | ((repeat apply Exists.intro); exact ⟨⟨1, some b, dn2, true, by omega, by go_num, rfl, Lib.hid rfl, Lib.hid (by simpa using HN.out), Lib.hid (HR9.out.ext e10)⟩, rfl⟩)
                case measure => simp [intOf]
              · go_wp2_with (go_at_call 75; refine (HLE.out _).mono ?_; rintro e w10 ⟨rfl, e10⟩; have HR10 := Lib.hid (HR9.out.ext e10); have hy10 := e10.block HY9.out; obtain ⟨n0', n1', n2', n3', i0', i1', i2', i3', i8'⟩ := four_cells (hn9.out _ HR10.out); obtain ⟨v0', v1', v2', v3', j0', j1', j2', j3', j8'⟩ := four_cells hy10; clear e10 hy10)
                go_roundw
                case rel => first | exact ⟨1, some y', dn2, true, by omega, by go_num, rfl, Lib.hid rfl, Lib.hid (by simpa using HN.out), Lib.hid (HBT.out _ HR10.out)⟩ | ((repeat apply Exists.intro); exact ⟨⟨1, some y', dn2, true, by omega, by go_num, rfl, Lib.hid rfl, Lib.hid (by simpa using HN.out), Lib.hid (HBT.out _ HR10.out)⟩, rfl⟩)
                case measure => simp [intOf]
      · obtain ⟨m, hm⟩ : ∃ m, mayP L lap at_ lo hi true false = m := ⟨_, rfl⟩
        have HM : Hid (∀ W, PBox g L lap (.map (some bm)) (.map (some bk)) (.map (some bb)) W → Calls Try.prog 72 #[.pointer (some ⟨g, 0, none⟩), .agg #[.int .i64 at_, .int .i64 lo, .int .i64 hi], .bool true, .bool false] W (RetE (.bool m) W)) := Lib.hid (fun W h => by
          have := i_may g L lap _ _ _ at_ lo hi true false W h (by omega) (by omega) (by omega) (by omega) (by omega) (by omega)
          rw [hm] at this
          exact this)
        have HMM := Lib.hid hm
        clear hm
        cases m
        · have HN := Lib.hid (isBest_skip HB.out (fun x h => by have h2 := HMM.out; rw [show mayP L lap at_ lo hi true false = true from h.1] at h2; cases h2))
          go_wp2_with (go_at_call 72; refine (HM.out _ HR.out.pi.box).mono ?_; rintro e w1 ⟨rfl, e1⟩)
          go_roundw
          case rel => first | exact ⟨2, o, dn', u, by omega, by go_num, rfl, HU, HN, Lib.hid (HR.out.ext e1)⟩ | ((repeat apply Exists.intro); exact ⟨⟨2, o, dn', u, by omega, by go_num, rfl, HU, HN, Lib.hid (HR.out.ext e1)⟩, rfl⟩)
          case measure => simp [intOf]
        · have hst := HS.out.next x1 HMM.out
          have HST : Hid (StP L lap (at_ + 1) (at_ + 1) hi) := Lib.hid hst
          have HC : Hid (∀ x, ChoK L lap at_ lo hi 1 x ↔ ∃ y, SetI L lap (at_ + 1) (at_ + 1) hi y ∧ x = fPair at_ lo hi true false y) := Lib.hid (fun x => ⟨fun h => h.2, fun h => ⟨HMM.out, h⟩⟩)
          clear hst
          go_wp2_with (go_at_call 72; refine (HM.out _ HR.out.pi.box).mono ?_; rintro e w1 ⟨rfl, e1⟩; replace c0 := e1.cell c0; replace s0 := e1.cell s0; replace s1 := e1.cell s1; replace s2 := e1.cell s2; have hs1 := e1.size)
          refine (HIH.out (at_ + 1) (at_ + 1) hi (by omega) HST.out dn' _ ((HR.out.ext e1).ext ((Ext.refl _).alloc _)).pi).mono ?_
          rintro e w6 ⟨o', dn2, ho', he, pi6, ch6, old6⟩
          have HR6 := Lib.hid (((HR.out.ext e1).ext ((Ext.refl _).alloc _)).call pi6 ch6 old6)
          have hx6 := ch6.blk (heap_alloc_new w1 _) (by unfold TM; omega)
          have HX6 := Lib.hid hx6
          have HO' := Lib.hid ho'
          have hbn6 := lt_of_block HR6.out.now
          have hbx6 := lt_of_block hx6
          have hbx0 : W2.heap.size < w1.heap.size := by omega
          have hgs6 := HR6.out.pi.lt
          clear pi6 ch6 old6 hx6 ho' e1 HR HM HIH HLK c0 c1 c2 c3 c4 s0 s1 s2
          cases o' with
          | none =>
            have he' : e = .returned (.tuple #[.agg #[.int .i64 0, .int .i64 0, .string ⟨#[]⟩, .string ⟨#[]⟩], .bool false]) := he
            subst he'
            clear he
            have HN := Lib.hid (isBest_skip HB.out (fun x h => by obtain ⟨y, hy, _⟩ := (HC.out x).1 h; exact HO'.out.2 rfl y hy))
            go_wp2
            go_roundw
            case rel => first | exact ⟨2, o, dn2, u, by omega, by go_num, rfl, HU, HN, Lib.hid (HR6.out.ext ((Ext.refl _).alloc _))⟩ | ((repeat apply Exists.intro); exact ⟨⟨2, o, dn2, u, by omega, by go_num, rfl, HU, HN, Lib.hid (HR6.out.ext ((Ext.refl _).alloc _))⟩, rfl⟩)
            case measure => simp [intOf]
          | some y =>
            have he' : e = .returned (.tuple #[.agg #[.int .i64 (pcN y), .int .i64 (ppN y), .string (mkS y.1), .string (mkS y.2)], .bool true]) := he
            obtain ⟨b1, b2, b3, b4, b5, b6⟩ := setR_bd (HO'.out.1 y rfl).1.1
            obtain ⟨ll, ls⟩ : ∃ l, y.1.length = l := ⟨_, rfl⟩
            have hz1 := mkS_size y.1
            have hz2 := mkS_size y.2
            have hy1 : Hid (pcN (fPair at_ lo hi true false y) = pcN (fPair at_ lo hi true false y)) := Lib.hid rfl
            obtain ⟨y', hy'⟩ : ∃ y', fPair at_ lo hi true false y = y' := ⟨_, rfl⟩
            have hyv : pcN y' = pcN y + cutZ (widB (at_ + 1 - lo)) ∧ ppN y' = ppN y + 1 ∧ mkS y'.1 = mkS [widB (at_ + 1 - lo)] ++ mkS y.1 ∧ mkS y'.2 = mkS y.2 := by rw [← hy']; exact consL_vals _ _
            have HNX := Lib.hid (isBest_succ HB.out ((HO'.out.map (ltP_fPair at_ lo hi true false)).congr (fun x => HC.out x)))
            rw [show Option.map (fPair at_ lo hi true false) (some y) = some y' by rw [← hy']; rfl] at HNX
            obtain ⟨p1, hp1⟩ : ∃ p, pcN y = p := ⟨_, rfl⟩
            obtain ⟨p2, hp2⟩ : ∃ p, ppN y = p := ⟨_, rfl⟩
            obtain ⟨t1, ht1⟩ : ∃ t, mkS y.1 = t := ⟨_, rfl⟩
            obtain ⟨t2, ht2⟩ : ∃ t, mkS y.2 = t := ⟨_, rfl⟩
            rw [hp1, hp2, ht1, ht2] at hyv he'
            rw [hp1] at b3 b4
            rw [hp2] at b5 b6
            rw [ht1] at hz1
            rw [ht2] at hz2
            subst he'
            have hts1 : t1.size ≤ 80 := by omega
            have hts2 : t2.size ≤ 80 := by omega
            have hq1 : 1 ≤ at_ + 1 - lo ∧ at_ + 1 - lo ≤ 4 := ⟨by omega, by omega⟩
            have HP1 := Lib.hid (fun W => i_pieceOf (at_ + 1 - lo) hq1.1 hq1.2 W)
            obtain ⟨u1, hu1⟩ : ∃ u, widB (at_ + 1 - lo) = u := ⟨_, rfl⟩
            rw [hu1] at hyv HP1
            obtain ⟨E1, hE1, hE1s, hE1c⟩ := one_txt u1
            rw [hE1] at hyv HP1
            have hcb1 := cutZ_bd u1
            obtain ⟨e1c, he1⟩ : ∃ c, cutZ u1 = c := ⟨_, rfl⟩
            have HW1 := Lib.hid (fun W => call_with p1 p2 e1c u1 he1 (by omega) (by omega) (by omega) (by omega) W)
            rw [he1] at hyv hcb1
            have hE1p : 0 < E1.size := by omega
            have hs1 : ¬ (9223372036854775807 < E1.size + t1.size) := by omega
            have hs3 : ¬ (9223372036854775807 < 1 + t1.size) := by omega
            have hr1 : IntKind.i64.wrap (at_ + 1 - lo) = at_ + 1 - lo := IntWalk.i64_in _ (by omega)
            have HYV := Lib.hid hyv
            clear he hy' hyv hy1 hp1 hp2 ht1 ht2 ll ls hz1 hz2 b1 b2 HB HC HO'
            obtain ⟨s0, s1, s2, s8⟩ := three_cells HR6.out.sb
            obtain ⟨z0, z1, z2, z8⟩ := three_cells HX6.out
            go_wp2_with (go_at_call 73; refine (HP1.out _).mono ?_; rintro e w' ⟨rfl, rfl⟩)
            refine gen_world (fun W => RI w L lap at_ lo hi g bm bk bb W2.heap.size o dn dn2 W ∧ W.heap[w1.heap.size]? = some (.cells #[.int .i64 (at_ + 1), .int .i64 (at_ + 1), .int .i64 hi] 88 (0, 0)) ∧ W.heap[w6.heap.size]? = some (.cells #[.int .i64 p1, .int .i64 p2, .string t1, .string t2] 54 (0, 0))) ⟨HR6.out.ext ((Ext.refl _).alloc _), old_blkP HX6.out, heap_alloc_new w6 _⟩ ?_
            rintro W7 ⟨hr7, hx7, hy7⟩
            have HR7 := Lib.hid hr7
            have HX7 := Lib.hid hx7
            have HY7 := Lib.hid hy7
            clear s0 s1 s2 s8 z0 z1 z2 z8
            obtain ⟨y0', y1', y2', y3', f0, f1, f2, f3, f8⟩ := four_cells hy7
            clear hr7 hx7 hy7
            go_cut [12] (fun v wx => v = .pointer (some ⟨w6.heap.size, 0, none⟩) ∧ Hid (RI w L lap at_ lo hi g bm bk bb W2.heap.size o dn dn2 wx) ∧ Hid (wx.heap[w1.heap.size]? = some (.cells #[.int .i64 (at_ + 1), .int .i64 (at_ + 1), .int .i64 hi] 88 (0, 0))) ∧ Hid (wx.heap[w6.heap.size]? = some (.cells #[.int .i64 (p1 + e1c), .int .i64 (p2 + 1), .string (E1 ++ t1), .string t2] 54 (0, 0))))
            case first =>
              go_region_with (first | (go_at_call 74; refine (HW1.out _).mono ?_; rintro e w8 ⟨rfl, e8⟩; have hy8 := e8.block HY7.out; have HR8 := Lib.hid ((HR7.out.ext (Ext.refl _).drew).ext e8); have HX8 := Lib.hid (e8.block HX7.out); have HY8 := Lib.hid hy8; obtain ⟨v0', v1', v2', v3', j0, j1, j2, j3, j8⟩ := four_cells hy8; clear hy8 e8))
              all_goals
                first | go_meet | (go_wp2_with fail; go_meet)
                refine ⟨rfl, Lib.hid (((HR8.out.put hbn6 0 _).put hbn6 1 _).put hbn6 2 _), Lib.hid (heap_setN _ _ _ (heap_setN _ _ _ (heap_setN _ _ _ HX8.out (by omega)) (by omega)) (by omega)), Lib.hid (heap_setC 2 _ (heap_setC 1 _ (heap_setC 0 _ HY8.out)))⟩
            case rest =>
              obtain ⟨rfl, HR9, HX9, HY9⟩ := hcut
              obtain ⟨hv1, hv2, hv3, hv4⟩ := HYV.out
              have HBT : Hid (∀ W, RI w L lap at_ lo hi g bm bk bb W2.heap.size o dn dn2 W → RI w L lap at_ lo hi g bm bk bb W2.heap.size (some y') dn dn2 ((((W.setCell ⟨W2.heap.size, 0, none⟩ (.int .i64 (p1 + e1c))).setCell ⟨W2.heap.size, 1, none⟩ (.int .i64 (p2 + 1))).setCell ⟨W2.heap.size, 2, none⟩ (.string (E1 ++ t1))).setCell ⟨W2.heap.size, 3, none⟩ (.string t2))) := Lib.hid (fun W h => by
                have h2 := h.better y'
                rw [hv1, hv2, hv3, hv4] at h2
                exact h2)
              cases o with
              | none =>
                have hu : u = false := HU.out
                subst hu
                have HN : Hid (IsBest (Upto (ChoK L lap at_ lo hi) 2) (some y')) := HNX
                obtain ⟨n0, n1, n2, n3, i0, i1, i2, i3, i8⟩ := four_cells HR9.out.now
                obtain ⟨v0, v1, v2, v3, j0, j1, j2, j3, j8⟩ := four_cells HY9.out
                clear hv1 hv2 hv3 hv4
                go_wp2
                go_roundw
                case rel => first | exact ⟨2, some y', dn2, true, by omega, by go_num, rfl, Lib.hid rfl, HN, Lib.hid (HBT.out _ HR9.out)⟩ | ((repeat apply Exists.intro); exact ⟨⟨2, some y', dn2, true, by omega, by go_num, rfl, Lib.hid rfl, HN, Lib.hid (HBT.out _ HR9.out)⟩, rfl⟩)
                case measure => simp [intOf]
              | some b =>
                have hu : u = true := HU.out
                subst hu
                obtain ⟨d, hd⟩ : ∃ d, ltP y' b = d := ⟨_, rfl⟩
                have HLE : Hid (∀ W, Calls Try.prog 75 #[.agg #[.int .i64 (p1 + e1c), .int .i64 (p2 + 1), .string (E1 ++ t1), .string t2], .agg #[.int .i64 (pcN b), .int .i64 (ppN b), .string (mkS b.1), .string (mkS b.2)]] W (RetE (.bool d) W)) := Lib.hid (fun W => by
                  have h := i_lessP (pcN y') (ppN y') (mkS y'.1) (mkS y'.2) (pcN b) (ppN b) (mkS b.1) (mkS b.2) W
                  rw [lesG_eq, hd, hv1, hv2, hv3, hv4] at h
                  exact h)
                have HN : Hid (IsBest (Upto (ChoK L lap at_ lo hi) 2) (if d = true then some y' else some b)) := Lib.hid (by
                  have h := HNX.out
                  simp only [pickP] at h
                  rw [hd] at h
                  exact h)
                clear hd hv1 hv2 hv3 hv4
                have hn9 : Hid (∀ W, RI w L lap at_ lo hi g bm bk bb W2.heap.size (some b) dn dn2 W → W.heap[W2.heap.size]? = some (.cells #[.int .i64 (pcN b), .int .i64 (ppN b), .string (mkS b.1), .string (mkS b.2)] 54 (0, 0))) := Lib.hid (fun W h => h.now)
                obtain ⟨n0, n1, n2, n3, i0, i1, i2, i3, i8⟩ := four_cells (hn9.out _ HR9.out)
                obtain ⟨v0, v1, v2, v3, j0, j1, j2, j3, j8⟩ := four_cells HY9.out
                cases d
                · go_wp2_with (go_at_call 75; refine (HLE.out _).mono ?_; rintro e w10 ⟨rfl, e10⟩)
                  go_roundw
                  case rel => first | exact ⟨2, some b, dn2, true, by omega, by go_num, rfl, Lib.hid rfl, Lib.hid (by simpa using HN.out), Lib.hid (HR9.out.ext e10)⟩ | ((repeat apply Exists.intro); exact ⟨⟨2, some b, dn2, true, by omega, by go_num, rfl, Lib.hid rfl, Lib.hid (by simpa using HN.out), Lib.hid (HR9.out.ext e10)⟩, rfl⟩)
                  case measure => simp [intOf]
                · go_wp2_with (go_at_call 75; refine (HLE.out _).mono ?_; rintro e w10 ⟨rfl, e10⟩; have HR10 := Lib.hid (HR9.out.ext e10); have hy10 := e10.block HY9.out; obtain ⟨n0', n1', n2', n3', i0', i1', i2', i3', i8'⟩ := four_cells (hn9.out _ HR10.out); obtain ⟨v0', v1', v2', v3', j0', j1', j2', j3', j8'⟩ := four_cells hy10; clear e10 hy10)
                  go_roundw
                  case rel => first | exact ⟨2, some y', dn2, true, by omega, by go_num, rfl, Lib.hid rfl, Lib.hid (by simpa using HN.out), Lib.hid (HBT.out _ HR10.out)⟩ | ((repeat apply Exists.intro); exact ⟨⟨2, some y', dn2, true, by omega, by go_num, rfl, Lib.hid rfl, Lib.hid (by simpa using HN.out), Lib.hid (HBT.out _ HR10.out)⟩, rfl⟩)
                  case measure => simp [intOf]
      · obtain ⟨m, hm⟩ : ∃ m, mayP L lap at_ lo hi false true = m := ⟨_, rfl⟩
        have HM : Hid (∀ W, PBox g L lap (.map (some bm)) (.map (some bk)) (.map (some bb)) W → Calls Try.prog 72 #[.pointer (some ⟨g, 0, none⟩), .agg #[.int .i64 at_, .int .i64 lo, .int .i64 hi], .bool false, .bool true] W (RetE (.bool m) W)) := Lib.hid (fun W h => by
          have := i_may g L lap _ _ _ at_ lo hi false true W h (by omega) (by omega) (by omega) (by omega) (by omega) (by omega)
          rw [hm] at this
          exact this)
        have HMM := Lib.hid hm
        clear hm
        cases m
        · have HN := Lib.hid (isBest_skip HB.out (fun x h => by have h2 := HMM.out; rw [show mayP L lap at_ lo hi false true = true from h.1] at h2; cases h2))
          go_wp2_with (go_at_call 72; refine (HM.out _ HR.out.pi.box).mono ?_; rintro e w1 ⟨rfl, e1⟩)
          go_roundw
          case rel => first | exact ⟨3, o, dn', u, by omega, by go_num, rfl, HU, HN, Lib.hid (HR.out.ext e1)⟩ | ((repeat apply Exists.intro); exact ⟨⟨3, o, dn', u, by omega, by go_num, rfl, HU, HN, Lib.hid (HR.out.ext e1)⟩, rfl⟩)
          case measure => simp [intOf]
        · have hst := HS.out.next x1 HMM.out
          have HST : Hid (StP L lap (at_ + 1) lo (at_ + 1)) := Lib.hid hst
          have HC : Hid (∀ x, ChoK L lap at_ lo hi 2 x ↔ ∃ y, SetI L lap (at_ + 1) lo (at_ + 1) y ∧ x = fPair at_ lo hi false true y) := Lib.hid (fun x => ⟨fun h => h.2, fun h => ⟨HMM.out, h⟩⟩)
          clear hst
          go_wp2_with (go_at_call 72; refine (HM.out _ HR.out.pi.box).mono ?_; rintro e w1 ⟨rfl, e1⟩; replace c0 := e1.cell c0; replace s0 := e1.cell s0; replace s1 := e1.cell s1; replace s2 := e1.cell s2; have hs1 := e1.size)
          refine (HIH.out (at_ + 1) lo (at_ + 1) (by omega) HST.out dn' _ ((HR.out.ext e1).ext ((Ext.refl _).alloc _)).pi).mono ?_
          rintro e w6 ⟨o', dn2, ho', he, pi6, ch6, old6⟩
          have HR6 := Lib.hid (((HR.out.ext e1).ext ((Ext.refl _).alloc _)).call pi6 ch6 old6)
          have hx6 := ch6.blk (heap_alloc_new w1 _) (by unfold TM; omega)
          have HX6 := Lib.hid hx6
          have HO' := Lib.hid ho'
          have hbn6 := lt_of_block HR6.out.now
          have hbx6 := lt_of_block hx6
          have hbx0 : W2.heap.size < w1.heap.size := by omega
          have hgs6 := HR6.out.pi.lt
          clear pi6 ch6 old6 hx6 ho' e1 HR HM HIH HLK c0 c1 c2 c3 c4 s0 s1 s2
          cases o' with
          | none =>
            have he' : e = .returned (.tuple #[.agg #[.int .i64 0, .int .i64 0, .string ⟨#[]⟩, .string ⟨#[]⟩], .bool false]) := he
            subst he'
            clear he
            have HN := Lib.hid (isBest_skip HB.out (fun x h => by obtain ⟨y, hy, _⟩ := (HC.out x).1 h; exact HO'.out.2 rfl y hy))
            go_wp2
            go_roundw
            case rel => first | exact ⟨3, o, dn2, u, by omega, by go_num, rfl, HU, HN, Lib.hid (HR6.out.ext ((Ext.refl _).alloc _))⟩ | ((repeat apply Exists.intro); exact ⟨⟨3, o, dn2, u, by omega, by go_num, rfl, HU, HN, Lib.hid (HR6.out.ext ((Ext.refl _).alloc _))⟩, rfl⟩)
            case measure => simp [intOf]
          | some y =>
            have he' : e = .returned (.tuple #[.agg #[.int .i64 (pcN y), .int .i64 (ppN y), .string (mkS y.1), .string (mkS y.2)], .bool true]) := he
            obtain ⟨b1, b2, b3, b4, b5, b6⟩ := setR_bd (HO'.out.1 y rfl).1.1
            obtain ⟨ll, ls⟩ : ∃ l, y.1.length = l := ⟨_, rfl⟩
            have hz1 := mkS_size y.1
            have hz2 := mkS_size y.2
            have hy1 : Hid (pcN (fPair at_ lo hi false true y) = pcN (fPair at_ lo hi false true y)) := Lib.hid rfl
            obtain ⟨y', hy'⟩ : ∃ y', fPair at_ lo hi false true y = y' := ⟨_, rfl⟩
            have hyv : pcN y' = pcN y + cutZ (widB (at_ + 1 - hi)) ∧ ppN y' = ppN y + 1 ∧ mkS y'.1 = mkS y.1 ∧ mkS y'.2 = mkS [widB (at_ + 1 - hi)] ++ mkS y.2 := by rw [← hy']; exact consR_vals _ _
            have HNX := Lib.hid (isBest_succ HB.out ((HO'.out.map (ltP_fPair at_ lo hi false true)).congr (fun x => HC.out x)))
            rw [show Option.map (fPair at_ lo hi false true) (some y) = some y' by rw [← hy']; rfl] at HNX
            obtain ⟨p1, hp1⟩ : ∃ p, pcN y = p := ⟨_, rfl⟩
            obtain ⟨p2, hp2⟩ : ∃ p, ppN y = p := ⟨_, rfl⟩
            obtain ⟨t1, ht1⟩ : ∃ t, mkS y.1 = t := ⟨_, rfl⟩
            obtain ⟨t2, ht2⟩ : ∃ t, mkS y.2 = t := ⟨_, rfl⟩
            rw [hp1, hp2, ht1, ht2] at hyv he'
            rw [hp1] at b3 b4
            rw [hp2] at b5 b6
            rw [ht1] at hz1
            rw [ht2] at hz2
            subst he'
            have hts1 : t1.size ≤ 80 := by omega
            have hts2 : t2.size ≤ 80 := by omega
            have hq2 : 1 ≤ at_ + 1 - hi ∧ at_ + 1 - hi ≤ 4 := ⟨by omega, by omega⟩
            have HP2 := Lib.hid (fun W => i_pieceOf (at_ + 1 - hi) hq2.1 hq2.2 W)
            obtain ⟨u2, hu2⟩ : ∃ u, widB (at_ + 1 - hi) = u := ⟨_, rfl⟩
            rw [hu2] at hyv HP2
            obtain ⟨E2, hE2, hE2s, hE2c⟩ := one_txt u2
            rw [hE2] at hyv HP2
            have hcb2 := cutZ_bd u2
            obtain ⟨e2c, he2⟩ : ∃ c, cutZ u2 = c := ⟨_, rfl⟩
            have HW2 := Lib.hid (fun W => call_with p1 p2 e2c u2 he2 (by omega) (by omega) (by omega) (by omega) W)
            rw [he2] at hyv hcb2
            have hE2p : 0 < E2.size := by omega
            have hs2 : ¬ (9223372036854775807 < E2.size + t2.size) := by omega
            have hs4 : ¬ (9223372036854775807 < 1 + t2.size) := by omega
            have hr2 : IntKind.i64.wrap (at_ + 1 - hi) = at_ + 1 - hi := IntWalk.i64_in _ (by omega)
            have HYV := Lib.hid hyv
            clear he hy' hyv hy1 hp1 hp2 ht1 ht2 ll ls hz1 hz2 b1 b2 HB HC HO'
            obtain ⟨s0, s1, s2, s8⟩ := three_cells HR6.out.sb
            obtain ⟨z0, z1, z2, z8⟩ := three_cells HX6.out
            go_wp2_with (go_at_call 73; refine (HP2.out _).mono ?_; rintro e w' ⟨rfl, rfl⟩)
            refine gen_world (fun W => RI w L lap at_ lo hi g bm bk bb W2.heap.size o dn dn2 W ∧ W.heap[w1.heap.size]? = some (.cells #[.int .i64 (at_ + 1), .int .i64 lo, .int .i64 (at_ + 1)] 88 (0, 0)) ∧ W.heap[w6.heap.size]? = some (.cells #[.int .i64 p1, .int .i64 p2, .string t1, .string t2] 54 (0, 0))) ⟨HR6.out.ext ((Ext.refl _).alloc _), old_blkP HX6.out, heap_alloc_new w6 _⟩ ?_
            rintro W7 ⟨hr7, hx7, hy7⟩
            have HR7 := Lib.hid hr7
            have HX7 := Lib.hid hx7
            have HY7 := Lib.hid hy7
            clear s0 s1 s2 s8 z0 z1 z2 z8
            obtain ⟨y0', y1', y2', y3', f0, f1, f2, f3, f8⟩ := four_cells hy7
            clear hr7 hx7 hy7
            go_cut [12] (fun v wx => v = .pointer (some ⟨w6.heap.size, 0, none⟩) ∧ Hid (RI w L lap at_ lo hi g bm bk bb W2.heap.size o dn dn2 wx) ∧ Hid (wx.heap[w1.heap.size]? = some (.cells #[.int .i64 (at_ + 1), .int .i64 lo, .int .i64 (at_ + 1)] 88 (0, 0))) ∧ Hid (wx.heap[w6.heap.size]? = some (.cells #[.int .i64 (p1 + e2c), .int .i64 (p2 + 1), .string t1, .string (E2 ++ t2)] 54 (0, 0))))
            case first =>
              go_region_with (first | (go_at_call 74; refine (HW2.out _).mono ?_; rintro e w8 ⟨rfl, e8⟩; have hy8 := e8.block HY7.out; have HR8 := Lib.hid ((HR7.out.ext (Ext.refl _).drew).ext e8); have HX8 := Lib.hid (e8.block HX7.out); have HY8 := Lib.hid hy8; obtain ⟨v0', v1', v2', v3', j0, j1, j2, j3, j8⟩ := four_cells hy8; clear hy8 e8))
              all_goals
                first | go_meet | (go_wp2_with fail; go_meet)
                refine ⟨rfl, Lib.hid (((HR8.out.put hbn6 0 _).put hbn6 1 _).put hbn6 3 _), Lib.hid (heap_setN _ _ _ (heap_setN _ _ _ (heap_setN _ _ _ HX8.out (by omega)) (by omega)) (by omega)), Lib.hid (heap_setC 3 _ (heap_setC 1 _ (heap_setC 0 _ HY8.out)))⟩
            case rest =>
              obtain ⟨rfl, HR9, HX9, HY9⟩ := hcut
              obtain ⟨hv1, hv2, hv3, hv4⟩ := HYV.out
              have HBT : Hid (∀ W, RI w L lap at_ lo hi g bm bk bb W2.heap.size o dn dn2 W → RI w L lap at_ lo hi g bm bk bb W2.heap.size (some y') dn dn2 ((((W.setCell ⟨W2.heap.size, 0, none⟩ (.int .i64 (p1 + e2c))).setCell ⟨W2.heap.size, 1, none⟩ (.int .i64 (p2 + 1))).setCell ⟨W2.heap.size, 2, none⟩ (.string t1)).setCell ⟨W2.heap.size, 3, none⟩ (.string (E2 ++ t2)))) := Lib.hid (fun W h => by
                have h2 := h.better y'
                rw [hv1, hv2, hv3, hv4] at h2
                exact h2)
              cases o with
              | none =>
                have hu : u = false := HU.out
                subst hu
                have HN : Hid (IsBest (Upto (ChoK L lap at_ lo hi) 3) (some y')) := HNX
                obtain ⟨n0, n1, n2, n3, i0, i1, i2, i3, i8⟩ := four_cells HR9.out.now
                obtain ⟨v0, v1, v2, v3, j0, j1, j2, j3, j8⟩ := four_cells HY9.out
                clear hv1 hv2 hv3 hv4
                go_wp2
                go_roundw
                case rel => first | exact ⟨3, some y', dn2, true, by omega, by go_num, rfl, Lib.hid rfl, HN, Lib.hid (HBT.out _ HR9.out)⟩ | ((repeat apply Exists.intro); exact ⟨⟨3, some y', dn2, true, by omega, by go_num, rfl, Lib.hid rfl, HN, Lib.hid (HBT.out _ HR9.out)⟩, rfl⟩)
                case measure => simp [intOf]
              | some b =>
                have hu : u = true := HU.out
                subst hu
                obtain ⟨d, hd⟩ : ∃ d, ltP y' b = d := ⟨_, rfl⟩
                have HLE : Hid (∀ W, Calls Try.prog 75 #[.agg #[.int .i64 (p1 + e2c), .int .i64 (p2 + 1), .string t1, .string (E2 ++ t2)], .agg #[.int .i64 (pcN b), .int .i64 (ppN b), .string (mkS b.1), .string (mkS b.2)]] W (RetE (.bool d) W)) := Lib.hid (fun W => by
                  have h := i_lessP (pcN y') (ppN y') (mkS y'.1) (mkS y'.2) (pcN b) (ppN b) (mkS b.1) (mkS b.2) W
                  rw [lesG_eq, hd, hv1, hv2, hv3, hv4] at h
                  exact h)
                have HN : Hid (IsBest (Upto (ChoK L lap at_ lo hi) 3) (if d = true then some y' else some b)) := Lib.hid (by
                  have h := HNX.out
                  simp only [pickP] at h
                  rw [hd] at h
                  exact h)
                clear hd hv1 hv2 hv3 hv4
                have hn9 : Hid (∀ W, RI w L lap at_ lo hi g bm bk bb W2.heap.size (some b) dn dn2 W → W.heap[W2.heap.size]? = some (.cells #[.int .i64 (pcN b), .int .i64 (ppN b), .string (mkS b.1), .string (mkS b.2)] 54 (0, 0))) := Lib.hid (fun W h => h.now)
                obtain ⟨n0, n1, n2, n3, i0, i1, i2, i3, i8⟩ := four_cells (hn9.out _ HR9.out)
                obtain ⟨v0, v1, v2, v3, j0, j1, j2, j3, j8⟩ := four_cells HY9.out
                cases d
                · go_wp2_with (go_at_call 75; refine (HLE.out _).mono ?_; rintro e w10 ⟨rfl, e10⟩)
                  go_roundw
                  case rel => first | exact ⟨3, some b, dn2, true, by omega, by go_num, rfl, Lib.hid rfl, Lib.hid (by simpa using HN.out), Lib.hid (HR9.out.ext e10)⟩ | ((repeat apply Exists.intro); exact ⟨⟨3, some b, dn2, true, by omega, by go_num, rfl, Lib.hid rfl, Lib.hid (by simpa using HN.out), Lib.hid (HR9.out.ext e10)⟩, rfl⟩)
                  case measure => simp [intOf]
                · go_wp2_with (go_at_call 75; refine (HLE.out _).mono ?_; rintro e w10 ⟨rfl, e10⟩; have HR10 := Lib.hid (HR9.out.ext e10); have hy10 := e10.block HY9.out; obtain ⟨n0', n1', n2', n3', i0', i1', i2', i3', i8'⟩ := four_cells (hn9.out _ HR10.out); obtain ⟨v0', v1', v2', v3', j0', j1', j2', j3', j8'⟩ := four_cells hy10; clear e10 hy10)
                  go_roundw
                  case rel => first | exact ⟨3, some y', dn2, true, by omega, by go_num, rfl, Lib.hid rfl, Lib.hid (by simpa using HN.out), Lib.hid (HBT.out _ HR10.out)⟩ | ((repeat apply Exists.intro); exact ⟨⟨3, some y', dn2, true, by omega, by go_num, rfl, Lib.hid rfl, Lib.hid (by simpa using HN.out), Lib.hid (HBT.out _ HR10.out)⟩, rfl⟩)
                  case measure => simp [intOf]
      · obtain ⟨m, hm⟩ : ∃ m, mayP L lap at_ lo hi true true = m := ⟨_, rfl⟩
        have HM : Hid (∀ W, PBox g L lap (.map (some bm)) (.map (some bk)) (.map (some bb)) W → Calls Try.prog 72 #[.pointer (some ⟨g, 0, none⟩), .agg #[.int .i64 at_, .int .i64 lo, .int .i64 hi], .bool true, .bool true] W (RetE (.bool m) W)) := Lib.hid (fun W h => by
          have := i_may g L lap _ _ _ at_ lo hi true true W h (by omega) (by omega) (by omega) (by omega) (by omega) (by omega)
          rw [hm] at this
          exact this)
        have HMM := Lib.hid hm
        clear hm
        cases m
        · have HN := Lib.hid (isBest_skip HB.out (fun x h => by have h2 := HMM.out; rw [show mayP L lap at_ lo hi true true = true from h.1] at h2; cases h2))
          go_wp2_with (go_at_call 72; refine (HM.out _ HR.out.pi.box).mono ?_; rintro e w1 ⟨rfl, e1⟩)
          go_roundw
          case rel => first | exact ⟨4, o, dn', u, by omega, by go_num, rfl, HU, HN, Lib.hid (HR.out.ext e1)⟩ | ((repeat apply Exists.intro); exact ⟨⟨4, o, dn', u, by omega, by go_num, rfl, HU, HN, Lib.hid (HR.out.ext e1)⟩, rfl⟩)
          case measure => simp [intOf]
        · have hst := HS.out.next x1 HMM.out
          have HST : Hid (StP L lap (at_ + 1) (at_ + 1) (at_ + 1)) := Lib.hid hst
          have HC : Hid (∀ x, ChoK L lap at_ lo hi 3 x ↔ ∃ y, SetI L lap (at_ + 1) (at_ + 1) (at_ + 1) y ∧ x = fPair at_ lo hi true true y) := Lib.hid (fun x => ⟨fun h => h.2, fun h => ⟨HMM.out, h⟩⟩)
          clear hst
          go_wp2_with (go_at_call 72; refine (HM.out _ HR.out.pi.box).mono ?_; rintro e w1 ⟨rfl, e1⟩; replace c0 := e1.cell c0; replace s0 := e1.cell s0; replace s1 := e1.cell s1; replace s2 := e1.cell s2; have hs1 := e1.size)
          refine (HIH.out (at_ + 1) (at_ + 1) (at_ + 1) (by omega) HST.out dn' _ ((HR.out.ext e1).ext ((Ext.refl _).alloc _)).pi).mono ?_
          rintro e w6 ⟨o', dn2, ho', he, pi6, ch6, old6⟩
          have HR6 := Lib.hid (((HR.out.ext e1).ext ((Ext.refl _).alloc _)).call pi6 ch6 old6)
          have hx6 := ch6.blk (heap_alloc_new w1 _) (by unfold TM; omega)
          have HX6 := Lib.hid hx6
          have HO' := Lib.hid ho'
          have hbn6 := lt_of_block HR6.out.now
          have hbx6 := lt_of_block hx6
          have hbx0 : W2.heap.size < w1.heap.size := by omega
          have hgs6 := HR6.out.pi.lt
          clear pi6 ch6 old6 hx6 ho' e1 HR HM HIH HLK c0 c1 c2 c3 c4 s0 s1 s2
          cases o' with
          | none =>
            have he' : e = .returned (.tuple #[.agg #[.int .i64 0, .int .i64 0, .string ⟨#[]⟩, .string ⟨#[]⟩], .bool false]) := he
            subst he'
            clear he
            have HN := Lib.hid (isBest_skip HB.out (fun x h => by obtain ⟨y, hy, _⟩ := (HC.out x).1 h; exact HO'.out.2 rfl y hy))
            go_wp2
            go_roundw
            case rel => first | exact ⟨4, o, dn2, u, by omega, by go_num, rfl, HU, HN, Lib.hid (HR6.out.ext ((Ext.refl _).alloc _))⟩ | ((repeat apply Exists.intro); exact ⟨⟨4, o, dn2, u, by omega, by go_num, rfl, HU, HN, Lib.hid (HR6.out.ext ((Ext.refl _).alloc _))⟩, rfl⟩)
            case measure => simp [intOf]
          | some y =>
            have he' : e = .returned (.tuple #[.agg #[.int .i64 (pcN y), .int .i64 (ppN y), .string (mkS y.1), .string (mkS y.2)], .bool true]) := he
            obtain ⟨b1, b2, b3, b4, b5, b6⟩ := setR_bd (HO'.out.1 y rfl).1.1
            obtain ⟨ll, ls⟩ : ∃ l, y.1.length = l := ⟨_, rfl⟩
            have hz1 := mkS_size y.1
            have hz2 := mkS_size y.2
            have hy1 : Hid (pcN (fPair at_ lo hi true true y) = pcN (fPair at_ lo hi true true y)) := Lib.hid rfl
            obtain ⟨y', hy'⟩ : ∃ y', fPair at_ lo hi true true y = y' := ⟨_, rfl⟩
            have hyv : pcN y' = pcN y + cutZ (widB (at_ + 1 - lo)) + cutZ (widB (at_ + 1 - hi)) ∧ ppN y' = ppN y + 1 + 1 ∧ mkS y'.1 = mkS [widB (at_ + 1 - lo)] ++ mkS y.1 ∧ mkS y'.2 = mkS [widB (at_ + 1 - hi)] ++ mkS y.2 := by
              obtain ⟨q1, q2, q3, q4⟩ := consL_vals (widB (at_ + 1 - lo)) y
              obtain ⟨r1, r2, r3, r4⟩ := consR_vals (widB (at_ + 1 - hi)) (consL (widB (at_ + 1 - lo)) y)
              rw [q1] at r1; rw [q2] at r2; rw [q3] at r3; rw [q4] at r4
              rw [← hy']; exact ⟨r1, r2, r3, r4⟩
            have HNX := Lib.hid (isBest_succ HB.out ((HO'.out.map (ltP_fPair at_ lo hi true true)).congr (fun x => HC.out x)))
            rw [show Option.map (fPair at_ lo hi true true) (some y) = some y' by rw [← hy']; rfl] at HNX
            obtain ⟨p1, hp1⟩ : ∃ p, pcN y = p := ⟨_, rfl⟩
            obtain ⟨p2, hp2⟩ : ∃ p, ppN y = p := ⟨_, rfl⟩
            obtain ⟨t1, ht1⟩ : ∃ t, mkS y.1 = t := ⟨_, rfl⟩
            obtain ⟨t2, ht2⟩ : ∃ t, mkS y.2 = t := ⟨_, rfl⟩
            rw [hp1, hp2, ht1, ht2] at hyv he'
            rw [hp1] at b3 b4
            rw [hp2] at b5 b6
            rw [ht1] at hz1
            rw [ht2] at hz2
            subst he'
            have hts1 : t1.size ≤ 80 := by omega
            have hts2 : t2.size ≤ 80 := by omega
            have hq1 : 1 ≤ at_ + 1 - lo ∧ at_ + 1 - lo ≤ 4 := ⟨by omega, by omega⟩
            have HP1 := Lib.hid (fun W => i_pieceOf (at_ + 1 - lo) hq1.1 hq1.2 W)
            obtain ⟨u1, hu1⟩ : ∃ u, widB (at_ + 1 - lo) = u := ⟨_, rfl⟩
            rw [hu1] at hyv HP1
            obtain ⟨E1, hE1, hE1s, hE1c⟩ := one_txt u1
            rw [hE1] at hyv HP1
            have hcb1 := cutZ_bd u1
            obtain ⟨e1c, he1⟩ : ∃ c, cutZ u1 = c := ⟨_, rfl⟩
            have HW1 := Lib.hid (fun W => call_with p1 p2 e1c u1 he1 (by omega) (by omega) (by omega) (by omega) W)
            rw [he1] at hyv hcb1
            have hE1p : 0 < E1.size := by omega
            have hs1 : ¬ (9223372036854775807 < E1.size + t1.size) := by omega
            have hs3 : ¬ (9223372036854775807 < 1 + t1.size) := by omega
            have hr1 : IntKind.i64.wrap (at_ + 1 - lo) = at_ + 1 - lo := IntWalk.i64_in _ (by omega)
            have hq2 : 1 ≤ at_ + 1 - hi ∧ at_ + 1 - hi ≤ 4 := ⟨by omega, by omega⟩
            have HP2 := Lib.hid (fun W => i_pieceOf (at_ + 1 - hi) hq2.1 hq2.2 W)
            obtain ⟨u2, hu2⟩ : ∃ u, widB (at_ + 1 - hi) = u := ⟨_, rfl⟩
            rw [hu2] at hyv HP2
            obtain ⟨E2, hE2, hE2s, hE2c⟩ := one_txt u2
            rw [hE2] at hyv HP2
            have hcb2 := cutZ_bd u2
            obtain ⟨e2c, he2⟩ : ∃ c, cutZ u2 = c := ⟨_, rfl⟩
            have HW2 := Lib.hid (fun W => call_with (p1 + e1c) (p2 + 1) e2c u2 he2 (by omega) (by omega) (by omega) (by omega) W)
            rw [he2] at hyv hcb2
            have hE2p : 0 < E2.size := by omega
            have hs2 : ¬ (9223372036854775807 < E2.size + t2.size) := by omega
            have hs4 : ¬ (9223372036854775807 < 1 + t2.size) := by omega
            have hr2 : IntKind.i64.wrap (at_ + 1 - hi) = at_ + 1 - hi := IntWalk.i64_in _ (by omega)
            have HYV := Lib.hid hyv
            clear he hy' hyv hy1 hp1 hp2 ht1 ht2 ll ls hz1 hz2 b1 b2 HB HC HO'
            obtain ⟨s0, s1, s2, s8⟩ := three_cells HR6.out.sb
            obtain ⟨z0, z1, z2, z8⟩ := three_cells HX6.out
            go_wp2_with (go_at_call 73; refine (HP1.out _).mono ?_; rintro e w' ⟨rfl, rfl⟩)
            refine gen_world (fun W => RI w L lap at_ lo hi g bm bk bb W2.heap.size o dn dn2 W ∧ W.heap[w1.heap.size]? = some (.cells #[.int .i64 (at_ + 1), .int .i64 (at_ + 1), .int .i64 (at_ + 1)] 88 (0, 0)) ∧ W.heap[w6.heap.size]? = some (.cells #[.int .i64 p1, .int .i64 p2, .string t1, .string t2] 54 (0, 0))) ⟨HR6.out.ext ((Ext.refl _).alloc _), old_blkP HX6.out, heap_alloc_new w6 _⟩ ?_
            rintro W7 ⟨hr7, hx7, hy7⟩
            have HR7 := Lib.hid hr7
            have HX7 := Lib.hid hx7
            have HY7 := Lib.hid hy7
            clear s0 s1 s2 s8 z0 z1 z2 z8
            obtain ⟨y0', y1', y2', y3', f0, f1, f2, f3, f8⟩ := four_cells hy7
            clear hr7 hx7 hy7
            go_cut [12] (fun v wx => v = .pointer (some ⟨w6.heap.size, 0, none⟩) ∧ Hid (RI w L lap at_ lo hi g bm bk bb W2.heap.size o dn dn2 wx) ∧ Hid (wx.heap[w1.heap.size]? = some (.cells #[.int .i64 (at_ + 1), .int .i64 (at_ + 1), .int .i64 (at_ + 1)] 88 (0, 0))) ∧ Hid (wx.heap[w6.heap.size]? = some (.cells #[.int .i64 (p1 + e1c), .int .i64 (p2 + 1), .string (E1 ++ t1), .string t2] 54 (0, 0))))
            case first =>
              go_region_with (first | (go_at_call 74; refine (HW1.out _).mono ?_; rintro e w8 ⟨rfl, e8⟩; have hy8 := e8.block HY7.out; have HR8 := Lib.hid ((HR7.out.ext (Ext.refl _).drew).ext e8); have HX8 := Lib.hid (e8.block HX7.out); have HY8 := Lib.hid hy8; obtain ⟨v0', v1', v2', v3', j0, j1, j2, j3, j8⟩ := four_cells hy8; clear hy8 e8))
              all_goals
                first | go_meet | (go_wp2_with fail; go_meet)
                refine ⟨rfl, Lib.hid (((HR8.out.put hbn6 0 _).put hbn6 1 _).put hbn6 2 _), Lib.hid (heap_setN _ _ _ (heap_setN _ _ _ (heap_setN _ _ _ HX8.out (by omega)) (by omega)) (by omega)), Lib.hid (heap_setC 2 _ (heap_setC 1 _ (heap_setC 0 _ HY8.out)))⟩
            case rest =>
              obtain ⟨rfl, HR9, HX9, HY9⟩ := hcut
              obtain ⟨s0, s1, s2, s8⟩ := three_cells HR9.out.sb
              obtain ⟨z0, z1, z2, z8⟩ := three_cells HX9.out
              go_wp2_with (go_at_call 73; refine (HP2.out _).mono ?_; rintro e w' ⟨rfl, rfl⟩)
              clear s0 s1 s2 s8 z0 z1 z2 z8
              have HR7 := HR9
              have HX7 := HX9
              have HY7 := HY9
              clear HR9 HX9 HY9
              obtain ⟨y0', y1', y2', y3', f0, f1, f2, f3, f8⟩ := four_cells HY7.out
              go_cut [12] (fun v wx => v = .pointer (some ⟨w6.heap.size, 0, none⟩) ∧ Hid (RI w L lap at_ lo hi g bm bk bb W2.heap.size o dn dn2 wx) ∧ Hid (wx.heap[w1.heap.size]? = some (.cells #[.int .i64 (at_ + 1), .int .i64 (at_ + 1), .int .i64 (at_ + 1)] 88 (0, 0))) ∧ Hid (wx.heap[w6.heap.size]? = some (.cells #[.int .i64 (p1 + e1c + e2c), .int .i64 (p2 + 1 + 1), .string (E1 ++ t1), .string (E2 ++ t2)] 54 (0, 0))))
              case first =>
                go_region_with (first | (go_at_call 74; refine (HW2.out _).mono ?_; rintro e w8 ⟨rfl, e8⟩; have hy8 := e8.block HY7.out; have HR8 := Lib.hid ((HR7.out.ext (Ext.refl _).drew).ext e8); have HX8 := Lib.hid (e8.block HX7.out); have HY8 := Lib.hid hy8; obtain ⟨v0', v1', v2', v3', j0, j1, j2, j3, j8⟩ := four_cells hy8; clear hy8 e8))
                all_goals
                  first | go_meet | (go_wp2_with fail; go_meet)
                  refine ⟨rfl, Lib.hid (((HR8.out.put hbn6 0 _).put hbn6 1 _).put hbn6 3 _), Lib.hid (heap_setN _ _ _ (heap_setN _ _ _ (heap_setN _ _ _ HX8.out (by omega)) (by omega)) (by omega)), Lib.hid (heap_setC 3 _ (heap_setC 1 _ (heap_setC 0 _ HY8.out)))⟩
              case rest =>
                obtain ⟨rfl, HR9, HX9, HY9⟩ := hcut
                obtain ⟨hv1, hv2, hv3, hv4⟩ := HYV.out
                have HBT : Hid (∀ W, RI w L lap at_ lo hi g bm bk bb W2.heap.size o dn dn2 W → RI w L lap at_ lo hi g bm bk bb W2.heap.size (some y') dn dn2 ((((W.setCell ⟨W2.heap.size, 0, none⟩ (.int .i64 (p1 + e1c + e2c))).setCell ⟨W2.heap.size, 1, none⟩ (.int .i64 (p2 + 1 + 1))).setCell ⟨W2.heap.size, 2, none⟩ (.string (E1 ++ t1))).setCell ⟨W2.heap.size, 3, none⟩ (.string (E2 ++ t2)))) := Lib.hid (fun W h => by
                  have h2 := h.better y'
                  rw [hv1, hv2, hv3, hv4] at h2
                  exact h2)
                cases o with
                | none =>
                  have hu : u = false := HU.out
                  subst hu
                  have HN : Hid (IsBest (Upto (ChoK L lap at_ lo hi) 4) (some y')) := HNX
                  obtain ⟨n0, n1, n2, n3, i0, i1, i2, i3, i8⟩ := four_cells HR9.out.now
                  obtain ⟨v0, v1, v2, v3, j0, j1, j2, j3, j8⟩ := four_cells HY9.out
                  clear hv1 hv2 hv3 hv4
                  go_wp2
                  go_roundw
                  case rel => first | exact ⟨4, some y', dn2, true, by omega, by go_num, rfl, Lib.hid rfl, HN, Lib.hid (HBT.out _ HR9.out)⟩ | ((repeat apply Exists.intro); exact ⟨⟨4, some y', dn2, true, by omega, by go_num, rfl, Lib.hid rfl, HN, Lib.hid (HBT.out _ HR9.out)⟩, rfl⟩)
                  case measure => simp [intOf]
                | some b =>
                  have hu : u = true := HU.out
                  subst hu
                  obtain ⟨d, hd⟩ : ∃ d, ltP y' b = d := ⟨_, rfl⟩
                  have HLE : Hid (∀ W, Calls Try.prog 75 #[.agg #[.int .i64 (p1 + e1c + e2c), .int .i64 (p2 + 1 + 1), .string (E1 ++ t1), .string (E2 ++ t2)], .agg #[.int .i64 (pcN b), .int .i64 (ppN b), .string (mkS b.1), .string (mkS b.2)]] W (RetE (.bool d) W)) := Lib.hid (fun W => by
                    have h := i_lessP (pcN y') (ppN y') (mkS y'.1) (mkS y'.2) (pcN b) (ppN b) (mkS b.1) (mkS b.2) W
                    rw [lesG_eq, hd, hv1, hv2, hv3, hv4] at h
                    exact h)
                  have HN : Hid (IsBest (Upto (ChoK L lap at_ lo hi) 4) (if d = true then some y' else some b)) := Lib.hid (by
                    have h := HNX.out
                    simp only [pickP] at h
                    rw [hd] at h
                    exact h)
                  clear hd hv1 hv2 hv3 hv4
                  have hn9 : Hid (∀ W, RI w L lap at_ lo hi g bm bk bb W2.heap.size (some b) dn dn2 W → W.heap[W2.heap.size]? = some (.cells #[.int .i64 (pcN b), .int .i64 (ppN b), .string (mkS b.1), .string (mkS b.2)] 54 (0, 0))) := Lib.hid (fun W h => h.now)
                  obtain ⟨n0, n1, n2, n3, i0, i1, i2, i3, i8⟩ := four_cells (hn9.out _ HR9.out)
                  obtain ⟨v0, v1, v2, v3, j0, j1, j2, j3, j8⟩ := four_cells HY9.out
                  cases d
                  · go_wp2_with (go_at_call 75; refine (HLE.out _).mono ?_; rintro e w10 ⟨rfl, e10⟩)
                    go_roundw
                    case rel => first | exact ⟨4, some b, dn2, true, by omega, by go_num, rfl, Lib.hid rfl, Lib.hid (by simpa using HN.out), Lib.hid (HR9.out.ext e10)⟩ | ((repeat apply Exists.intro); exact ⟨⟨4, some b, dn2, true, by omega, by go_num, rfl, Lib.hid rfl, Lib.hid (by simpa using HN.out), Lib.hid (HR9.out.ext e10)⟩, rfl⟩)
                    case measure => simp [intOf]
                  · go_wp2_with (go_at_call 75; refine (HLE.out _).mono ?_; rintro e w10 ⟨rfl, e10⟩; have HR10 := Lib.hid (HR9.out.ext e10); have hy10 := e10.block HY9.out; obtain ⟨n0', n1', n2', n3', i0', i1', i2', i3', i8'⟩ := four_cells (hn9.out _ HR10.out); obtain ⟨v0', v1', v2', v3', j0', j1', j2', j3', j8'⟩ := four_cells hy10; clear e10 hy10)
                    go_roundw
                    case rel => first | exact ⟨4, some y', dn2, true, by omega, by go_num, rfl, Lib.hid rfl, Lib.hid (by simpa using HN.out), Lib.hid (HBT.out _ HR10.out)⟩ | ((repeat apply Exists.intro); exact ⟨⟨4, some y', dn2, true, by omega, by go_num, rfl, Lib.hid rfl, Lib.hid (by simpa using HN.out), Lib.hid (HBT.out _ HR10.out)⟩, rfl⟩)
                    case measure => simp [intOf]
    · have hk4 : k = 4 := by omega
      subst hk4
      have HBB := Lib.hid (HB.out.congr (fun x => setI_step hl HS.out x1 x))
      have hd4 : dn' (codeN at_ lo hi) = false := (HR.out.old at_ lo hi x0 (Int.le_refl _) l0 (by omega) y0 (by omega)).trans HD.out
      have hkp := (HR.out.pi.ext (Ext.refl _).drew).keep x0 (by omega) l0 (show lo ≤ 80 by omega) y0 (show hi ≤ 80 by omega) hd4 HBB.out
      obtain ⟨v1, q1, v2, q2, v3, q3, W1, W3, W4, W5, W6, W7, k1, k2, k3, k4, k5, k6, hpi, g1, g2, g3, g4, g5, g6⟩ := hkp
      have hsv : wr.drew.heap[w.heap.size]? = _ := HR.out.sb
      have hnow : wr.drew.heap[W2.heap.size]? = _ := HR.out.now
      have hbx : wr.drew.heap[g]? = _ := HR.out.pi.box
      unfold keyV at k1 k3 k5
      unfold pbV at k6
      rw [← HU.out] at k2 k4
      unfold goInt at k1 k2 k3 k4 k5 k6
      have HPI := Lib.hid hpi
      have HG6 := Lib.hid g6
      have hszs : w.heap.size + 1 < wr.heap.size := by omega
      have HN6 := Lib.hid (g6.blk hnow (by unfold TM; omega))
      have HR6 := Lib.hid (g6.blk (show wr.drew.heap[w.heap.size + 1]? = _ from HR.out.res) (by unfold TM; omega))
      have hg4 : ¬ TM bm bk bb g := by
        have hn := HR.out.pi.ne
        unfold TM; omega
      have hs4 : ¬ TM bm bk bb w.heap.size := by unfold TM; omega
      have hn4 : ¬ TM bm bk bb W2.heap.size := by unfold TM; omega
      obtain ⟨F, hF, f0, f1, f2, f3, f4, f5, f6⟩ := seven (ChgS (TM bm bk bb) wr.drew) (ChgS.refl _ _) g1 g2 g3 g4 g5 g6
      rw [← f0, ← f1] at k1
      rw [← f1, ← f2] at k2
      rw [← f2, ← f3] at k3
      rw [← f3, ← f4] at k4
      rw [← f4, ← f5] at k5
      rw [← f5, ← f6] at k6
      have p0 := fun z => (three_cells ((hF z).blk hsv hs4)).1
      have p1 := fun z => (three_cells ((hF z).blk hsv hs4)).2.1
      have p2 := fun z => (three_cells ((hF z).blk hsv hs4)).2.2.1
      have p3 := fun z => (five_cells ((hF z).blk hbx hg4)).2.2.1
      have p4 := fun z => (five_cells ((hF z).blk hbx hg4)).2.2.2.1
      have p5 := fun z => (five_cells ((hF z).blk hbx hg4)).2.2.2.2.1
      have p6 := fun z => (four_cells ((hF z).blk hnow hn4)).1
      have p7 := fun z => (four_cells ((hF z).blk hnow hn4)).2.1
      have p8 := fun z => (four_cells ((hF z).blk hnow hn4)).2.2.1
      have p9 := fun z => (four_cells ((hF z).blk hnow hn4)).2.2.2.1
      have K1 := Lib.hid k1
      have K2 := Lib.hid k2
      have K3 := Lib.hid k3
      have K4 := Lib.hid k4
      have K5 := Lib.hid k5
      have K6 := Lib.hid k6
      have F0 := Lib.hid f0.symm
      have F6 := Lib.hid f6
      clear hbx hg4 hs4 hn4 hpi g1 g2 g3 g4 g5 g6 hnow hsv hd4 k1 k2 k3 k4 k5 k6 f0 f1 f2 f3 f4 f5 f6 hF
      go_wp2
      refine wp_region_phased F (fun i => [19, 21, 22, 24, 25, 27].contains i) (by kernel_rfl) (by kernel_rfl) (by kernel_rfl) (by kernel_rfl) F0.out ?_
      iterate 19
        refine wpPh_quiet (by rfl) (by rfl) ?_
        intro K hK
        go_big_quiet_op
        go_big_quiet_on
      refine wpPh_write (by rfl) (by rfl) (write_entry rfl (by rfl) (by rfl) K1.out) ?_
      intro K hK
      go_simp
      go_big_quiet_on
      refine wpPh_quiet (by rfl) (by rfl) ?_
      intro K hK
      go_big_quiet_op
      go_big_quiet_on
      refine wpPh_write (by rfl) (by rfl) (write_entryStore rfl (by rfl) (by rfl) (by rfl) K2.out) ?_
      intro K hK
      go_simp
      go_big_quiet_on
      refine wpPh_write (by rfl) (by rfl) (write_entry rfl (by rfl) (by rfl) K3.out) ?_
      intro K hK
      go_simp
      go_big_quiet_on
      refine wpPh_quiet (by rfl) (by rfl) ?_
      intro K hK
      go_big_quiet_op
      go_big_quiet_on
      refine wpPh_write (by rfl) (by rfl) (write_entryStore rfl (by rfl) (by rfl) (by rfl) K4.out) ?_
      intro K hK
      go_simp
      go_big_quiet_on
      refine wpPh_write (by rfl) (by rfl) (write_entry rfl (by rfl) (by rfl) K5.out) ?_
      intro K hK
      go_simp
      go_big_quiet_on
      refine wpPh_quiet (by rfl) (by rfl) ?_
      intro K hK
      go_big_quiet_op
      go_big_quiet_on
      refine wpPh_write (by rfl) (by rfl) (write_entryStore rfl (by rfl) (by rfl) (by rfl) K6.out) ?_
      intro K hK
      go_simp
      go_big_quiet_on
      refine wpPh_end F6.out ?_
      clear p0 p1 p2 p3 p4 p5 p6 p7 p8 p9
      obtain ⟨n0', n1', n2', n3', _, _, _, _, _⟩ := four_cells HN6.out
      obtain ⟨r0', r1', r2', r3', f0', f1', f2', f3', f8'⟩ := four_cells HR6.out
      have HRR := Lib.hid (resP_four r0' r1' r2' r3')
      go_wp2
      have hr := HRR.out
      refine bodyPost_ret (v := .tuple #[.agg #[.int .i64 (cutI0 o), .int .i64 (numO o), .string (lowO o), .string (highO o)], .bool u]) (by simp [results, Try.results51, go_sem, hr]) rfl ?_
      refine ⟨o, addD dn' (codeN at_ lo hi), HBB.out, by rw [HU.out]; rfl, ?_, ?_, ?_⟩
      · have n : w.heap.size + 1 ≠ g ∧ w.heap.size + 1 ≠ bm ∧ w.heap.size + 1 ≠ bk ∧ w.heap.size + 1 ≠ bb := ⟨by omega, by omega, by omega, by omega⟩
        exact (((HPI.out.setOther 0 _ n).setOther 1 _ n).setOther 2 _ n).setOther 3 _ n
      · have n : w.heap.size ≤ w.heap.size + 1 := by omega
        exact (((((HR.out.ch.ext (Ext.refl _).drew).trans HG6.out).set (.inr n) _).set (.inr n) _).set (.inr n) _).set (.inr n) _
      · intro a b c a0 a1 b0 b1 z0 z1
        have hne : codeN a b c ≠ codeN at_ lo hi := fun h => by
          have h2 := (codeN_inj a0 b0 b1 z0 z1 x0 l0 (show lo ≤ 80 by omega) y0 (show hi ≤ 80 by omega) h).1
          omega
        unfold addD
        rw [show (codeN a b c == codeN at_ lo hi) = false by simp [hne], Bool.or_false]
        exact HR.out.old a b c a0 (by omega) b0 b1 z0 z1
end Go.Proofs.Ytciamgnfbhijlaa
