/- For every front, every bond and every number the law FnExactLayFront answers true: the program's LayFront returns what the reference's returns, leaves its arguments as they were, and hands back memory of its own. No condition. -/
import Derived.Test.YtnhmcmohnpbcjaaLayFs
import Derived.Test.YtnhmcmohnpbcjaaBond7
import Derived.Test.YtnhmcmohnpbcjaaPartLaw
import Derived.Test.YtnhmcmohnpbcjaaOpenB
import Derived.Test.YtnhmcmohnpbcjaaOpen2
import Derived.Deep.RegionHeld3
import Derived.Deep.DeepCutAuto
namespace Go.Proofs.Ytnhmcmohnpbcjaa
open Go.RowKit
set_option linter.unusedSimpArgs false
set_option linter.unusedVariables false
set_option linter.unnecessarySimpa false

theorem crss_apart {w w' : World} {base : Nat} {v : Value} {cs : List Crs} {row : Option Nat} (h : OwnCrss w base v cs) (hg : w.grownBy w' row) (hne : ∀ k k', v.ownBlock = some k → row = some k' → k ≠ k') : OwnCrss w' base v cs := by
  refine ⟨⟨h.1.1.kept hg ?_, h.1.2⟩, h.2⟩
  cases hv : v.ownBlock with
  | none => exact .inl rfl
  | some k =>
    right
    cases hr : row with
    | none => simp
    | some k' => exact fun e => hne k k' hv hr (Option.some.inj e)
/-- the two boxes of the law -/
def S2 (b : Nat) (p q : Int) (v : Value) (nm : ByteArray) (u : Value) (w1 W : World) : Prop := Three W b (.int .i64 p) (.int .i64 q) v ∧ Two W (b + 1) (.string nm) u ∧ Ext w1 W
theorem S2.ext {b : Nat} {p q : Int} {v u : Value} {nm : ByteArray} {w1 W W' : World} (h : S2 b p q v nm u w1 W) (e : Ext W W') : S2 b p q v nm u w1 W' := ⟨h.1.ext e, h.2.1.ext e, h.2.2.trans e⟩
theorem S2.grown {b : Nat} {p q : Int} {v u : Value} {nm : ByteArray} {w1 W W' : World} {row : Option Nat} (h : S2 b p q v nm u w1 W) (g : W.grownBy W' row) (hb : b + 1 < w1.heap.size) (hr : ∀ j, row = some j → w1.heap.size ≤ j) : S2 b p q v nm u w1 W' :=
  ⟨⟨g.cell h.1.1 (fun e => by have := hr _ e.symm; dsimp only at this; omega), g.cell h.1.2.1 (fun e => by have := hr _ e.symm; dsimp only at this; omega), g.cell h.1.2.2.1 (fun e => by have := hr _ e.symm; dsimp only at this; omega), Nat.lt_of_lt_of_le h.1.2.2.2 g.size⟩,
   ⟨g.cell h.2.1.1 (fun e => by have := hr _ e.symm; dsimp only at this; omega), g.cell h.2.1.2.1 (fun e => by have := hr _ e.symm; dsimp only at this; omega), Nat.lt_of_lt_of_le h.2.1.2.2 g.size⟩, h.2.2.grown g hr⟩
theorem keepS {b : Nat} {p q : Int} {v u : Value} {nm : ByteArray} {w1 w2 W W' : World} {b3 b4 : Nat} {x y z x' y' : Value}
    (h : Three W b (.int .i64 p) (.int .i64 q) v ∧ Two W (b + 1) (.string nm) u ∧ Three W b3 x y z ∧ Two W b4 x' y' ∧ Ext w1 W ∧ Ext w2 W) (e : Ext W W') : Three W' b (.int .i64 p) (.int .i64 q) v ∧ Two W' (b + 1) (.string nm) u ∧ Three W' b3 x y z ∧ Two W' b4 x' y' ∧ Ext w1 W' ∧ Ext w2 W' :=
  ⟨h.1.ext e, h.2.1.ext e, h.2.2.1.ext e, h.2.2.2.1.ext e, h.2.2.2.2.1.trans e, h.2.2.2.2.2.trans e⟩
theorem keepT {b : Nat} {p q : Int} {v u : Value} {nm : ByteArray} {w1 W W' : World}
    (h : Three W b (.int .i64 p) (.int .i64 q) v ∧ Two W (b + 1) (.string nm) u ∧ Ext w1 W) (e : Ext W W') : Three W' b (.int .i64 p) (.int .i64 q) v ∧ Two W' (b + 1) (.string nm) u ∧ Ext w1 W' :=
  ⟨h.1.ext e, h.2.1.ext e, h.2.2.trans e⟩
theorem keepQ {w2 W W' : World} {b1 b2 : Nat} {x1 y1 z1 x2 y2 z2 : Value} (h : Three W b1 x1 y1 z1 ∧ Three W b2 x2 y2 z2 ∧ Ext w2 W) (e : Ext W W') : Three W' b1 x1 y1 z1 ∧ Three W' b2 x2 y2 z2 ∧ Ext w2 W' := ⟨h.1.ext e, h.2.1.ext e, h.2.2.trans e⟩
theorem keepQ2 {w2 W W' : World} {b1 b2 : Nat} {x1 y1 x2 y2 : Value} (h : Two W b1 x1 y1 ∧ Two W b2 x2 y2 ∧ Ext w2 W) (e : Ext W W') : Two W' b1 x1 y1 ∧ Two W' b2 x2 y2 ∧ Ext w2 W' := ⟨h.1.ext e, h.2.1.ext e, h.2.2.trans e⟩

set_option maxRecDepth 100000 in
set_option maxHeartbeats 2000000 in
theorem walk_FnExactLayFront (p q : Int) (ao : Option Addr) (n c : Nat) (xs : List Opn) (nm : ByteArray) (bo : Option Addr) (m d : Nat) (cs : List Crs) (k : Int) (w : World) (hp : IsI64 p) (hq : IsI64 q) (hx : Opens w ao n xs) (hnm : nm.size ≤ maxLen) (hy : Crss w bo m cs) (_ : IsI64 k) :
    Calls Try.prog 8 #[.agg #[.int .i64 p, .int .i64 q, .slice ao n c], .agg #[.string nm, .slice bo m d], .int .i64 k] w fun e w' => e = .returned (.bool true) ∧ Below w.heap.size w w' := by
  have hs' : nm.size ≤ 9223372036854775807 := by unfold maxLen at hnm; omega
  have hxm := hx.2.1
  have hxl := hx.1
  have hyl := hy.1
  have e0 : Ext w ((w.alloc (.cells #[.int .i64 p, .int .i64 q, .slice ao n c] 24)).alloc (.cells #[.string nm, .slice bo m d] 61)) := ((Ext.refl w).alloc _).alloc _
  by_cases h1 : (n : Int) ≤ 1048576
  · have hl1 : sel (decide ((n : Int) ≤ 1048576)) (1048576 - n) (-1) = 1048576 - n := by simp [sel, h1]
    have HL1 := Lib.hid hl1
    have HSZ := Lib.hid (fun W (e : Ext w W) => l_szBond nm bo m d cs (1048576 - n) W hs' (hy.ext e) (by omega) (by omega))
    obtain ⟨z, hz⟩ : ∃ z, leftB (1048576 - n) nm m cs = z := ⟨_, rfl⟩
    have hsm : ¬ z < 0 → m ≤ 1048576 := fun h => by have := (leftB_small (k := 1048576 - n) (nm := nm) (n := m) (cs := cs) (by rw [hz]; exact h)).2.1; omega
    rw [hz] at HSZ
    have hk0 : (0 : Int) ≤ 1048576 - n := by omega
    have hbox : S2 w.heap.size p q (.slice ao n c) nm (.slice bo m d) ((w.alloc (.cells #[.int .i64 p, .int .i64 q, .slice ao n c] 24)).alloc (.cells #[.string nm, .slice bo m d] 61)) ((w.alloc (.cells #[.int .i64 p, .int .i64 q, .slice ao n c] 24)).alloc (.cells #[.string nm, .slice bo m d] 61)) :=
      ⟨(Three.new w (.int .i64 p) (.int .i64 q) (.slice ao n c) 24).ext ((Ext.refl _).alloc _), by have := Two.new (w.alloc (.cells #[.int .i64 p, .int .i64 q, .slice ao n c] 24)) (.string nm) (.slice bo m d) 61; rwa [World.size_alloc] at this, Ext.refl _⟩
    have HB0 := Lib.hid hbox
    have HE0 := Lib.hid e0
    clear hz hl1 hbox e0
    by_cases h2 : z < 0
    · clear hsm hx hxl hyl hy
      go_enter Try.func8, Try.ntmps8
      go_wp2_with fail
      refine (l_szFront _ _ _ _ _ _ _ hxm (by omega) (by omega)).mono ?_
      rw [HL1.out]
      rintro e w1 ⟨rfl, e1⟩
      obtain ⟨-, ⟨B1, B2, -⟩, -⟩ := HB0.out.ext e1
      have E1 := Lib.hid (HE0.out.trans e1)
      clear e1
      go_wp2_with (go_at_call 33; refine (HSZ.out _ E1.out).mono ?_; rintro e w2 ⟨rfl, e2⟩)
      go_ret
      exact ⟨rfl, E1.out.trans e2⟩
    · have hn := hsm h2
      have HA := Lib.hid (fun W (e : Ext w W) => l_toFront p q ao n c xs W (hx.ext e) (by omega))
      have HC := Lib.hid (fun W (e : Ext w W) => l_toBond nm bo m d cs W (hy.ext e) hn)
      have hS := fun ao c bo d W (h : Opens W ao xs.length xs) (h2 : Crss W bo cs.length cs) => s_LayFront p q ao xs.length c xs nm bo cs.length d cs k W h hs' h2
      have hI := fun ao c bo d W (h : Opens W ao xs.length xs) (hc : xs.length ≤ c) (h2 : Crss W bo cs.length cs) => i_LayFront p q ao xs.length c xs nm bo cs.length d cs k W h hc hs' h2
      have hpl := lfL_len p q xs (bts nm) cs k
      obtain ⟨ps, hps⟩ : ∃ ps, lfL p q xs (bts nm) cs k = ps := ⟨_, rfl⟩
      obtain ⟨r, hr⟩ : ∃ r, lfC p q xs (bts nm) cs k = r := ⟨_, rfl⟩
      rw [hps, hr] at hS hI
      rw [hps] at hpl
      have HS := Lib.hid hS
      have HI := Lib.hid hI
      have tr : (r != r) = false := by simp
      have HEQ := Lib.hid (fun W ao bo c d h1 h2 => show Calls Try.prog 25 #[.slice ao ps.length c, .slice bo ps.length d] W (RetE (.bool true) W) from (by have := l_eqStringS ao bo ps.length ps.length c d ps ps W h1 h2; rwa [show decide (ps = ps) = true by simp] at this))
      have hxn : xs.length ≤ 1048576 := by omega
      have hcn : cs.length ≤ 1048576 := by omega
      clear hS hI hps hr hxl hyl hsm hx hy hp hq
      go_enter Try.func8, Try.ntmps8
      go_wp2_with fail
      refine (l_szFront _ _ _ _ _ _ _ hxm (by omega) (by omega)).mono ?_
      rw [HL1.out]
      rintro e w1 ⟨rfl, e1⟩
      have HB1 := Lib.hid (HB0.out.ext e1)
      have E1 := Lib.hid (HE0.out.trans e1)
      obtain ⟨-, ⟨B1, B2, -⟩, -⟩ := HB1.out
      clear e1
      go_wp2_with fail
      refine (HSZ.out _ E1.out).mono ?_
      rintro e w2 ⟨rfl, e2⟩
      have HB2 := Lib.hid (HB1.out.ext e2)
      have E2 := Lib.hid (HE0.out.trans HB2.out.2.2)
      clear e2 B1 B2
      go_upto_region 8 with fail
      go_cut [8, 9] (fun v8 v9 W => ∃ aw cw, v8 = .slice aw ps.length cw ∧ v9 = .int .i64 r ∧ Hid (OwnStrs W 0 (.slice aw ps.length cw) ps) ∧ Hid (Ext w2 W))
      case first =>
        obtain ⟨A, B, _⟩ := HB2.out
        have E2' := E2.out
        go_region_held3 (fun W => Three W w.heap.size (.int .i64 p) (.int .i64 q) (.slice ao n c) ∧ Two W (w.heap.size + 1) (.string nm) (.slice bo m d) ∧ Ext w2 W) (first | exact ⟨A.ext (Ext.refl _).drew, B.ext (Ext.refl _).drew, (Ext.refl _).drew⟩ | exact keepT (by assumption) (by assumption)) (first | (go_at_call 12; refine (HA.out _ ?_).mono ?_; exact E2'.trans (And.right (And.right (by assumption))); rintro e w' ⟨a', c', rfl, o', e'⟩) | (go_at_call 35; refine (HC.out _ ?_).mono ?_; exact E2'.trans (And.right (And.right (by assumption))); rintro e w' ⟨a', c', rfl, o', e'⟩) | (go_at_call 34; refine (HS.out _ _ _ _ _ ?_ ?_).mono ?_; (first | exact OwnOpens.opens (by assumption) | exact Opens.ext (OwnOpens.opens (by assumption)) (by assumption)); (first | exact OwnCrss.crss (by assumption) | exact Crss.ext (OwnCrss.crss (by assumption)) (by assumption)); rintro e w' ⟨a', c', rfl, o', e'⟩))
        all_goals
          have hS := (by assumption : Three _ w.heap.size (.int .i64 p) (.int .i64 q) (.slice ao n c) ∧ Two _ (w.heap.size + 1) (.string nm) (.slice bo m d) ∧ Ext w2 _)
          have hO := OwnStrs.mono (by assumption : OwnStrs _ _ (.slice _ ps.length _) ps) (Nat.zero_le _)
          have HSo := Lib.hid hO
          have HSS := Lib.hid hS.2.2
          clear hO hS
          go_wp2
          go_meet
          exact ⟨_, _, rfl, rfl, HSo, HSS⟩
      case rest =>
        obtain ⟨aw, cw, rfl, rfl, HOW, E3⟩ := hcut
        have HWB : Hid (w.heap.size + 1 < ((w.alloc (.cells #[.int .i64 p, .int .i64 q, .slice ao n c] 24)).alloc (.cells #[.string nm, .slice bo m d] 61)).heap.size) := Lib.hid (by rw [World.size_alloc, World.size_alloc]; omega)
        have HB3 := Lib.hid (HB2.out.ext E3.out)
        have H3 := Lib.hid (E2.out.trans E3.out)
        have HW2c := Lib.hid HB3.out.2.2.size
        obtain ⟨⟨A1, A2, A3, A4⟩, ⟨B1, B2, B3⟩, _⟩ := HB3.out
        have HOB : Hid (∀ j, (Value.slice aw ps.length cw).ownBlock = some j → j < wc.heap.size) := Lib.hid (fun j hj => (HOW.out.blk j hj).2)
        go_wp2_with fail
        refine (HA.out _ H3.out).mono ?_
        rintro e w4 ⟨a4, c4, rfl, o4, e4⟩
        have HO4 := Lib.hid o4
        have HZ1 := Lib.hid e4.size
        have E4 := Lib.hid (e4.alloc (.cells #[.int .i64 p, .int .i64 q, .slice a4 xs.length c4] 30))
        clear A1 A2 A3 A4 B1 B2 B3 o4 e4
        have HB4 := Lib.hid (HB3.out.ext E4.out)
        obtain ⟨⟨A1, A2, A3, A4⟩, ⟨B1, B2, B3⟩, _⟩ := HB4.out
        have HF4 := Lib.hid (Three.new w4 (.int .i64 p) (.int .i64 q) (.slice a4 xs.length c4) 30)
        have HP4 : Hid (∀ j, (Value.slice a4 xs.length c4).ownBlock = some j → wc.heap.size ≤ j ∧ j < w4.heap.size) := Lib.hid (fun j hj => World.ownsRow.lt HO4.out.1 j hj)
        have HX4 := Lib.hid (HO4.out.ext ((Ext.refl _).alloc (.cells #[.int .i64 p, .int .i64 q, .slice a4 xs.length c4] 30)))
        go_wp2_with fail
        refine (HC.out _ (H3.out.trans E4.out)).mono ?_
        rintro e w5 ⟨a5, c5, rfl, o5, e5⟩
        have HO5 := Lib.hid o5
        have HZ2 : Hid (w4.heap.size + 1 ≤ w5.heap.size) := Lib.hid (by have := e5.size; rw [World.size_alloc] at this; exact this)
        have E5 := Lib.hid (e5.alloc (.cells #[.string nm, .slice a5 cs.length c5] 66))
        clear A1 A2 A3 A4 B1 B2 B3 o5 e5
        have HB5 := Lib.hid (HB4.out.ext E5.out)
        have HF5 := Lib.hid (HF4.out.ext E5.out)
        have HG5 := Lib.hid (Two.new w5 (.string nm) (.slice a5 cs.length c5) 66)
        have HP5 : Hid (∀ j, (Value.slice a5 cs.length c5).ownBlock = some j → w4.heap.size + 1 ≤ j ∧ j < w5.heap.size) := Lib.hid (fun j hj => by have := HO5.out.blk j hj; rw [World.size_alloc] at this; exact this)
        have HY5 := Lib.hid (HO5.out.ext ((Ext.refl _).alloc (.cells #[.string nm, .slice a5 cs.length c5] 66)))
        have HX5 := Lib.hid (HX4.out.ext E5.out)
        have HC4 := Lib.hid HX4.out.cap
        obtain ⟨F1, F2, F3, F4⟩ := HF5.out
        obtain ⟨G1, G2, G3⟩ := HG5.out
        go_wp2_with fail
        refine (HI.out _ _ _ _ _ HX5.out.opens HC4.out HY5.out.crss).mono ?_
        rintro e w6 ⟨ag, cg, rfl, og, e6⟩
        have HOG := Lib.hid og
        have HPG : Hid (∀ j, (Value.slice ag ps.length cg).ownBlock = some j → w5.heap.size + 1 ≤ j) := Lib.hid (fun j hj => by have := (og.blk j hj).1; rw [World.size_alloc] at this; exact this)
        have E36 := Lib.hid (E4.out.trans (E5.out.trans e6))
        have HOW6 := Lib.hid (HOW.out.ext E36.out)
        have E6 := Lib.hid e6
        clear F1 F2 F3 F4 G1 G2 G3 og e6
        go_upto_region 14 with (go_at_call 25; refine (HEQ.out _ _ _ _ _ HOG.out.strs HOW6.out.strs).mono ?_; rintro e w7 ⟨rfl, e7⟩; have E7 := Lib.hid e7; clear e7)
        have E57 := Lib.hid (E6.out.trans E7.out)
        have HQ1 : Hid (∀ W, Ext w7 W → ∀ bo d, Opens W bo xs.length xs → Calls Try.prog 15 #[.agg #[.int .i64 p, .int .i64 q, .slice a4 xs.length c4], .agg #[.int .i64 p, .int .i64 q, .slice bo xs.length d]] W (RetE (.bool true) W)) := Lib.hid (fun W e bo d h => by
          have := l_eqFront p q p q a4 bo xs.length xs.length c4 d xs xs W ((HX5.out.opens.ext E57.out).ext e) h
          rwa [show sameF p q p q xs xs = true by simp [sameF]] at this)
        have HQ2 : Hid (∀ W, Ext w7 W → ∀ bo d, Crss W bo cs.length cs → Calls Try.prog 37 #[.agg #[.string nm, .slice a5 cs.length c5], .agg #[.string nm, .slice bo cs.length d]] W (RetE (.bool true) W)) := Lib.hid (fun W e bo d h => l_eqBond nm a5 bo cs.length c5 d cs W ((HY5.out.crss.ext E57.out).ext e) h)
        have H7 := Lib.hid (H3.out.trans (E36.out.trans E7.out))
        go_cut [62] (fun v W => v = .bool false ∧ Hid (Ext w7 W))
        case first =>
          have H7' := H7.out
          obtain ⟨A, B, _⟩ := (HB5.out.ext E57.out)
          have C := HF5.out.ext E57.out
          go_region_held3 (fun W => Three W w.heap.size (.int .i64 p) (.int .i64 q) (.slice ao n c) ∧ Three W w4.heap.size (.int .i64 p) (.int .i64 q) (.slice a4 xs.length c4) ∧ Ext w7 W) (first | exact ⟨A.ext (Ext.refl _).drew, C.ext (Ext.refl _).drew, (Ext.refl _).drew⟩ | exact keepQ (by assumption) (by assumption)) (first | (go_at_call 12; refine (HA.out _ ?_).mono ?_; exact H7'.trans (And.right (And.right (by assumption))); rintro e w' ⟨a', c', rfl, o', e'⟩) | (go_at_call 15; refine (HQ1.out _ ?_ _ _ ?_).mono ?_; exact And.right (And.right (by assumption)); exact OwnOpens.opens (by assumption); rintro e w' ⟨rfl, e'⟩))
          all_goals
            have hS := (by assumption : Three _ w.heap.size (.int .i64 p) (.int .i64 q) (.slice ao n c) ∧ Three _ w4.heap.size (.int .i64 p) (.int .i64 q) (.slice a4 xs.length c4) ∧ Ext w7 _)
            have HSS := Lib.hid hS.2.2
            clear hS
            go_wp2
            go_meet
            exact ⟨rfl, HSS⟩
        case rest =>
          obtain ⟨rfl, E8⟩ := hcut
          go_upto_region 16 with fail
          go_cut [67] (fun v W => v = .bool false ∧ Hid (Ext w7 W))
          case first =>
            have H7' := H7.out
            obtain ⟨A, B, _⟩ := ((HB5.out.ext E57.out).ext E8.out)
            have C := (HG5.out.ext E57.out).ext E8.out
            have E8' := E8.out
            go_region_held3 (fun W => Two W (w.heap.size + 1) (.string nm) (.slice bo m d) ∧ Two W w5.heap.size (.string nm) (.slice a5 cs.length c5) ∧ Ext w7 W) (first | exact ⟨B.ext (Ext.refl _).drew, C.ext (Ext.refl _).drew, E8'.drew⟩ | exact keepQ2 (by assumption) (by assumption)) (first | (go_at_call 35; refine (HC.out _ ?_).mono ?_; exact H7'.trans (And.right (And.right (by assumption))); rintro e w' ⟨a', c', rfl, o', e'⟩) | (go_at_call 37; refine (HQ2.out _ ?_ _ _ ?_).mono ?_; exact And.right (And.right (by assumption)); exact OwnCrss.crss (by assumption); rintro e w' ⟨rfl, e'⟩))
            all_goals
              have hS := (by assumption : Two _ (w.heap.size + 1) (.string nm) (.slice bo m d) ∧ Two _ w5.heap.size (.string nm) (.slice a5 cs.length c5) ∧ Ext w7 _)
              have HSS := Lib.hid hS.2.2
              clear hS
              go_wp2
              go_meet
              exact ⟨rfl, HSS⟩
          case rest =>
            obtain ⟨rfl, E9⟩ := hcut
            have E59 := Lib.hid (E57.out.trans E9.out)
            have E39 := Lib.hid (E36.out.trans (E7.out.trans E9.out))
            have HB9 := Lib.hid (HB5.out.ext E59.out)
            have HF9 := Lib.hid (HF5.out.ext E59.out)
            have HG9 := Lib.hid (HG5.out.ext E59.out)
            have HX9 := Lib.hid (HX5.out.ext E59.out)
            have HY9 := Lib.hid (HY5.out.ext E59.out)
            have HOG9 := Lib.hid ((HOG.out.ext E7.out).ext E9.out)
            obtain ⟨F1, F2, F3, F4⟩ := HF9.out
            obtain ⟨G1, G2, G3⟩ := HG9.out
            have HZ0 := Lib.hid (H3.out.size)
            go_wp2_with fail
            refine (l_markFront _ p q a4 xs.length c4 1 xs _ HX9.out (by omega) (by omega) (by omega)).mono ?_
            rintro e w10 ⟨rfl, g10⟩
            have HB10 := Lib.hid (HB9.out.grown g10 HWB.out (fun j hj => Nat.le_trans HW2c.out (HP4.out j hj).1))
            have HG10 : Hid (Two w10 w5.heap.size (.string nm) (.slice a5 cs.length c5)) := Lib.hid ⟨g10.cell HG9.out.1 (fun e => by have := (HP4.out _ e.symm).2; have := HZ2.out; dsimp only at *; omega), g10.cell HG9.out.2.1 (fun e => by have := (HP4.out _ e.symm).2; have := HZ2.out; dsimp only at *; omega), Nat.lt_of_lt_of_le HG9.out.2.2 g10.size⟩
            have HY10 := Lib.hid (crss_apart HY9.out g10 (fun j j' hj hj' => by have := (HP4.out j' hj').2; have := (HP5.out j hj).1; omega))
            have HOG10 := Lib.hid (HOG9.out.apart g10 (fun j j' hj hj' => by have := (HP4.out j' hj').2; have := HPG.out j hj; have := HZ2.out; omega))
            have E10 := Lib.hid (E39.out.grown g10 (fun j hj => (HP4.out j hj).1))
            clear g10 F1 F2 F3 F4 G1 G2 G3
            obtain ⟨G1, G2, G3⟩ := HG10.out
            go_wp2_with fail
            refine (l_markBond _ nm a5 cs.length c5 _ cs _ HY10.out (by omega) (by omega) (by omega)).mono ?_
            rintro e w11 ⟨rfl, g11⟩
            have HB11 := Lib.hid (HB10.out.grown g11 HWB.out (fun j hj => by have := HW2c.out; have := HZ1.out; have := (HP5.out j hj).1; omega))
            have HOG11 := Lib.hid (HOG10.out.apart g11 (fun j j' hj hj' => by have := (HP5.out j' hj').2; have := HPG.out j hj; omega))
            have E11 := Lib.hid (E10.out.grown g11 (fun j hj => by have := HZ1.out; have := (HP5.out j hj).1; omega))
            clear g11 G1 G2 G3
            have HOW11 := Lib.hid (HOW.out.ext E11.out)
            have hng : ¬ (1 + 4 * (xs.length : Int) + 2 * (cs.length : Int) < 0) := by omega
            go_upto_region 24 with (go_at_call 25; refine (HEQ.out _ _ _ _ _ HOG11.out.strs HOW11.out.strs).mono ?_; rintro e w12 ⟨rfl, e12⟩; have HOG12 := Lib.hid (HOG11.out.ext e12); have E12 := Lib.hid (E11.out.trans e12); have HB12 := Lib.hid (HB11.out.ext e12); clear e12)
            go_wp2_with fail
            refine (l_markStringS _ ag ps.length cg 1 ps _ rfl HOG12.out (by omega) (by omega) (by omega)).mono ?_
            rintro e w13 ⟨rfl, om, g13⟩
            have HM13 := Lib.hid om
            have HB13 := Lib.hid (HB12.out.grown g13 HWB.out (fun j hj => by have := HW2c.out; have := HZ1.out; have := HZ2.out; have := HPG.out j hj; omega))
            have E13 := Lib.hid (E12.out.grown g13 (fun j hj => by have := HZ1.out; have := HZ2.out; have := HPG.out j hj; omega))
            clear om g13
            go_wp2_with fail
            refine (l_heldStringS ag ps.length cg 1 _ (by simpa [markSs_length] using HM13.out.strs) (by omega) (by omega) (by omega)).mono ?_
            rintro e w14 ⟨rfl, e14⟩
            have HM14 := Lib.hid (HM13.out.strs.ext e14)
            have HB14 := Lib.hid (HB13.out.ext e14)
            have E14 := Lib.hid (E13.out.trans e14)
            clear e14
            go_upto_region 31 with fail
            go_cut [17, 18] (fun v8 v9 W => ∃ aw cw, v8 = .slice aw ps.length cw ∧ v9 = .int .i64 r ∧ Hid (OwnStrs W 0 (.slice aw ps.length cw) ps) ∧ Hid (Ext w14 W))
            case first =>
              obtain ⟨A, B, _⟩ := HB14.out
              have H14' := H3.out.trans E14.out
              go_region_held3 (fun W => Three W w.heap.size (.int .i64 p) (.int .i64 q) (.slice ao n c) ∧ Two W (w.heap.size + 1) (.string nm) (.slice bo m d) ∧ Ext w14 W) (first | exact ⟨A.ext (Ext.refl _).drew, B.ext (Ext.refl _).drew, (Ext.refl _).drew⟩ | exact keepT (by assumption) (by assumption)) (first | (go_at_call 12; refine (HA.out _ ?_).mono ?_; exact H14'.trans (And.right (And.right (by assumption))); rintro e w' ⟨a', c', rfl, o', e'⟩) | (go_at_call 35; refine (HC.out _ ?_).mono ?_; exact H14'.trans (And.right (And.right (by assumption))); rintro e w' ⟨a', c', rfl, o', e'⟩) | (go_at_call 36; refine (HI.out _ _ _ _ _ ?_ ?_ ?_).mono ?_; (first | exact OwnOpens.opens (by assumption) | exact Opens.ext (OwnOpens.opens (by assumption)) (by assumption)); exact OwnOpens.cap (by assumption); (first | exact OwnCrss.crss (by assumption) | exact Crss.ext (OwnCrss.crss (by assumption)) (by assumption)); rintro e w' ⟨a', c', rfl, o', e'⟩))
              all_goals
                have hS := (by assumption : Three _ w.heap.size (.int .i64 p) (.int .i64 q) (.slice ao n c) ∧ Two _ (w.heap.size + 1) (.string nm) (.slice bo m d) ∧ Ext w14 _)
                have hO := OwnStrs.mono (by assumption : OwnStrs _ _ (.slice _ ps.length _) ps) (Nat.zero_le _)
                have HSo := Lib.hid hO
                have HSS := Lib.hid hS.2.2
                clear hO hS
                go_wp2
                go_meet
                exact ⟨_, _, rfl, rfl, HSo, HSS⟩
            case rest =>
              obtain ⟨ah, ch, rfl, rfl, OH, E15⟩ := hcut
              have HM15 := Lib.hid (HM14.out.ext E15.out)
              have E3F := Lib.hid (E14.out.trans E15.out)
              have HOWF := Lib.hid (HOW.out.ext E3F.out)
              go_wp2_with fail
              refine (HEQ.out _ _ _ _ _ OH.out.strs HOWF.out.strs).mono ?_
              rintro e w16 ⟨rfl, e16⟩
              have HM16 := Lib.hid (HM15.out.ext e16)
              have E16 := Lib.hid (E3F.out.trans e16)
              clear e16
              go_wp2_with fail
              refine (l_heldStringS ag ps.length cg 1 _ (by simpa [markSs_length] using HM16.out) (by omega) (by omega) (by omega)).mono ?_
              rintro e w17 ⟨rfl, e17⟩
              have EF := Lib.hid (H3.out.trans (E16.out.trans e17))
              go_wp2
              go_ret
              exact ⟨rfl, EF.out⟩
  · have hl1 : sel (decide ((n : Int) ≤ 1048576)) (1048576 - n) (-1) = -1 := by simp [sel, h1]
    have HL1 := Lib.hid hl1
    clear hl1
    go_enter Try.func8, Try.ntmps8
    go_wp2_with fail
    refine (l_szFront _ _ _ _ _ _ _ hxm (by omega) (by omega)).mono ?_
    rw [HL1.out]
    rintro e w1 ⟨rfl, e1⟩
    go_wp2
    go_ret
    exact ⟨rfl, e0.trans e1⟩

/-! ### the row's step: written by a program of mine (frame.py) after the guide's own frame -/
namespace fnExactLayFront
open Go.ChangeShapes Go.WideShapes Go.ChangeAt Go.RowKit Go.Joins
open Go.ChangeMaps (open_string shut_string)
set_option linter.unusedVariables false
theorem own : ownKnob Try.prog.godebug = none := by kernel_rfl
theorem laidOut : laidOutB Try.prog = true := by kernel_rfl
set_option maxRecDepth 100000 in
theorem lifted (os : Os) (started : os.Started) (H : Type) (enc : TypeId × Value → H) :
    ReturnsInHanded {} Try.checked os 8 .any (Rows.fnExactLayFrontSpec.pre6 enc Try.prog Try.f8 Rows.fnExactLayFrontRow.domain false) (Rows.fnExactLayFrontSpec.post enc Try.prog Try.f8 false true false false) := by
  refine returnsInHanded_of_change (C := Try.checked) own started (by kernel_rfl) Try.func8
    (ChangeSpec.witness6 (enc := enc) (C := Try.checked) false ⟨#[], #[.agg #[.int .i64 0, .int .i64 0, .slice none 0 0], .agg #[.string ByteArray.empty, .slice none 0 0], .int .i64 0], []⟩ 8 (by kernel_rfl) (by kernel_rfl) (by kernel_rfl) (by kernel_rfl)) ?_
  intro W base args ds gs before hval0 hW hcnd _
  have hval : ∀ (j : Nat) t v, Try.f8.params[j]? = some t → args[j]? = some v → Value.okWide Try.prog W .any base t v := hval0
  have hW' := hW
  obtain ⟨p, q, hA0, hV, rfl, hfz, hnd⟩ := hW
  have hA : DataW.TrodAll enc Try.prog W 0 (fun _ => true) true Try.f8.params.toList args.toList ds p := hA0
  rw [Try.params8] at hA hval
  obtain ⟨v0, vs0, d0, ds0, p0, q0, hargs, rfl, rfl, h0, r0⟩ := trodAll_cons hA
  obtain ⟨v1, vs1, d1, ds1, p1, q1, rfl, rfl, rfl, h1, r1⟩ := trodAll_cons r0
  obtain ⟨v2, vs2, d2, ds2, p2, q2, rfl, rfl, rfl, h2, r2⟩ := trodAll_cons r1
  obtain ⟨rfl, rfl, rfl⟩ := trodAll_nil r2
  obtain rfl : args = #[v0, v1, v2] := by cases args; simp_all
  obtain ⟨rfl, rfl⟩ := trodVars_none hV
  have k0 := h0
  have lt0 : ∀ x ∈ p0, x.block < W.heap.size := by obtain ⟨m, hm⟩ := k0; exact DataW.trod_lt m _ _ _ hm
  have k1 := h1
  have lt1 : ∀ x ∈ p1, x.block < W.heap.size := by obtain ⟨m, hm⟩ := k1; exact DataW.trod_lt m _ _ _ hm
  have k2 := h2
  have lt2 : ∀ x ∈ p2, x.block < W.heap.size := by obtain ⟨m, hm⟩ := k2; exact DataW.trod_lt m _ _ _ hm
  obtain ⟨g0, k0c, k0d, y0a, y0b, y0c, m0, rfl, rfl, rfl, t0a, t0b, t0c⟩ := open_agg3 Try.underlying24 (by kernel_rfl) (by kernel_rfl) (hval 0 24 v0 rfl rfl) h0
  obtain ⟨x0a, rfl, i0a⟩ := int_of_field Try.underlying2 ⟨_, _, t0a⟩
  obtain ⟨x0b, rfl, i0b⟩ := int_of_field Try.underlying2 ⟨_, _, t0b⟩
  obtain ⟨b0, l0, c0, z0, rfl, w0⟩ := opens_of_field Try.underlying22 Try.underlying26 (by kernel_rfl) (by kernel_rfl) Try.underlying2 Try.underlying2 Try.underlying2 Try.underlying2 ⟨_, _, t0c⟩
  obtain ⟨g1, k1c, y1a, y1b, m1, rfl, rfl, rfl, t1a, t1b⟩ := open_agg2 Try.underlying61 (by kernel_rfl) (by kernel_rfl) (hval 1 61 v1 rfl rfl) h1
  obtain ⟨a1, rfl, u1⟩ := str_of_field Try.underlying9 ⟨_, _, t1a⟩
  obtain ⟨b1, l1, c1, z1, rfl, w1⟩ := crss_of_field Try.underlying59 Try.underlying149 (by kernel_rfl) (by kernel_rfl) Try.underlying9 Try.underlying9 ⟨_, _, t1b⟩
  obtain ⟨a2, rfl, rfl, rfl, w2⟩ := open_int Try.underlying2 (hval 2 2 v2 rfl rfl) h2
  clear hA0 hval0
  refine (walk_FnExactLayFront x0a x0b b0 l0 c0 z0 a1 b1 l1 c1 z1 a2 W i0a i0b w0 u1 w1 (i64_of_wf w2)).mono fun e W' ⟨he, bel⟩ => ?_
  subst he
  exact ⟨_, rfl, _, _, _, [], _, [], hW', trodAll_mk1 (shut_bool Try.underlying4 _), (trodAll_cons_mk (Below.trod laidOut (by kernel_rfl) (of_decide_eq_true (by kernel_rfl)) k0 bel lt0) (trodAll_cons_mk (Below.trod laidOut (by kernel_rfl) (of_decide_eq_true (by kernel_rfl)) k1 bel lt1) (trodAll_cons_mk (Below.trod laidOut (by kernel_rfl) (of_decide_eq_true (by kernel_rfl)) k2 bel lt2) trodAll_mk0))), rfl, bel.frame _, fun h => by cases h⟩
theorem over : Rows.fnExactLayFrontRow.holds Try.pinned (OpenSpec.ofChange Rows.fnExactLayFrontSpec) :=
  OpenClaim.holds_of_wide 8 Try.f8 rfl rfl rfl rfl rfl rfl rfl ⟨rfl, rfl, rfl, rfl, rfl⟩ rfl rfl rfl rfl rfl (by kernel_rfl) Try.func8 (by kernel_rfl)
    (of_decide_eq_true (by kernel_rfl)) (by unfold Func.isWrapper; first | (rw [if_pos (by decide +kernel)]; kernel_rfl) | (rw [if_neg (by decide +kernel)]; exact ⟨rfl, rfl⟩))
    (fun os started H enc _ => lifted os started H enc)
theorem proved : Rows.FnExactLayFrontSaid := over
#print axioms proved
end fnExactLayFront
end Go.Proofs.Ytnhmcmohnpbcjaa
