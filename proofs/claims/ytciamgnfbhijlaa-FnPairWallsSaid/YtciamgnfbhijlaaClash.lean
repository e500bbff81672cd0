/- Contracts of the functions that look for the first clash of a wall. -/
import Derived.Test.YtciamgnfbhijlaaClashMath
import Derived.Test.YtciamgnfbhijlaaWall
namespace Go.Proofs.Ytciamgnfbhijlaa
open Go.RowKit
set_option linter.unusedSimpArgs false
set_option linter.unusedVariables false
set_option linter.unnecessarySimpa false

theorem validW_bd {ss : List ByteArray} (h : validW ss = true) : 1 ≤ ss.length ∧ ss.length ≤ 40 ∧ ∀ s ∈ ss, validC (bts s) = true ∧ lenS s = headL ss := by
  unfold validW at h
  simp only [Bool.and_eq_true, Bool.not_eq_true', List.any_eq_false] at h
  have h1 := inB_iff.1 h.1
  refine ⟨by omega, by omega, fun s hs => ?_⟩
  have h2 := h.2 s hs
  unfold badC at h2
  simp only [Bool.or_eq_true, Bool.not_eq_true', decide_eq_true_eq, not_or, Bool.not_eq_false, ne_eq, Decidable.not_not] at h2
  exact h2
/-- each of the texts has from 1 to 60 bytes -/
def Brief (ss : List ByteArray) : Prop := ∀ s ∈ ss, 1 ≤ s.size ∧ s.size ≤ 60
theorem validW_brief {ss : List ByteArray} (h : validW ss = true) : Brief ss := by
  intro s hs
  have ⟨a, b, _, _⟩ := validC_bd ((validW_bd h).2.2 s hs).1
  rw [bts_length] at a b
  exact ⟨a, b⟩
theorem Brief.at {ss : List ByteArray} (h : Brief ss) {k : Nat} (hk : k < ss.length) : 1 ≤ (ss.getD k ByteArray.empty).size ∧ (ss.getD k ByteArray.empty).size ≤ 60 := by
  rw [List.getD_eq_getElem?_getD, List.getElem?_eq_getElem hk]
  exact h _ (List.getElem_mem _)
/-- the code of a wall and a lap -/
def wcode (ss : List ByteArray) (lap : Int) : Int := if validW ss then (if inB lap 1 4 then 0 else 2) else 1
theorem wcode_ok {ss : List ByteArray} {lap : Int} (h : wcode ss lap = 0) : validW ss = true ∧ 1 ≤ lap ∧ lap ≤ 4 := by
  unfold wcode at h
  split at h
  · split at h
    · rename_i h1 h2; exact ⟨h1, inB_iff.1 h2⟩
    · omega
  · omega
theorem getD_mem {l : List Int} {j : Nat} (h : j < l.length) : l.getD j 0 ∈ l := by
  rw [List.getD_eq_getElem?_getD, List.getElem?_eq_getElem h]; exact List.getElem_mem _
theorem perps_at (s : ByteArray) (h : s.size ≤ 60) {j : Nat} (hj : j < (perps (bts s)).length) : 0 ≤ (perps (bts s)).getD j 0 ∧ (perps (bts s)).getD j 0 ≤ 240 := by
  have := perps_bd (bts s) _ (getD_mem hj)
  rw [bts_length] at this
  omega
def t0 (o : Option (Int × Int × Int)) : Int := (o.getD (0, 0, 0)).1
def t1 (o : Option (Int × Int × Int)) : Int := (o.getD (0, 0, 0)).2.1
def t2 (o : Option (Int × Int × Int)) : Int := (o.getD (0, 0, 0)).2.2
/-- the answer of a search with a code or a bool behind it -/
def tupK (o : Option (Int × Int × Int)) (v : Value) : Value := .tuple #[.int .i64 (t0 o), .int .i64 (t1 o), .int .i64 (t2 o), v]
theorem tupK_some {k x y : Int} {v u : Value} {o : Option (Int × Int × Int)} (h : o = some (k, x, y)) (hv : u = v) : Value.tuple #[.int .i64 k, .int .i64 x, .int .i64 y, u] = tupK o v := by subst h; subst hv; rfl
theorem tupK_none {v u : Value} {o : Option (Int × Int × Int)} (h : o = none) (hv : u = v) : Value.tuple #[.int .i64 0, .int .i64 0, .int .i64 0, u] = tupK o v := by subst h; subst hv; rfl
def clC (o : Option (Int × Int × Int)) : Int := if o.isSome then 0 else 3
theorem i_wallCode (ao : Option Addr) (n c : Nat) (ss : List ByteArray) (lap : Int) (w : World) (hx : Strs w ao n ss) (hs : Small ss) :
    Calls Try.prog 46 #[.slice ao n c, .int .i64 lap] w (RetE (.int .i64 (wcode ss lap)) w) := by
  have H := Lib.hid (i_ValidWall ao n c ss w hx hs)
  by_cases g1 : validW ss = true
  · rw [g1] at H
    by_cases g2 : inB lap 1 4 = true
    · have HV : Hid (wcode ss lap = 0) := Lib.hid (by simp [wcode, g1, g2])
      have H3 : Hid (∀ W, Calls Try.prog 44 #[.int .i64 lap, .int .i64 1, .int .i64 4] W (RetV (.bool true) W)) := Lib.hid (fun W => by rw [← g2]; exact i_within _ _ _ W)
      clear g1 g2
      go_enter Try.func46, Try.ntmps46
      go_wp2_with (first | (go_at_call 67; refine (H.out).mono ?_; rintro e w1 ⟨rfl, e1⟩) | (go_at_call 44; refine (H3.out _).mono ?_; rintro e w' ⟨rfl, rfl⟩))
      go_ret
      exact RetE.mk (int_eq HV.out.symm) e1
    · rw [Bool.not_eq_true] at g2
      have HV : Hid (wcode ss lap = 2) := Lib.hid (by simp [wcode, g1, g2])
      have H3 : Hid (∀ W, Calls Try.prog 44 #[.int .i64 lap, .int .i64 1, .int .i64 4] W (RetV (.bool false) W)) := Lib.hid (fun W => by rw [← g2]; exact i_within _ _ _ W)
      clear g1 g2
      go_enter Try.func46, Try.ntmps46
      go_wp2_with (first | (go_at_call 67; refine (H.out).mono ?_; rintro e w1 ⟨rfl, e1⟩) | (go_at_call 44; refine (H3.out _).mono ?_; rintro e w' ⟨rfl, rfl⟩))
      go_ret
      exact RetE.mk (int_eq HV.out.symm) e1
  · rw [Bool.not_eq_true] at g1
    rw [g1] at H
    have HV : Hid (wcode ss lap = 1) := Lib.hid (by simp [wcode, g1])
    clear g1
    go_enter Try.func46, Try.ntmps46
    go_wp2_with (go_at_call 67; refine (H.out).mono ?_; rintro e w1 ⟨rfl, e1⟩)
    go_ret
    exact RetE.mk (int_eq HV.out.symm) e1
theorem s_l06Code (ao : Option Addr) (n c : Nat) (ss : List ByteArray) (lap : Int) (w : World) (hx : Strs w ao n ss) (hs : Small ss) :
    Calls Try.prog 40 #[.slice ao n c, .int .i64 lap] w (RetE (.int .i64 (wcode ss lap)) w) := by
  have H := Lib.hid (s_l06Wall ao n c ss w hx hs)
  by_cases g1 : validW ss = true
  · rw [g1] at H
    by_cases g2 : inB lap 1 4 = true
    · have HV : Hid (wcode ss lap = 0) := Lib.hid (by simp [wcode, g1, g2])
      have H3 : Hid (∀ W, Calls Try.prog 48 #[.int .i64 lap, .int .i64 1, .int .i64 4] W (RetV (.bool true) W)) := Lib.hid (fun W => by rw [← g2]; exact s_l00In _ _ _ W)
      clear g1 g2
      go_enter Try.func40, Try.ntmps40
      go_wp2_with (first | (go_at_call 60; refine (H.out).mono ?_; rintro e w1 ⟨rfl, e1⟩) | (go_at_call 48; refine (H3.out _).mono ?_; rintro e w' ⟨rfl, rfl⟩))
      go_ret
      exact RetE.mk (int_eq HV.out.symm) e1
    · rw [Bool.not_eq_true] at g2
      have HV : Hid (wcode ss lap = 2) := Lib.hid (by simp [wcode, g1, g2])
      have H3 : Hid (∀ W, Calls Try.prog 48 #[.int .i64 lap, .int .i64 1, .int .i64 4] W (RetV (.bool false) W)) := Lib.hid (fun W => by rw [← g2]; exact s_l00In _ _ _ W)
      clear g1 g2
      go_enter Try.func40, Try.ntmps40
      go_wp2_with (first | (go_at_call 60; refine (H.out).mono ?_; rintro e w1 ⟨rfl, e1⟩) | (go_at_call 48; refine (H3.out _).mono ?_; rintro e w' ⟨rfl, rfl⟩))
      go_ret
      exact RetE.mk (int_eq HV.out.symm) e1
  · rw [Bool.not_eq_true] at g1
    rw [g1] at H
    have HV : Hid (wcode ss lap = 1) := Lib.hid (by simp [wcode, g1])
    clear g1
    go_enter Try.func40, Try.ntmps40
    go_wp2_with (go_at_call 60; refine (H.out).mono ?_; rintro e w1 ⟨rfl, e1⟩)
    go_ret
    exact RetE.mk (int_eq HV.out.symm) e1
set_option maxHeartbeats 4000000 in
theorem s_l06Clash (ao : Option Addr) (n c : Nat) (ss : List ByteArray) (lap : Int) (w : World) (hx : Strs w ao n ss) (hb : Brief ss) (n40 : n ≤ 1000) (l1 : 1 ≤ lap) (l2 : lap ≤ 4) :
    Calls Try.prog 41 #[.slice ao n c, .int .i64 lap] w (RetE (tupK (findK lap 0 ss) (.bool (findK lap 0 ss).isSome)) w) := by
  obtain ⟨hxl, hxm, hxc, hxi⟩ := hx
  obtain ⟨R, hR⟩ : ∃ R, findK lap 0 ss = R := ⟨_, rfl⟩
  rw [hR]
  have HR := Lib.hid hR
  clear hR
  go_enter Try.func41, Try.ntmps41
  go_wp2
  go_loopw [8] (fun i wr => ∃ k : Nat, k ≤ n ∧ i = .int .i64 k ∧ findK lap k (ss.drop k) = R ∧ Ext w wr) (fun i _ => n + 1 - (intOf i).toNat)
  case atStart => exact ⟨0, Nat.zero_le _, rfl, HR.out, Ext.refl _⟩
  case round =>
    obtain ⟨k, hk, rfl, hfk, er⟩ := hrel
    have HF := Lib.hid hfk
    clear hfk
    by_cases hlt : k + 1 < n
    · have hlti : (k : Int) + 1 < n := by omega
      have hlt0 : k < n := by omega
      obtain ⟨b, off, rfl, hc⟩ := hxc k hlt0
      obtain ⟨b', off', hbb, hc1⟩ := hxc (k + 1) hlt
      have hbe : b = b' ∧ off = off' := by simp at hbb; exact hbb
      obtain ⟨rfl, rfl⟩ := hbe
      have s1 := hb.at (show k < ss.length by omega)
      have s2 := hb.at (show k + 1 < ss.length by omega)
      have hit := fun x y => findK_hit (lap := lap) (x := x) (y := y) (l := ss) (k := k) (by omega)
      have miss := findK_miss (lap := lap) (l := ss) (k := k) (by omega)
      obtain ⟨p, hp⟩ : ∃ p, ss.getD k ByteArray.empty = p := ⟨_, rfl⟩
      obtain ⟨q, hq⟩ : ∃ q, ss.getD (k + 1) ByteArray.empty = q := ⟨_, rfl⟩
      rw [hp] at hc s1 hit miss
      rw [hq] at hc1 s2 hit miss
      have G0 := er.cell hc
      have G1 := er.cell hc1
      have HH := Lib.hid hit
      have HM := Lib.hid miss
      have et : ((k : Int) + 1).toNat = k + 1 := by omega
      clear hp hq hc hc1 hit miss hxc hbb
      go_wp2_with fail
      refine (s_l06Perpends p s1.1 (by omega) _).mono ?_
      rintro e w1 ⟨a1, c1, rfl, o1, e1⟩
      replace G1 := e1.cell G1
      go_wp2_with fail
      refine (s_l06Perpends q s2.1 (by omega) _).mono ?_
      rintro e w2 ⟨a2, c2, rfl, o2, e2⟩
      have I1 := (o1.ext e2).ints
      have I2 := o2.ints
      have E2 := (er.trans e1).trans e2
      have P1 := fun j hj => perps_at p s1.2 (j := j) hj
      have P2 := fun j hj => perps_at q s2.2 (j := j) hj
      obtain ⟨xs, hxs⟩ : ∃ xs, perps (bts p) = xs := ⟨_, rfl⟩
      obtain ⟨ys, hys⟩ : ∃ ys, perps (bts q) = ys := ⟨_, rfl⟩
      rw [hxs] at I1 P1 HH HM ⊢
      rw [hys] at I2 P2 HH HM ⊢
      have hxsm := I1.2.1
      have hysm := I2.2.1
      obtain ⟨nx, hnx⟩ : ∃ nx, xs.length = nx := ⟨_, rfl⟩
      obtain ⟨ny, hny⟩ : ∃ ny, ys.length = ny := ⟨_, rfl⟩
      rw [hnx] at I1 P1 hxsm ⊢
      rw [hny] at I2 P2 hysm ⊢
      clear e1 e2 o1 o2 G0 G1 hxs hys er
      go_wp2
      go_loopw [11] (fun i wr => ∃ j : Nat, j ≤ nx ∧ i = .int .i64 j ∧ findXY lap ys (xs.drop j) = findXY lap ys xs ∧ Ext w2 wr) (fun i _ => nx - (intOf i).toNat)
      case atStart => exact ⟨0, Nat.zero_le _, rfl, rfl, Ext.refl _⟩
      case round =>
        obtain ⟨j, hj, rfl, hfx, em⟩ := hrel
        have HX := Lib.hid hfx
        clear hfx
        by_cases hjl : j < nx
        · obtain ⟨b1, f1, rfl, hcx⟩ := (I1.ext em).2.2.1 j hjl
          obtain ⟨x, hx⟩ : ∃ x, xs.getD j 0 = x := ⟨_, rfl⟩
          have xb := P1 j hjl
          have hitx := fun y => findXY_hit (lap := lap) (y := y) (ys := ys) (l := xs) (j := j) (by omega)
          have missx := findXY_miss (lap := lap) (ys := ys) (l := xs) (j := j) (by omega)
          rw [hx] at hcx xb hitx missx
          have HHX := Lib.hid hitx
          have HMX := Lib.hid missx
          clear hitx missx hx
          go_wp2
          go_loopw [12] (fun i wr => ∃ m : Nat, m ≤ ny ∧ i = .int .i64 m ∧ findY lap x (ys.drop m) = findY lap x ys ∧ Ext w2 wr ∧ wr.cell? ⟨b1, f1 + j, none⟩ = some (.int .i64 x)) (fun i _ => ny - (intOf i).toNat)
          case atStart => exact ⟨0, Nat.zero_le _, rfl, rfl, em, hcx⟩
          case round =>
            obtain ⟨m, hm, rfl, hfy, ei, hcx2⟩ := hrel
            have HY := Lib.hid hfy
            clear hfy hcx em
            by_cases hml : m < ny
            · obtain ⟨b2, f2, rfl, hcy⟩ := (I2.ext ei).2.2.1 m hml
              obtain ⟨y, hy⟩ : ∃ y, ys.getD m 0 = y := ⟨_, rfl⟩
              have yb := P2 m hml
              have hity := findY_hit (lap := lap) (x := x) (l := ys) (m := m) (by omega)
              have missy := findY_miss (lap := lap) (x := x) (l := ys) (m := m) (by omega)
              rw [hy] at hcy yb hity missy
              have HHY := Lib.hid hity
              have HMY := Lib.hid missy
              have hS := fun W => s_l02Size x y (by omega) (by omega) (by omega) (by omega) W
              obtain ⟨d, hd⟩ : ∃ d, dist x y = d := ⟨_, rfl⟩
              rw [hd] at HHY HMY hS
              have HS := Lib.hid hS
              clear hity missy hy hS hd
              by_cases hdl : d < lap
              · have hf := HF.out.symm.trans (HH.out x y ((HX.out).symm.trans (HHX.out y ((HY.out).symm.trans (HHY.out hdl)))))
                have HFF := Lib.hid hf
                clear hf
                go_wp2
                go_quiet ((go_at_call 61; exact quiet_retv (HS.out _)))
                go_wp2
                go_quiet (fail)
                go_wp2
                (try simp only [Exit.inBlock, Exit.then]); refine bodyPost_ret (results_tmp4 rfl _ _ _) rfl ?_
                exact RetE.mk (tupK_some HFF.out (bool_eq (by rw [HFF.out]; rfl))) (E2.trans ((ei.drewN _).drewN _))
              · go_wp2
                go_quiet ((go_at_call 61; exact quiet_retv (HS.out _)))
                go_wp2
                go_roundw
                case rel => exact ⟨m + 1, by omega, by go_num, by rw [← HMY.out hdl, HY.out], ei.drewN _, by simpa using hcx2⟩
                case measure => simp [intOf]; omega
            · have hn := HY.out
              rw [List.drop_of_length_le (by omega)] at hn
              have hmx := HMX.out hn.symm
              have HMM := Lib.hid hmx
              clear hn hmx
              go_wp2
              go_roundw
              case rel => exact ⟨j + 1, by omega, by go_num, by rw [← HMM.out, HX.out], ei⟩
              case measure => simp [intOf]; omega
        · have hn := HX.out
          rw [List.drop_of_length_le (by omega)] at hn
          have hmk := HM.out hn.symm
          have HMM := Lib.hid hmk
          clear hn hmk
          go_wp2
          go_roundw
          case rel => exact ⟨k + 1, by omega, by go_num, by rw [← HF.out, HMM.out]; rfl, E2.trans em⟩
          case measure => simp [intOf]; omega
    · have hn : R = none := by rw [← HF.out]; exact findK_end (by omega) _
      have HN := Lib.hid hn
      clear hn hxc
      go_wp2
      (try simp only [Exit.inBlock, Exit.then]); refine bodyPost_ret (results_tmp4 rfl _ _ _) rfl ?_
      exact RetE.mk (tupK_none HN.out (bool_eq (by rw [HN.out]; rfl))) er
/-- what FirstClash answers -/
def fcV (ss : List ByteArray) (lap : Int) : Value := if wcode ss lap = 0 then tupK (findK lap 0 ss) (.int .i64 (clC (findK lap 0 ss))) else .tuple #[.int .i64 0, .int .i64 0, .int .i64 0, .int .i64 (wcode ss lap)]
def ibV (ss : List ByteArray) (lap : Int) : Value := if wcode ss lap = 0 then .tuple #[.bool (findK lap 0 ss).isNone, .int .i64 0] else .tuple #[.bool false, .int .i64 (wcode ss lap)]
set_option maxHeartbeats 800000 in
theorem s_IsBonded (ao : Option Addr) (n c : Nat) (ss : List ByteArray) (lap : Int) (w : World) (hx : Strs w ao n ss) (hs : Small ss) :
    Calls Try.prog 23 #[.slice ao n c, .int .i64 lap] w (RetE (ibV ss lap) w) := by
  have H := Lib.hid (s_l06Code ao n c ss lap w hx hs)
  by_cases g : wcode ss lap = 0
  · have ⟨v1, v2, v3⟩ := wcode_ok g
    have hn40 := (validW_bd v1).2.1
    rw [hx.1] at hn40
    have HC := Lib.hid (fun W e => s_l06Clash ao n c ss lap W (hx.ext e) (validW_brief v1) (by omega) v2 v3)
    have HV : Hid (ibV ss lap = .tuple #[.bool (findK lap 0 ss).isNone, .int .i64 0]) := Lib.hid (by unfold ibV; rw [if_pos g])
    rw [g] at H
    clear g
    rcases hR : findK lap 0 ss with _ | ⟨k, x, y⟩
    · rw [hR] at HC HV
      go_enter Try.func23, Try.ntmps23
      go_wp2_with (first | (go_at_call 40; refine (H.out).mono ?_; rintro e w1 ⟨rfl, e1⟩) | (go_at_call 41; refine (HC.out _ e1).mono ?_; rintro e w2 ⟨rfl, e2⟩; unfold tupK))
      go_ret2
      exact RetE.mk (by rw [HV.out]; rfl) (e1.trans e2)
    · rw [hR] at HC HV
      go_enter Try.func23, Try.ntmps23
      go_wp2_with (first | (go_at_call 40; refine (H.out).mono ?_; rintro e w1 ⟨rfl, e1⟩) | (go_at_call 41; refine (HC.out _ e1).mono ?_; rintro e w2 ⟨rfl, e2⟩; unfold tupK))
      go_ret2
      exact RetE.mk (by rw [HV.out]; rfl) (e1.trans e2)
  · have HV : Hid (ibV ss lap = .tuple #[.bool false, .int .i64 (wcode ss lap)]) := Lib.hid (by unfold ibV; rw [if_neg g])
    go_enter Try.func23, Try.ntmps23
    go_wp2_with (first | (go_at_call 40; refine (H.out).mono ?_; rintro e w1 ⟨rfl, e1⟩))
    go_ret2
    exact RetE.mk (HV.out.symm ▸ rfl) e1
end Go.Proofs.Ytciamgnfbhijlaa
