/- The program's own search for the first clash of a wall. -/
import Derived.Test.YtciamgnfbhijlaaClash
namespace Go.Proofs.Ytciamgnfbhijlaa
open Go.RowKit
set_option linter.unusedSimpArgs false
set_option linter.unusedVariables false
set_option linter.unnecessarySimpa false

set_option maxHeartbeats 4000000 in
theorem i_FirstClash (ao : Option Addr) (n c : Nat) (ss : List ByteArray) (lap : Int) (w : World) (hx : Strs w ao n ss) (hs : Small ss) :
    Calls Try.prog 47 #[.slice ao n c, .int .i64 lap] w (RetE (fcV ss lap) w) := by
  have H := Lib.hid (i_wallCode ao n c ss lap w hx hs)
  by_cases g : wcode ss lap = 0
  · have ⟨v1, l1, l2⟩ := wcode_ok g
    have n1 := (validW_bd v1).1
    have n40 := (validW_bd v1).2.1
    rw [hx.1] at n1 n40
    have hb := validW_brief v1
    have HV : Hid (fcV ss lap = tupK (findK lap 0 ss) (.int .i64 (clC (findK lap 0 ss)))) := Lib.hid (by unfold fcV; rw [if_pos g])
    rw [g] at H
    clear g
    obtain ⟨hxl, hxm, hxc, hxi⟩ := hx
    obtain ⟨V, hV⟩ : ∃ V, fcV ss lap = V := ⟨_, rfl⟩
    rw [hV] at HV ⊢
    obtain ⟨R, hR⟩ : ∃ R, findK lap 0 ss = R := ⟨_, rfl⟩
    rw [hR] at HV
    have HR := Lib.hid hR
    clear hR hV
    go_enter Try.func47, Try.ntmps47
    go_wp2_with (go_at_call 46; refine (H.out).mono ?_; rintro e w0 ⟨rfl, e0⟩)
    go_loopw [9] (fun i wr => ∃ k : Nat, k < n ∧ i = .int .i64 ((k : Int) + 1) ∧ findK lap k (ss.drop k) = R ∧ Ext w wr) (fun i _ => n + 1 - (intOf i).toNat)
    case atStart => exact ⟨0, by omega, rfl, HR.out, e0⟩
    case round =>
      obtain ⟨k, hk, rfl, hfk, er⟩ := hrel
      have HF := Lib.hid hfk
      clear hfk
      by_cases hlt : k + 1 < n
      · have hlti : (k : Int) + 1 < n := by omega
        have hlt0 : k < n := by omega
        obtain ⟨b, off, rfl, hc⟩ := hxc k hlt0
        obtain ⟨b', off', hbb, hc1⟩ := hxc (k + 1) hlt
        have hbe : b = b' ∧ off = off' := by simp at hbb; exact hbb
        obtain ⟨rfl, rfl⟩ := hbe
        have s1 := hb.at (show k < ss.length by omega)
        have s2 := hb.at (show k + 1 < ss.length by omega)
        have hit := fun x y => findK_hit (lap := lap) (x := x) (y := y) (l := ss) (k := k) (by omega)
        have miss := findK_miss (lap := lap) (l := ss) (k := k) (by omega)
        obtain ⟨p, hp⟩ : ∃ p, ss.getD k ByteArray.empty = p := ⟨_, rfl⟩
        obtain ⟨q, hq⟩ : ∃ q, ss.getD (k + 1) ByteArray.empty = q := ⟨_, rfl⟩
        rw [hp] at hc s1 hit miss
        rw [hq] at hc1 s2 hit miss
        have G0 := er.cell hc
        have G1 := er.cell hc1
        have HH := Lib.hid hit
        have HM := Lib.hid miss
        have et : ((k : Int) + 1).toNat = k + 1 := by omega
        have et2 : ((k : Int) + 1 - 1) = k := by omega
        clear hp hq hc hc1 hit miss hxc hbb
        go_wp2_with fail
        refine (i_coursePerpends q s2.1 (by omega) _).mono ?_
        rintro e w1 ⟨a2, c2, rfl, o2, e2⟩
        replace G0 := e2.cell G0
        go_wp2_with fail
        refine (i_coursePerpends p s1.1 (by omega) _).mono ?_
        rintro e w2 ⟨a1, c1, rfl, o1, e1⟩
        have I2 := (o2.ext e1).ints
        have I1 := o1.ints
        have E2 := (er.trans e2).trans e1
        have P1 := fun j hj => perps_at p s1.2 (j := j) hj
        have P2 := fun j hj => perps_at q s2.2 (j := j) hj
        obtain ⟨xs, hxs⟩ : ∃ xs, perps (bts p) = xs := ⟨_, rfl⟩
        obtain ⟨ys, hys⟩ : ∃ ys, perps (bts q) = ys := ⟨_, rfl⟩
        rw [hxs] at I1 P1 HH HM ⊢
        rw [hys] at I2 P2 HH HM ⊢
        have hxsm := I1.2.1
        have hysm := I2.2.1
        obtain ⟨nx, hnx⟩ : ∃ nx, xs.length = nx := ⟨_, rfl⟩
        obtain ⟨ny, hny⟩ : ∃ ny, ys.length = ny := ⟨_, rfl⟩
        rw [hnx] at I1 P1 hxsm ⊢
        rw [hny] at I2 P2 hysm ⊢
        clear e1 e2 o1 o2 G0 G1 hxs hys er
        go_wp2
        go_loopw [39] (fun i wr => ∃ j : Nat, j ≤ nx ∧ i = .int .i64 j ∧ findXY lap ys (xs.drop j) = findXY lap ys xs ∧ Ext w2 wr) (fun i _ => nx - (intOf i).toNat)
        case atStart => exact ⟨0, Nat.zero_le _, rfl, rfl, Ext.refl _⟩
        case round =>
          obtain ⟨j, hj, rfl, hfx, em⟩ := hrel
          have HX := Lib.hid hfx
          clear hfx
          by_cases hjl : j < nx
          · obtain ⟨b1, f1, rfl, hcx⟩ := (I1.ext em).2.2.1 j hjl
            obtain ⟨x, hx⟩ : ∃ x, xs.getD j 0 = x := ⟨_, rfl⟩
            have xb := P1 j hjl
            have hitx := fun y => findXY_hit (lap := lap) (y := y) (ys := ys) (l := xs) (j := j) (by omega)
            have missx := findXY_miss (lap := lap) (ys := ys) (l := xs) (j := j) (by omega)
            rw [hx] at hcx xb hitx missx
            have HHX := Lib.hid hitx
            have HMX := Lib.hid missx
            clear hitx missx hx
            go_wp2
            go_loopw [45] (fun i wr => ∃ m : Nat, m ≤ ny ∧ i = .int .i64 m ∧ findY lap x (ys.drop m) = findY lap x ys ∧ Ext w2 wr) (fun i _ => ny - (intOf i).toNat)
            case atStart => exact ⟨0, Nat.zero_le _, rfl, rfl, em⟩
            case round =>
              obtain ⟨m, hm, rfl, hfy, ei⟩ := hrel
              have HY := Lib.hid hfy
              clear hfy hcx em
              by_cases hml : m < ny
              · obtain ⟨b2, f2, rfl, hcy⟩ := (I2.ext ei).2.2.1 m hml
                obtain ⟨y, hy⟩ : ∃ y, ys.getD m 0 = y := ⟨_, rfl⟩
                have yb := P2 m hml
                have hity := findY_hit (lap := lap) (x := x) (l := ys) (m := m) (by omega)
                have missy := findY_miss (lap := lap) (x := x) (l := ys) (m := m) (by omega)
                rw [hy] at hcy yb hity missy
                have HHY := Lib.hid hity
                have HMY := Lib.hid missy
                have hS := fun W => i_apart x y (by omega) (by omega) (by omega) (by omega) W
                obtain ⟨d, hd⟩ : ∃ d, dist x y = d := ⟨_, rfl⟩
                rw [hd] at HHY HMY hS
                have HS := Lib.hid hS
                clear hity missy hy hS hd
                by_cases hdl : d < lap
                · have hf := HF.out.symm.trans (HH.out x y ((HX.out).symm.trans (HHX.out y ((HY.out).symm.trans (HHY.out hdl)))))
                  have HFF := Lib.hid hf
                  clear hf
                  go_wp2_with (go_at_call 69; refine (HS.out _).mono ?_; rintro e w' ⟨rfl, rfl⟩)
                  (try simp only [Exit.inBlock, Exit.then]); refine bodyPost_ret (results_tmp4 rfl _ _ _) rfl ?_
                  exact RetE.mk (by rw [HV.out]; exact tupK_some HFF.out (int_eq (by rw [HFF.out]; rfl))) (E2.trans ei)
                · go_wp2_with (go_at_call 69; refine (HS.out _).mono ?_; rintro e w' ⟨rfl, rfl⟩)
                  go_roundw
                  case rel => exact ⟨m + 1, by omega, by go_num, by rw [← HMY.out hdl, HY.out], ei⟩
                  case measure => simp [intOf]; omega
              · have hn := HY.out
                rw [List.drop_of_length_le (by omega)] at hn
                have hmx := HMX.out hn.symm
                have HMM := Lib.hid hmx
                clear hn hmx
                go_wp2
                go_roundw
                case rel => exact ⟨j + 1, by omega, by go_num, by rw [← HMM.out, HX.out], ei⟩
                case measure => simp [intOf]; omega
          · have hn := HX.out
            rw [List.drop_of_length_le (by omega)] at hn
            have hmk := HM.out hn.symm
            have HMM := Lib.hid hmk
            clear hn hmk
            go_wp2
            go_roundw
            case rel => exact ⟨k + 1, by omega, by go_num, by rw [← HF.out, HMM.out]; rfl, E2.trans em⟩
            case measure => simp [intOf]; omega
      · have hn : R = none := by rw [← HF.out]; exact findK_end (by omega) _
        have HN := Lib.hid hn
        clear hn hxc
        go_wp2
        (try simp only [Exit.inBlock, Exit.then]); refine bodyPost_ret (results_tmp4 rfl _ _ _) rfl ?_
        exact RetE.mk (by rw [HV.out]; exact tupK_none HN.out (int_eq (by rw [HN.out]; rfl))) er
  · have HV : Hid (fcV ss lap = .tuple #[.int .i64 0, .int .i64 0, .int .i64 0, .int .i64 (wcode ss lap)]) := Lib.hid (by unfold fcV; rw [if_neg g])
    go_enter Try.func47, Try.ntmps47
    go_wp2_with (first | (go_at_call 46; refine (H.out).mono ?_; rintro e w1 ⟨rfl, e1⟩))
    (try simp only [Exit.inBlock, Exit.then]); refine bodyPost_ret (results_tmp4 rfl _ _ _) rfl ?_
    exact RetE.mk (HV.out.symm ▸ rfl) e1
set_option maxHeartbeats 800000 in
theorem i_IsBonded (ao : Option Addr) (n c : Nat) (ss : List ByteArray) (lap : Int) (w : World) (hx : Strs w ao n ss) (hs : Small ss) :
    Calls Try.prog 28 #[.slice ao n c, .int .i64 lap] w (RetE (ibV ss lap) w) := by
  have H := Lib.hid (i_wallCode ao n c ss lap w hx hs)
  have HC := Lib.hid (fun W e => i_FirstClash ao n c ss lap W (hx.ext e) hs)
  by_cases g : wcode ss lap = 0
  · have HV : Hid (ibV ss lap = .tuple #[.bool (findK lap 0 ss).isNone, .int .i64 0]) := Lib.hid (by unfold ibV; rw [if_pos g])
    have hF : fcV ss lap = tupK (findK lap 0 ss) (.int .i64 (clC (findK lap 0 ss))) := by unfold fcV; rw [if_pos g]
    rw [g] at H
    rw [hF] at HC
    clear g hF
    rcases hR : findK lap 0 ss with _ | ⟨k, x, y⟩
    · rw [hR] at HC HV
      go_enter Try.func28, Try.ntmps28
      go_wp2_with (first | (go_at_call 46; refine (H.out).mono ?_; rintro e w1 ⟨rfl, e1⟩) | (go_at_call 47; refine (HC.out _ e1).mono ?_; rintro e w2 ⟨rfl, e2⟩; unfold tupK))
      go_ret2
      exact RetE.mk (by rw [HV.out]; rfl) (e1.trans e2)
    · rw [hR] at HC HV
      go_enter Try.func28, Try.ntmps28
      go_wp2_with (first | (go_at_call 46; refine (H.out).mono ?_; rintro e w1 ⟨rfl, e1⟩) | (go_at_call 47; refine (HC.out _ e1).mono ?_; rintro e w2 ⟨rfl, e2⟩; unfold tupK))
      go_ret2
      exact RetE.mk (by rw [HV.out]; rfl) (e1.trans e2)
  · have HV : Hid (ibV ss lap = .tuple #[.bool false, .int .i64 (wcode ss lap)]) := Lib.hid (by unfold ibV; rw [if_neg g])
    go_enter Try.func28, Try.ntmps28
    go_wp2_with (first | (go_at_call 46; refine (H.out).mono ?_; rintro e w1 ⟨rfl, e1⟩))
    go_ret2
    exact RetE.mk (HV.out.symm ▸ rfl) e1
end Go.Proofs.Ytciamgnfbhijlaa
