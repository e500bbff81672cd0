/- The lines of a front: the program's side. -/
import Derived.Test.YtnhmcmohnpbcjaaFrontR
import Derived.Test.YtnhmcmohnpbcjaaChg
namespace Go.Proofs.Ytnhmcmohnpbcjaa
open Go.RowKit
set_option linter.unusedSimpArgs false
set_option linter.unusedVariables false
set_option linter.unnecessarySimpa false

theorem rep_one (b : UInt8) (n : Nat) : Lib.repeatL [b] n = List.replicate n b := by
  induction n with
  | zero => rfl
  | succ n ih => rw [Lib.repeatL, ih, List.replicate_succ]; rfl
theorem upB_start (ps : List (Int × Int)) (x a : Int) : upB ps x x a = covB ps a := by
  unfold upB
  have : (decide (x ≤ a) && decide (a < x)) = false := by (simp <;> omega)
  rw [this, Bool.or_false]
theorem ByteRow.paint {w : World} {g N X i : Nat} {ps : List (Int × Int)} (h : ByteRow w g (rowF N (upB ps X i))) (hi : i < N) (hx : X ≤ i) : ByteRow (w.setCell ⟨g, i, none⟩ (.int .u8 35)) g (rowF N (upB ps X ((i + 1 : Nat) : Int))) := by
  have h2 := h.set 35 (j := i) (by rw [rowF_len]; exact hi)
  rw [rowF_set] at h2
  have e : rowF N (fun a => upB ps X i a || a == (i : Int)) = rowF N (upB ps X ((i + 1 : Nat) : Int)) := rowF_congr (fun a ha => by
    unfold upB
    rw [Bool.eq_iff_iff]
    simp only [Bool.or_eq_true, Bool.and_eq_true, decide_eq_true_eq, beq_iff_eq]
    constructor
    · rintro ((h | h) | h)
      · exact .inl h
      · right; omega
      · right; omega
    · rintro (h | h)
      · exact .inl (.inl h)
      · by_cases e : (a : Int) = i
        · exact .inr e
        · exact .inl (.inr (by omega)))
  rw [e] at h2
  exact h2
theorem ByteRow.begin {w : World} {g N : Nat} {x : Int} {ps : List (Int × Int)} (h : ByteRow w g (rowF N (covB ps))) : ByteRow w g (rowF N (upB ps x x)) := by
  rw [rowF_congr (fun a _ => upB_start ps x a)]
  exact h
theorem ByteRow.done {w : World} {g N k : Nat} {x y : Int} {ps : List (Int × Int)} (hk : k < ps.length) (hp : ps.getD k (0, 0) = (x, y)) (h : ByteRow w g (rowF N (upB (ps.take k) x y))) : ByteRow w g (rowF N (covB (ps.take (k + 1)))) := by
  have e : rowF N (upB (ps.take k) x y) = rowF N (covB (ps.take (k + 1))) := rowF_congr (fun a _ => by
    rw [List.getD_eq_getElem?_getD, List.getElem?_eq_getElem hk, Option.getD_some] at hp
    rw [List.take_succ_eq_append_getElem hk, covB_snoc, hp]
    rfl)
  rw [← e]
  exact h
set_option maxRecDepth 100000 in
set_option maxHeartbeats 4000000 in
theorem i_FrontLines (L C : Int) (ao : Option Addr) (n c : Nat) (os : List Opn) (w : World) (hx : Opens w ao n os) (hnc : n ≤ c) :
    Calls Try.prog 21 #[.agg #[.int .i64 L, .int .i64 C, .slice ao n c]] w (RetStrsC (linesF L C os) (sel (validF L C os) 0 1) w) := by
  have HE : Hid (Ext w (w.alloc (.cells #[.int .i64 L, .int .i64 C, .slice ao n c] 30))) := Lib.hid ((Ext.refl w).alloc _)
  have A : Three (w.alloc (.cells #[.int .i64 L, .int .i64 C, .slice ao n c] 30)) w.heap.size (.int .i64 L) (.int .i64 C) (.slice ao n c) := Three.new w _ _ _ _
  have H1 := Lib.hid (fun W (e : Ext w W) => i_ValidFront L C ao n c os W (hx.ext e) hnc)
  cases hv : validF L C os with
  | true =>
    obtain ⟨⟨l1, l2⟩, ⟨c1, c2⟩, n8, hok⟩ := validF_bd hv
    have hxl := hx.1
    have HP := Lib.hid (fun W (e : Ext w W) q => i_partsOf L C ao n c os q W (hx.ext e) (by omega))
    have HPB := Lib.hid (fun (q : Int) => parts_bd (c := q) hok)
    have HLen := Lib.hid (fun (q : Int) => partsI_len L q os)
    obtain ⟨M, rfl⟩ : ∃ M : Nat, C = M := ⟨C.toNat, by omega⟩
    obtain ⟨N, rfl⟩ : ∃ N : Nat, L = N := ⟨L.toNat, by omega⟩
    have HLine := Lib.hid (fun (q : Int) => line_of (L := N) (c := q) (N := N) (os := os) rfl hok)
    have HRep : Hid (∀ W, Calls Try.prog 65 #[.string ⟨#[46]⟩, .int .i64 N] W (RetE (.string (mkS (rowF N (fun _ => false)))) W)) := Lib.hid (fun W => by
      have h := Try.strings_Repeat ⟨#[46]⟩ N W (by omega) (by show 1 * N ≤ _; omega)
      have e : (⟨(Lib.repeatL (⟨#[46]⟩ : ByteArray).data.toList N).toArray⟩ : ByteArray) = mkS (rowF N (fun _ => false)) := by
        rw [rowF_none, ← rep_one]; rfl
      rw [e] at h
      exact h)
    have HF : Hid (linesF N M os = linesT N M os M) := Lib.hid (by unfold linesF; rw [if_pos hv, Int.toNat_natCast, Int.toNat_natCast])
    have hn8 : os.length ≤ 8 := n8
    rw [hv] at H1
    clear hv hok hx hxl n8
    go_enter Try.func21, Try.ntmps21
    go_wp2_with (go_at_call 51; refine (H1.out _ HE.out).mono ?_; rintro e w1 ⟨rfl, e1⟩; replace A := A.ext e1)
    have HW1 := Lib.hid e1
    clear e1 H1
    go_loopw [4, 5] (fun v i wr => ∃ j : Nat, j ≤ M ∧ i = .int .i64 ((M : Int) - 1 - j) ∧ Hid (OwnStrs wr w1.heap.size v (linesT N M os j)) ∧ Ext w1 wr) (fun _ i _ => (intOf i + 1).toNat)
    case atStart => exact ⟨0, Nat.zero_le _, by go_num, Lib.hid (OwnStrs.empty (Ext.refl _)), (Ext.refl _).alloc _⟩
    case round =>
      obtain ⟨j, hj, rfl, HR, er⟩ := hrel
      replace A := A.ext er
      have HER := Lib.hid er
      by_cases hlt : j < M
      · have h0 : (0 : Int) ≤ (M : Int) - 1 - j := by omega
        have HSU : Hid (linesT N M os (j + 1) = linesT N M os j ++ [mkS (lineB N os ((M : Int) - 1 - j))]) := Lib.hid rfl
        have HLN : Hid ((linesT N M os j).length ≤ 10000000) := Lib.hid (by rw [linesT_len]; omega)
        have HZS : Hid ((mkS (lineB N os ((M : Int) - 1 - j))).size ≤ 9223372036854775807) := Lib.hid (by rw [line_size]; omega)
        have HPq := Lib.hid (fun W (e : Ext w1 W) => HP.out W ((HE.out.trans HW1.out).trans e) ((M : Int) - 1 - j))
        have hpb := HPB.out ((M : Int) - 1 - j)
        have hlen := HLen.out ((M : Int) - 1 - j)
        have hline := HLine.out ((M : Int) - 1 - j)
        obtain ⟨q, hq⟩ : ∃ q : Int, (M : Int) - 1 - j = q := ⟨_, rfl⟩
        rw [hq] at HSU HZS HPq hpb hlen hline
        obtain ⟨ps, hps⟩ : ∃ ps, partsI N q os = ps := ⟨_, rfl⟩
        rw [hps] at HPq hpb hlen hline
        have hpl : ps.length ≤ 9 := by omega
        have HPB2 := Lib.hid hpb
        have HLI := Lib.hid hline
        have HQM : Hid ((M : Int) - 1 - ((j + 1 : Nat) : Int) = q - 1) := Lib.hid (by omega)
        have hq0 : 0 ≤ q := by omega
        have hq1 : q ≤ 40 := by omega
        rw [hq]
        obtain ⟨wo, rfl⟩ : ∃ wo : World, wo = wr := ⟨_, rfl⟩
        clear er hq h0 hps hpb hlen hline
        go_wp2_with (go_at_call 65; refine (HRep.out _).mono ?_; rintro e w2 ⟨rfl, e2⟩; obtain ⟨g, cap, w3, hcv, hrow, e3, hg⟩ := bytes_of w2 (rowF N (fun _ => false)); rw [rowF_len] at hcv; have HROW := Lib.hid hrow; have hg3 := hrow.lt; have hgo : wo.heap.size ≤ g := Nat.le_trans e2.size hg; have HEO := Lib.hid (e2.trans e3); replace A := A.ext (e2.trans e3); clear hrow hg e2 e3)
        refine (HPq.out _ (HER.out.trans HEO.out)).mono ?_
        rintro e w4 ⟨a4, c4, rfl, o4, e4⟩
        have HO4 := Lib.hid o4
        have HROW4 := Lib.hid (HROW.out.ext e4)
        have HEO4 := Lib.hid (HEO.out.trans e4)
        replace A := A.ext e4
        clear o4 e4 hcv
        go_wp2
        go_loopw [29] (fun i wi => ∃ k : Nat, k ≤ ps.length ∧ i = .int .i64 k ∧ Hid (ByteRow wi g (rowF N (covB (ps.take k)))) ∧ Hid (OwnParts wi w3.heap.size (.slice a4 ps.length c4) ps) ∧ Ext wo wi) (fun i _ => ps.length - (intOf i).toNat)
        case atStart => exact ⟨0, Nat.zero_le _, rfl, HROW4, HO4, HEO4.out⟩
        case round =>
          obtain ⟨k, hk, rfl, HB, HO, ei⟩ := hrel
          have HEI := Lib.hid ei
          by_cases hkl : k < ps.length
          · obtain ⟨gp, rfl, d0, d1⟩ := HO.out.at hkl
            have hp := HPB2.out (ps.getD k (0, 0)) (by rw [List.getD_eq_getElem?_getD, List.getElem?_eq_getElem hkl]; exact List.getElem_mem _)
            obtain ⟨p, hpe⟩ : ∃ p, ps.getD k (0, 0) = p := ⟨_, rfl⟩
            rw [hpe] at d0 d1 hp
            obtain ⟨x, y⟩ := p
            have hp' : 0 ≤ x ∧ x < y ∧ y ≤ (N : Int) := hp
            obtain ⟨X, rfl⟩ : ∃ X : Nat, x = X := ⟨x.toNat, by omega⟩
            obtain ⟨Y, rfl⟩ : ∃ Y : Nat, y = Y := ⟨y.toNat, by omega⟩
            have d0' : wr.cell? ⟨gp, k * 2, none⟩ = some (.int .i64 X) := d0
            have d1' : wr.cell? ⟨gp, k * 2 + 1, none⟩ = some (.int .i64 Y) := d1
            have hXY : X < Y := by omega
            have hYN : Y ≤ N := by omega
            have HPE := Lib.hid hpe
            have hki : (k : Int) < (ps.length : Int) := by omega
            have hk0 : (0 : Int) ≤ (k : Int) := by omega
            clear hp hp' hpe d0 d1 ei
            obtain ⟨wm, rfl⟩ : ∃ wm : World, wm = wr := ⟨_, rfl⟩
            have hgm : g < wm.heap.size := HB.out.lt
            have HBX := Lib.hid (heap_alloc_new wm (.cells #[.int .i64 (X : Int), .int .i64 (Y : Int)] 51))
            have HBA := Lib.hid ((HB.out.begin (x := (X : Int))).ext ((Ext.refl wm).alloc (.cells #[.int .i64 (X : Int), .int .i64 (Y : Int)] 51)))
            have HOA := Lib.hid (HO.out.ext ((Ext.refl wm).alloc (.cells #[.int .i64 (X : Int), .int .i64 (Y : Int)] 51)))
            have HEA := Lib.hid (HEI.out.alloc (.cells #[.int .i64 (X : Int), .int .i64 (Y : Int)] 51))
            go_wp2
            go_loopw [9] (fun v wk => ∃ i : Nat, X ≤ i ∧ i ≤ Y ∧ v = .int .i64 i ∧ Hid (ByteRow wk g (rowF N (upB (ps.take k) X i))) ∧ Hid (OwnParts wk w3.heap.size (.slice (some ⟨gp, 0, none⟩) ps.length c4) ps) ∧ Hid (wk.heap[wm.heap.size]? = some (.cells #[.int .i64 (X : Int), .int .i64 (Y : Int)] 51 (0, 0))) ∧ Ext wo wk) (fun v _ => Y - (intOf v).toNat)
            case atStart => exact ⟨X, Nat.le_refl _, by omega, rfl, HBA, HOA, HBX, HEA.out⟩
            case round =>
              obtain ⟨i, hXi, hiY, rfl, HB2, HO2, HX2, ek⟩ := hrel
              have HEK := Lib.hid ek
              obtain ⟨b0, b1, b2, b3, b4⟩ := two_cells HX2.out
              clear d0' d1' ek
              by_cases hil : i < Y
              · obtain ⟨r0, r1⟩ := HB2.out.cell (j := i) (by rw [rowF_len]; omega)
                have hi0 : (0 : Int) ≤ (i : Int) := by omega
                have hi1 : (i : Int) < (N : Int) := by omega
                have HP1 := Lib.hid (HB2.out.paint (by omega) hXi)
                have HP2 := Lib.hid (HO2.out.setBelow (a := ⟨g, i, none⟩) hg3 (.int .u8 35))
                have HP3 := Lib.hid (heap_setN g i (.int .u8 35) HX2.out (by omega))
                have HP4 := Lib.hid (HEK.out.setCell (p := ⟨g, i, none⟩) hgo (.int .u8 35))
                go_wp2
                go_roundw
                case rel => first | exact ⟨i + 1, by omega, by omega, by go_num, HP1, HP2, HP3, HP4.out⟩ | ((repeat apply Exists.intro); exact ⟨⟨i + 1, by omega, by omega, by go_num, HP1, HP2, HP3, HP4.out⟩, rfl⟩)
                case measure => (simp [intOf] <;> omega)
              · obtain rfl : i = Y := by omega
                have HD := Lib.hid (HB2.out.done hkl HPE.out)
                go_wp2
                go_roundw
                case rel => first | exact ⟨k + 1, by omega, by go_num, HD, HO2, HEK.out⟩ | ((repeat apply Exists.intro); exact ⟨⟨k + 1, by omega, by go_num, HD, HO2, HEK.out⟩, rfl⟩)
                case measure => (simp [intOf] <;> omega)
          · obtain rfl : k = ps.length := by omega
            have hb := HB.out
            rw [List.take_of_length_le (Nat.le_refl _), HLI.out] at hb
            have hcv := hb.text (cap := cap)
            rw [lineB_len] at hcv
            obtain ⟨z, hz⟩ : ∃ z, mkS (lineB N os q) = z := ⟨_, rfl⟩
            rw [hz] at hcv HZS HSU
            have HR2 := Lib.hid (HR.out.ext ei)
            have HEW := Lib.hid (HER.out.trans ei)
            clear hz hb ei
            go_wp2_with (at_builtin; refine wpList_append_str (W := w1) rfl _ _ rfl _ _ z rfl rfl rfl HR2.out HEW.out HZS.out HLN.out ?_)
            intro v' w5 ho5 e5
            have HO5 : Hid (OwnStrs w5 w1.heap.size v' (linesT N M os (j + 1))) := Lib.hid (by rw [HSU.out]; exact ho5)
            clear ho5
            go_wp2
            go_roundw
            case rel => first | exact ⟨j + 1, by omega, by rw [HQM.out], HO5, e5⟩ | ((repeat apply Exists.intro); exact ⟨⟨j + 1, by omega, by rw [HQM.out], HO5, e5⟩, rfl⟩)
            case measure => (simp [intOf] <;> omega)
      · obtain rfl : j = M := by omega
        have hneg : ¬ (0 : Int) ≤ (j : Int) - 1 - j := by omega
        go_wp2
        go_ret2
        exact RetStrsC.of_own (by rw [HF.out]; exact HR.out.mono (HE.out.trans HW1.out).size) ((HE.out.trans HW1.out).trans HER.out) rfl
  | false =>
    have HF : Hid (linesF L C os = []) := Lib.hid (by unfold linesF; rw [hv]; rfl)
    rw [hv] at H1
    clear hv
    go_enter Try.func21, Try.ntmps21
    go_wp2_with (go_at_call 51; refine (H1.out _ HE.out).mono ?_; rintro e w1 ⟨rfl, e1⟩)
    go_ret2
    exact RetStrsC.of_own (by rw [HF.out]; exact OwnStrs.nilv _ _) (HE.out.trans e1) rfl
end Go.Proofs.Ytnhmcmohnpbcjaa
