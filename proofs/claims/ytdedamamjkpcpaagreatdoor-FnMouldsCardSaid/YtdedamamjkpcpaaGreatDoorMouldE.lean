/- Contracts: the text of a mould, on both sides. -/
import Derived.Test.YtdedamamjkpcpaaGreatDoorMouldT
import Derived.Test.YtdedamamjkpcpaaGreatDoorMould2
import Derived.Test.YtdedamamjkpcpaaGreatDoorMould6
import Derived.Test.YtdedamamjkpcpaaGreatDoorCls
import Derived.Test.YtdedamamjkpcpaaGreatDoorDec
import Derived.Deep.RegionHeld3
import Derived.Deep.DeepCutAuto
namespace Go.Proofs.YtdedamamjkpcpaaGreatDoor
open Go.RowKit
set_option linter.unusedSimpArgs false
set_option linter.unusedVariables false
set_option linter.unnecessarySimpa false

/-- the text of a mould; none of one that is not valid -/
def mtS (a b c d : Int) : ByteArray := if mouldB a b c d = true then mkS (mtxt a b c d) else ⟨#[]⟩
theorem txt_cat (a b c d : Int) : ((((((decS a ++ ⟨#[120]⟩) ++ decS b) ++ ⟨#[120]⟩) ++ decS c) ++ ⟨#[32, 117, 115, 101, 100, 32]⟩) ++ decS d) = mkS (mtxt a b c d) := by
  rw [mtxt_eq, sizT_eq]
  unfold decS
  rw [show (⟨#[120]⟩ : ByteArray) = mkS [120] from rfl, show (⟨#[32, 117, 115, 101, 100, 32]⟩ : ByteArray) = mkS usedS from rfl]
  simp only [mkS_app, List.append_assoc]
theorem txt_cat2 (a b c d : Int) : (mkS (sizT a b c) ++ ⟨#[32, 117, 115, 101, 100, 32]⟩) ++ decS d = mkS (mtxt a b c d) := by
  rw [mtxt_eq]
  unfold decS
  rw [show (⟨#[32, 117, 115, 101, 100, 32]⟩ : ByteArray) = mkS usedS from rfl]
  simp only [mkS_app, List.append_assoc]
theorem decS_small {n : Int} (h : 0 ≤ n) (h2 : n ≤ 100000) : (decS n).size ≤ 20 := by
  unfold decS; rw [mkS_size]; exact itoa_small_len h h2
set_option maxRecDepth 100000 in
set_option maxHeartbeats 4000000 in
theorem s_l05Text (pb : Nat) (a b c d : Int) (h : mouldB a b c d = true) (w : World) (hB : MBox w pb a b c d) : Calls Tryz.prog 54 #[.pointer (some ⟨pb, 0, none⟩)] w (RetE (.string (mkS (mtxt a b c d))) w) := by
  obtain ⟨⟨a0, a1⟩, ⟨b0, b1⟩, ⟨c0, c1⟩, ⟨d0, d1⟩⟩ := mouldB_bd h
  have hD : ∀ n : Int, 0 ≤ n → n ≤ 100000 → ∀ W, Calls Tryz.prog 71 #[.int .i64 n] W (RetE (.string (decS n)) W) := fun n h0 h1 W => s_l01Dec n (by unfold IsI64; omega) W
  have z1 := decS_small (n := a) (by omega) (by omega)
  have z2 := decS_small (n := b) (by omega) (by omega)
  have z3 := decS_small (n := c) (by omega) (by omega)
  have z4 := decS_small (n := d) (by omega) (by omega)
  have HV := Lib.hid (txt_cat a b c d)
  obtain ⟨p0, p1, p2, p3, p4⟩ := four_cells hB
  generalize decS = T at *
  generalize mkS (mtxt a b c d) = tt at *
  have HD := Lib.hid hD
  clear hD
  have k1 : ¬ (9223372036854775807 < (T a).size + 1) := by omega
  have k2 : ¬ (9223372036854775807 < (T a).size + 1 + (T b).size) := by omega
  have k3 : ¬ (9223372036854775807 < (T a).size + 1 + (T b).size + 1) := by omega
  have k4 : ¬ (9223372036854775807 < (T a).size + 1 + (T b).size + 1 + (T c).size) := by omega
  have k5 : ¬ (9223372036854775807 < (T a).size + 1 + (T b).size + 1 + (T c).size + 6) := by omega
  have k6 : ¬ (9223372036854775807 < (T a).size + 1 + (T b).size + 1 + (T c).size + 6 + (T d).size) := by omega
  obtain ⟨α, hne, F, hK⟩ := cls_of w
  have HK := Lib.hid hK
  have r0 := hK.cell p0
  have r1 := hK.cell p1
  have r2 := hK.cell p2
  have r3 := hK.cell p3
  clear hK p0 p1 p2 p3 p4 h hB
  go_enter Tryz.func54, Tryz.ntmps54
  go_wp2
  refine wp_region_cls F (by kernel_rfl) (by kernel_rfl) HK.out.drew ?_
  repeat (go_big_quiet_step ((go_at_call 71; exact HK.out.retE (HD.out _ (by omega) (by omega) _))))
  refine wpQuiet_nil ?_
  rintro _ ⟨z, rfl⟩
  go_wp2
  go_ret
  exact RetE.mk (congrArg Value.string HV.out) (HK.out.ext z)
set_option maxHeartbeats 4000000 in
theorem s_MouldText (a b c d : Int) (w : World) : Calls Tryz.prog 23 #[.agg #[.int .i64 a, .int .i64 b, .int .i64 c, .int .i64 d]] w (RetE (.string (mtS a b c d)) w) := by
  have e0 : Ext w (w.alloc (.cells #[.int .i64 a, .int .i64 b, .int .i64 c, .int .i64 d] 29)) := (Ext.refl w).alloc _
  have hb0 : MBox (w.alloc (.cells #[.int .i64 a, .int .i64 b, .int .i64 c, .int .i64 d] 29)) w.heap.size a b c d := heap_alloc_new w _
  have HV := Lib.hid (s_l05One w.heap.size a b c d _ hb0)
  have HE0 := Lib.hid e0
  cases hv : mouldB a b c d with
  | false =>
    have hx : mtS a b c d = ⟨#[]⟩ := by unfold mtS; rw [hv]; rfl
    rw [hx]
    rw [hv] at HV
    clear hv hx hb0 e0
    go_enter Tryz.func23, Tryz.ntmps23
    go_wp2_with fail
    refine HV.out.mono ?_
    rintro e w' ⟨rfl, rfl⟩
    go_wp2
    go_ret
    exact RetE.mk rfl HE0.out
  | true =>
    have hx : mtS a b c d = mkS (mtxt a b c d) := by unfold mtS; rw [if_pos hv]
    have HT := Lib.hid (s_l05Text w.heap.size a b c d hv _ hb0)
    rw [hx]
    rw [hv] at HV
    clear hv hx hb0 e0
    go_enter Tryz.func23, Tryz.ntmps23
    go_wp2_with fail
    refine HV.out.mono ?_
    rintro e w' ⟨rfl, rfl⟩
    go_wp2_with fail
    refine HT.out.mono ?_
    rintro e w2 ⟨rfl, e2⟩
    go_wp2
    go_ret
    exact RetE.mk rfl (HE0.out.trans e2)
abbrev MtSt (lb : Nat) (a b c d : Int) (w1 W : World) : Prop := (W.cell? ⟨lb, 0, none⟩ = some (.int .i64 a) ∧ W.cell? ⟨lb, 1, none⟩ = some (.int .i64 b) ∧ W.cell? ⟨lb, 2, none⟩ = some (.int .i64 c) ∧ W.cell? ⟨lb, 3, none⟩ = some (.int .i64 d)) ∧ lb < W.heap.size ∧ Ext w1 W
theorem mtSt_of {lb : Nat} {a b c d : Int} {w1 W : World} (h : MBox w1 lb a b c d) (e : Ext w1 W) : MtSt lb a b c d w1 W := by
  obtain ⟨p0, p1, p2, p3, p4⟩ := four_cells (e.block h)
  exact ⟨⟨p0, p1, p2, p3⟩, p4, e⟩
theorem sizT_small {a b c d : Int} (h : mouldB a b c d = true) : (mkS (sizT a b c)).size ≤ 100 := by
  have := mtxt_len h
  rw [mtxt_eq, List.length_append] at this
  rw [mkS_size]; omega
set_option maxRecDepth 100000 in
set_option maxHeartbeats 4000000 in
theorem i_MouldText (a b c d : Int) (w : World) (hT : TabP w) : Calls Tryz.prog 18 #[.agg #[.int .i64 a, .int .i64 b, .int .i64 c, .int .i64 d]] w (RetE (.string (mtS a b c d)) w) := by
  have e0 : Ext w (w.alloc (.cells #[.int .i64 a, .int .i64 b, .int .i64 c, .int .i64 d] 29)) := (Ext.refl w).alloc _
  have hb0 : MBox (w.alloc (.cells #[.int .i64 a, .int .i64 b, .int .i64 c, .int .i64 d] 29)) w.heap.size a b c d := heap_alloc_new w _
  have HV := Lib.hid (i_validMould a b c d (w.alloc (.cells #[.int .i64 a, .int .i64 b, .int .i64 c, .int .i64 d] 29)))
  have HE0 := Lib.hid e0
  have HB0 := Lib.hid hb0
  have HTb := Lib.hid hT
  clear e0 hb0 hT
  cases hv : mouldB a b c d with
  | false =>
    have hx : mtS a b c d = ⟨#[]⟩ := by unfold mtS; rw [hv]; rfl
    rw [hx]
    rw [hv] at HV
    clear hv hx
    go_enter Tryz.func18, Tryz.ntmps18
    go_wp2_with fail
    refine HV.out.mono ?_
    rintro e w1 ⟨rfl, e1⟩
    go_wp2
    go_ret
    exact RetE.mk rfl (HE0.out.trans e1)
  | true =>
    have hx : mtS a b c d = mkS (mtxt a b c d) := by unfold mtS; rw [if_pos hv]
    obtain ⟨⟨a0, a1⟩, ⟨b0, b1⟩, ⟨c0, c1⟩, ⟨d0, d1⟩⟩ := mouldB_bd hv
    have hN := fun W ao (h : Ints W ao 3 [a, b, c]) (hT : TabP W) => i_numbersText ao 3 3 [a, b, c] ⟨#[120]⟩ W h (by decide) (by decide) (by decide) hT
    rw [show mkS (Lib.join ([a, b, c].map Lib.itoa) (bts ⟨#[120]⟩)) = mkS (sizT a b c) from rfl] at hN
    have hD := fun W (hT : TabP W) => i_Decimal d (by unfold IsI64; omega) W hT
    have hcat := txt_cat2 a b c d
    have z1 := sizT_small hv
    have z2 := decS_small (n := d) (by omega) (by omega)
    have hI := fun (W : World) (g : Nat) (hg : W.heap[g]? = some (.cells #[.int .i64 a, .int .i64 b, .int .i64 c] 2 (0, 0))) => (own_row3 (base := 0) hg (Nat.zero_le _) (show IsI64 a by unfold IsI64; omega) (show IsI64 b by unfold IsI64; omega) (show IsI64 c by unfold IsI64; omega)).ints
    rw [hx]
    rw [hv] at HV
    generalize mkS (sizT a b c) = ts at *
    generalize decS d = td at *
    generalize mkS (mtxt a b c d) = tt at *
    have HVV := Lib.hid hcat
    have HI := Lib.hid hI
    clear hv hx hcat hI
    go_enter Tryz.func18, Tryz.ntmps18
    go_wp2_with fail
    refine HV.out.mono ?_
    rintro e w1 ⟨rfl, e1⟩
    have HE1 := Lib.hid (HE0.out.trans e1)
    have hM := e1.block HB0.out
    have HM : Hid (MBox w1 w.heap.size a b c d) := Lib.hid hM
    have HN := Lib.hid (fun W ao (e : Ext w1 W) (h : Ints W ao 3 [a, b, c]) => hN W ao h (HTb.out.ext (HE1.out.trans e)))
    have HDc := Lib.hid (fun W (e : Ext w1 W) => hD W (HTb.out.ext (HE1.out.trans e)))
    have HS := Lib.hid (fun W => i_Msizes a b c d W)
    obtain ⟨p0, p1, p2, p3, p4⟩ := four_cells hM
    have k1 : ¬ (9223372036854775807 < ts.size + 6) := by omega
    have k2 : ¬ (9223372036854775807 < ts.size + 6 + td.size) := by omega
    clear e1 hM HV HE0 HB0 hN hD
    go_wp2
    go_region_held3 (fun W => MtSt w.heap.size a b c d w1 W) (first
      | exact mtSt_of HM.out (Ext.refl _).drew
      | exact mtSt_of HM.out (by assumption)) (first
      | (go_at_call 48; first
          | (refine (HS.out wd).mono ?_; rintro e ws ⟨g, rfl, hg, _, e2⟩; have es : Ext w1 ws := ed.trans e2; have hIs := HI.out ws g hg; clear hg e2)
          | (refine (HS.out w1.drew).mono ?_; rintro e ws ⟨g, rfl, hg, _, e2⟩; have es : Ext w1 ws := (Ext.refl w1).drew.trans e2; have hIs := HI.out ws g hg; clear hg e2))
      | (go_at_call 47; first
          | (refine (HN.out wd _ ed (by first | exact hId | exact hIs)).mono ?_; rintro e wn ⟨rfl, e3⟩; have en : Ext w1 wn := ed.trans e3; clear e3)
          | (refine (HN.out ws _ es hIs).mono ?_; rintro e wn ⟨rfl, e3⟩; have en : Ext w1 wn := es.trans e3; clear e3))
      | (go_at_call 49; first
          | (refine (HDc.out wn en).mono ?_; rintro e wd ⟨rfl, e4⟩; have ed : Ext w1 wd := en.trans e4; clear e4)
          | (refine (HDc.out ws es).mono ?_; rintro e wd ⟨rfl, e4⟩; have ed : Ext w1 wd := es.trans e4; have hId := hIs.ext e4; clear e4)
          | (refine (HDc.out w1.drew (Ext.refl w1).drew).mono ?_; rintro e wd ⟨rfl, e4⟩; have ed : Ext w1 wd := (Ext.refl w1).drew.trans e4; clear e4)))
    all_goals
      go_wp2
      go_ret
      exact RetE.mk (congrArg Value.string HVV.out) (HE1.out.trans (by assumption))
end Go.Proofs.YtdedamamjkpcpaaGreatDoor
