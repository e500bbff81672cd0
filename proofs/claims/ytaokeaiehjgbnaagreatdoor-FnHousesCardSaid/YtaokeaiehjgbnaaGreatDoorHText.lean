/- Contracts of the text of a plan, on both sides. -/
import Derived.Test.YtaokeaiehjgbnaaGreatDoorGaRuns
import Derived.Test.YtaokeaiehjgbnaaGreatDoorGaSm
import Derived.Test.YtaokeaiehjgbnaaGreatDoorGaHa
import Derived.Deep.RegionHeld
namespace Go.Proofs.YtaokeaiehjgbnaaGreatDoor
open Go.RowKit
set_option linter.unusedSimpArgs false
set_option linter.unusedVariables false
set_option linter.unnecessarySimpa false

/-- the words of a plan's text -/
def runW (xs : List Int) (ts : List UInt8) : List (List UInt8) := List.zipWith (fun x t => Lib.itoa x ++ [t]) xs ts
theorem runT_eq (xs : List Int) (ts : List UInt8) : runT xs ts = Lib.join (runW xs ts) [32] := rfl
/-- the text of a plan -/
def hTxt (xs : List Int) (ts : List UInt8) : List UInt8 := if validH xs ts then runT xs ts else []
theorem hTxt_t {xs : List Int} {ts : List UInt8} (h : validH xs ts = true) : hTxt xs ts = runT xs ts := if_pos h
theorem hTxt_f {xs : List Int} {ts : List UInt8} (h : ¬ validH xs ts = true) : hTxt xs ts = [] := if_neg h
theorem runW_len {xs : List Int} {ts : List UInt8} (h : ts.length = xs.length) : (runW xs ts).length = xs.length := by unfold runW; rw [List.length_zipWith]; omega
theorem runW_snoc {xs : List Int} {ts : List UInt8} (h : ts.length = xs.length) {k : Nat} (hk : k < xs.length) : (runW xs ts).take (k + 1) = (runW xs ts).take k ++ [Lib.itoa (xs.getD k 0) ++ [ts.getD k 0]] := by
  have hl : k < (runW xs ts).length := by rw [runW_len h]; exact hk
  rw [List.take_succ_eq_append_getElem hl]
  congr 2
  simp only [runW, List.getElem_zipWith]
  rw [List.getD_eq_getElem?_getD, List.getElem?_eq_getElem hk, List.getD_eq_getElem?_getD, List.getElem?_eq_getElem (by omega)]
  rfl
theorem decS_lenI {x : Int} (h1 : 0 ≤ x) (h2 : x ≤ 200) : 0 < (Lib.itoa x).length ∧ (Lib.itoa x).length ≤ 20 := by
  obtain ⟨u, rfl⟩ := Int.eq_ofNat_of_zero_le h1
  exact ⟨itoa_pos u, decS_len (by omega)⟩
theorem runW_bd {xs : List Int} {ts : List UInt8} (h : ∀ x ∈ xs, 0 ≤ x ∧ x ≤ 200) : ∀ z ∈ runW xs ts, 1 ≤ z.length ∧ z.length ≤ 21 := by
  unfold runW
  induction xs generalizing ts with
  | nil => simp
  | cons x xs ih =>
    cases ts with
    | nil => simp
    | cons t ts =>
      intro z hz
      rw [List.zipWith_cons_cons] at hz
      rcases List.mem_cons.1 hz with rfl | hz
      · have := decS_lenI (h x (by simp)).1 (h x (by simp)).2
        simp; omega
      · exact ih (fun y hy => h y (List.mem_cons_of_mem _ hy)) z hz
theorem keepTX {wr W W' : World} {b : Nat} {x y v : Value} {p : Addr} (h : Two W b x y ∧ W.cell? p = some v ∧ EW wr W) (e : Ext W W') : Two W' b x y ∧ W'.cell? p = some v ∧ EW wr W' := ⟨h.1.ext e, e.cell h.2.1, keepEW h.2.2 e⟩
theorem conv_one (W : World) (g : Nat) (t : UInt8) (h : W.cell? ⟨g, 0, none⟩ = some (.int .u8 (t.toNat : Int))) : (convert 22 9 (.slice (some ⟨g, 0, none⟩) 1 1)).run Tryz.prog W = .ok (.string (mkS [t])) W :=
  run_convert_bytes_back (P := Tryz.prog) W 22 9 5 ⟨g, 0, none⟩ 1 [t] Tryz.underlying22 Tryz.underlying5 Tryz.underlying9 (fun j hj => by
    obtain rfl : j = 0 := by simp at hj; exact hj
    rw [Addr.add_lit]; exact h)
theorem cell_new1 (W : World) (v : Value) (E : TypeId) : (W.alloc (.cells #[v] E)).cell? ⟨W.heap.size, 0, none⟩ = some v := by
  have := cells_new W [v] E 0 v rfl
  rwa [Addr.add_lit] at this
theorem conv_new (W : World) (g : Nat) (t : UInt8) (h : W.heap.size = g) : (convert 22 9 (.slice (some ⟨g, 0, none⟩) 1 1)).run Tryz.prog (W.alloc (.cells #[.int .u8 (t.toNat : Int)] 5)) = .ok (.string (mkS [t])) (W.alloc (.cells #[.int .u8 (t.toNat : Int)] 5)) := by
  subst h
  exact conv_one _ _ t (cell_new1 W _ _)
set_option maxRecDepth 20000 in
set_option maxHeartbeats 2000000 in
theorem s_l07Text (pb : Nat) (ao : Option Addr) (n c : Nat) (xs : List Int) (s : ByteArray) (w : World) (hB : Two w pb (.slice ao n c) (.string s)) (hx : Ints w ao n xs) (hs : s.size = n) (hn : n ≤ 12) (hbx : ∀ x ∈ xs, 0 ≤ x ∧ x ≤ 200) :
    Calls Tryz.prog 45 #[.pointer (some ⟨pb, 0, none⟩)] w (RetE (.string (mkS (runT xs (bts s)))) w) := by
  have hxl := hx.1
  have HX := Lib.hid hx
  have HB := Lib.hid hB
  have HWB := Lib.hid (runW_bd (ts := bts s) hbx)
  have hll : (bts s).length = xs.length := by rw [bts_length, hxl, hs]
  have HWL := Lib.hid (runW_len hll)
  have HBX := Lib.hid hbx
  have HSN : Hid (∀ k, k < n → (runW xs (bts s)).take (k + 1) = (runW xs (bts s)).take k ++ [Lib.itoa (xs.getD k 0) ++ [(bts s).getD k 0]]) := Lib.hid (fun k hk => runW_snoc hll (by omega))
  obtain ⟨A1, A2, A3⟩ := hB
  clear hx hll hbx
  go_enter Tryz.func45, Tryz.ntmps45
  go_wp2
  go_loopw [3, 4] (fun v i wr => ∃ k : Nat, k ≤ n ∧ i = .int .i64 k ∧ v = .string (mkS (Lib.join ((runW xs (bts s)).take k) [32])) ∧ Hid (Ext w wr)) (fun _ i _ => n - (intOf i).toNat)
  case atStart => exact ⟨0, Nat.zero_le _, rfl, rfl, Lib.hid (Ext.refl w)⟩
  case round =>
    obtain ⟨k, hk, rfl, rfl, HE⟩ := hrel
    obtain ⟨B1, B2, B3⟩ := HB.out.ext HE.out
    clear A1 A2 A3
    by_cases hlt : k < n
    · have hki : (k : Int) < (n : Int) := by omega
      have hk0 : (0 : Int) ≤ (k : Int) := by omega
      have hks : k < s.size := by omega
      have hksi : (k : Int) < (s.size : Int) := by omega
      obtain ⟨b, off, rfl, hc⟩ := HX.out.2.2.1 k hlt
      have hc := HE.out.cell hc
      obtain ⟨x, hxe⟩ : ∃ x, xs.getD k 0 = x := ⟨_, rfl⟩
      have hxb : 0 ≤ x ∧ x ≤ 200 := by
        rw [← hxe, List.getD_eq_getElem?_getD, List.getElem?_eq_getElem (by omega)]
        exact HBX.out _ (List.getElem_mem _)
      have hte : (bts s).getD k 0 = s[k] := by
        obtain ⟨h1, h2⟩ := byte_at s k hks
        rw [List.getD_eq_getElem?_getD, List.getElem?_eq_getElem h1]; exact h2
      have hsn := HSN.out k hlt
      rw [hxe, hte] at hsn
      rw [hxe] at hc
      have hzl : (mkS (Lib.join ((runW xs (bts s)).take k) [32])).size ≤ 12 * 22 := by
        rw [mkS_size]
        refine Nat.le_trans (join_len [32] 21 _ (fun z hz => (HWB.out z (List.mem_of_mem_take hz)).2)) ?_
        exact Nat.mul_le_mul (by rw [List.length_take]; omega) (Nat.le_refl _)
      have hdl := decS_lenI hxb.1 hxb.2
      have HDec := Lib.hid (fun W => s_l01Dec x (by unfold IsI64; omega) W)
      have hzd : (decS x).size ≤ 20 := by unfold decS; rw [mkS_size]; exact hdl.2
      have hcv := fun W g => conv_one W g s[k]
      have hs1 : ¬ (9223372036854775807 < (decS x).size + 1) := by omega
      have T : Two wr pb (.slice (some ⟨b, off, none⟩) n c) (.string s) := ⟨B1, B2, B3⟩
      by_cases hk1 : k = 0
      · have hkz : ¬ (0 : Int) < (k : Int) := by omega
        have h0 : mkS (Lib.join ((runW xs (bts s)).take k) [32]) = ⟨#[]⟩ := by subst hk1; rfl
        have HV : Hid (decS x ++ mkS [s[k]] = mkS (Lib.join ((runW xs (bts s)).take (k + 1)) [32])) := Lib.hid (by rw [hsn]; subst hk1; rw [List.take_zero, List.nil_append, join_one]; unfold decS; rw [mkS_app])
        rw [h0]
        clear hsn hzl h0 hk1
        generalize decS x = zd at *
        go_wp2
        go_region_held (fun W => Two W pb (.slice (some ⟨b, off, none⟩) n c) (.string s) ∧ W.cell? ⟨b, off + k, none⟩ = some (.int .i64 x) ∧ EW wr W) (first | exact ⟨T.ext (Ext.refl _).drew, (Ext.refl _).drew.cell hc, (Ext.refl _).drew⟩ | assumption | exact keepTX (by assumption) (by assumption) | exact keepTX (by assumption) (Ext.refl _).drew | exact keepTX (by assumption) ((Ext.refl _).alloc _)) (first
          | (go_at_call 70; refine (HDec.out _).mono ?_; rintro e w2 ⟨rfl, e2⟩; (try (have hg := e2.cell (cell_new1 _ _ _)))))
        all_goals
          have hS := (by assumption : Two _ pb (.slice (some ⟨b, off, none⟩) n c) (.string s) ∧ _ ∧ EW wr _)
          have HEN := Lib.hid (HE.out.trans hS.2.2)
          clear hS
          go_wp2
          go_roundw
          case rel => exact ⟨k + 1, by omega, by go_num, by first | (rw [← HV.out]; done) | (rw [← HV.out]; rfl), HEN⟩
          case measure => simp [intOf]; omega
      · have hkz : (0 : Int) < (k : Int) := by omega
        have hne : (runW xs (bts s)).take k ≠ [] := by
          intro e
          have := congrArg List.length e
          rw [List.length_take, HWL.out, List.length_nil] at this
          omega
        have HV : Hid ((mkS (Lib.join ((runW xs (bts s)).take k) [32]) ++ ⟨#[32]⟩) ++ (decS x ++ mkS [s[k]]) = mkS (Lib.join ((runW xs (bts s)).take (k + 1)) [32])) := Lib.hid (by rw [hsn, join_snoc _ _ _ hne]; unfold decS; rw [show (⟨#[32]⟩ : ByteArray) = mkS [32] from rfl, mkS_app, mkS_app, mkS_app, List.append_assoc])
        clear hsn hk1 hne
        generalize decS x = zd at *
        generalize mkS (Lib.join ((runW xs (bts s)).take k) [32]) = zz at *
        have hs0 : ¬ (9223372036854775807 < zz.size + 1) := by omega
        have hs2 : ¬ (9223372036854775807 < zz.size + 1 + (zd.size + 1)) := by omega
        clear hzl hzd
        go_wp2
        go_region_held (fun W => Two W pb (.slice (some ⟨b, off, none⟩) n c) (.string s) ∧ W.cell? ⟨b, off + k, none⟩ = some (.int .i64 x) ∧ EW wr W) (first | exact ⟨T.ext (Ext.refl _).drew, (Ext.refl _).drew.cell hc, (Ext.refl _).drew⟩ | assumption | exact keepTX (by assumption) (by assumption) | exact keepTX (by assumption) (Ext.refl _).drew | exact keepTX (by assumption) ((Ext.refl _).alloc _)) (first
          | (go_at_call 70; refine (HDec.out _).mono ?_; rintro e w2 ⟨rfl, e2⟩; (try (have hg := e2.cell (cell_new1 _ _ _)))))
        all_goals
          have hS := (by assumption : Two _ pb (.slice (some ⟨b, off, none⟩) n c) (.string s) ∧ _ ∧ EW wr _)
          have HEN := Lib.hid (HE.out.trans hS.2.2)
          clear hS
          go_wp2
          go_roundw
          case rel => exact ⟨k + 1, by omega, by go_num, by first | (rw [← HV.out]; done) | (rw [← HV.out]; rfl), HEN⟩
          case measure => simp [intOf]; omega
    · have HFin : Hid ((runW xs (bts s)).take k = runW xs (bts s)) := Lib.hid (List.take_of_length_le (by rw [HWL.out]; omega))
      go_wp2
      go_ret
      exact RetE.mk (by rw [runT_eq, HFin.out]; rfl) HE.out
theorem s_HouseText (ao : Option Addr) (n c : Nat) (xs : List Int) (s : ByteArray) (w : World) (hx : Ints w ao n xs) (hs : s.size ≤ 9223372036854775807) :
    Calls Tryz.prog 23 #[.agg #[.slice ao n c, .string s]] w (RetE (.string (mkS (hTxt xs (bts s)))) w) := by
  have e0 : Ext w (w.alloc (.cells #[.slice ao n c, .string s] 26)) := (Ext.refl w).alloc _
  have T := Two.new w (.slice ao n c) (.string s) 26
  have HV := Lib.hid (s_l07Ok w.heap.size ao n c xs s _ T (hx.ext e0) hs)
  have hxl := hx.1
  by_cases g : validH xs (bts s) = true
  · obtain ⟨g1, g2, g3, g4, _⟩ := validH_bd g
    rw [bts_length] at g4
    have HC := Lib.hid (fun W (e : Ext (w.alloc (.cells #[.slice ao n c, .string s] 26)) W) => s_l07Text w.heap.size ao n c xs s W (T.ext e) ((hx.ext e0).ext e) (by omega) (by omega) (fun x h => ⟨by have := (g3 x h).1; omega, (g3 x h).2⟩))
    have HR : Hid (mkS (hTxt xs (bts s)) = mkS (runT xs (bts s))) := Lib.hid (by rw [hTxt_t g])
    rw [g] at HV
    clear g g3 T
    go_enter Tryz.func23, Tryz.ntmps23
    go_wp2_with (first | (go_at_call 30; refine HV.out.mono ?_; rintro e w1 ⟨rfl, e1⟩; have HE1 := Lib.hid e1; clear e1) | (go_at_call 45; refine (HC.out _ HE1.out).mono ?_; rintro e w2 ⟨rfl, e2⟩))
    go_ret
    exact RetE.mk (by rw [HR.out]; rfl) ((e0.trans HE1.out).trans e2)
  · have HR : Hid (mkS (hTxt xs (bts s)) = ⟨#[]⟩) := Lib.hid (by rw [hTxt_f g]; rfl)
    rw [Bool.not_eq_true] at g
    rw [g] at HV
    clear g T
    go_enter Tryz.func23, Tryz.ntmps23
    go_wp2_with (go_at_call 30; refine HV.out.mono ?_; rintro e w1 ⟨rfl, e1⟩)
    go_ret
    exact RetE.mk (by rw [HR.out]; rfl) (e0.trans e1)
theorem heldT2 {w W : World} {b : Nat} {x y : Value} (h : Two W b x y ∧ EW w W) : Ext w W := h.2
theorem keepT2 {w W W' : World} {b : Nat} {x y : Value} (h : Two W b x y ∧ EW w W) (e : Ext W W') : Two W' b x y ∧ EW w W' := ⟨h.1.ext e, keepEW h.2 e⟩
theorem mk_bts (ws : List (List UInt8)) : (ws.map mkS).map bts = ws := by
  rw [List.map_map]
  conv => rhs; rw [← List.map_id ws]
  exact List.map_congr_left (fun x _ => bts_mkS x)
set_option maxRecDepth 20000 in
set_option maxHeartbeats 2000000 in
theorem i_HouseText (ao : Option Addr) (n c : Nat) (xs : List Int) (s : ByteArray) (w : World) (hx : Ints w ao n xs) (hs : s.size ≤ 9223372036854775807) (hT : TabP w) :
    Calls Tryz.prog 16 #[.agg #[.slice ao n c, .string s]] w (RetE (.string (mkS (hTxt xs (bts s)))) w) := by
  have e0 : Ext w (w.alloc (.cells #[.slice ao n c, .string s] 26)) := (Ext.refl w).alloc _
  have T := Two.new w (.slice ao n c) (.string s) 26
  obtain ⟨wb, hwb⟩ : ∃ x, w.alloc (.cells #[.slice ao n c, .string s] 26) = x := ⟨_, rfl⟩
  have HV := Lib.hid (fun W (e : Ext w W) => i_ValidHouse ao n c xs s W (hx.ext e) hs)
  have hxl := hx.1
  by_cases g : validH xs (bts s) = true
  · obtain ⟨g1, g2, g3, g4, _⟩ := validH_bd g
    have hll := g4
    rw [bts_length] at g4
    have HWB := Lib.hid (runW_bd (ts := bts s) (fun x h => ⟨by have := (g3 x h).1; omega, (g3 x h).2⟩))
    have HWL := Lib.hid (runW_len hll)
    have HBX := Lib.hid g3
    have HX := Lib.hid (hx.ext e0)
    have HTb := Lib.hid (hT.ext e0)
    have HSN : Hid (∀ k, k < n → (runW xs (bts s)).take (k + 1) = (runW xs (bts s)).take k ++ [Lib.itoa (xs.getD k 0) ++ [(bts s).getD k 0]]) := Lib.hid (fun k hk => runW_snoc hll (by omega))
    have HRes : Hid (mkS (hTxt xs (bts s)) = mkS (Lib.join (runW xs (bts s)) [32])) := Lib.hid (by rw [hTxt_t g]; rfl)
    rw [g] at HV
    rw [hwb] at T HX HTb
    have HE0 := Lib.hid e0
    have HWE := Lib.hid hwb
    have n12 : n ≤ 12 := by omega
    have HN4 := Lib.hid g1
    have HSn : Hid (s.size = n) := Lib.hid (by omega)
    clear g g1 g2 g3 g4 hx hT hll hwb e0
    go_enter Tryz.func16, Tryz.ntmps16
    go_wp2_with (go_at_call 25; refine (HV.out _ HE0.out).mono ?_; rintro e w1 ⟨rfl, e1⟩; rw [HWE.out] at e1; have HE1 := Lib.hid e1; have T1 := T.ext e1; obtain ⟨A1, A2, A3⟩ := T1; clear e1)
    go_loopw [3, 13] (fun v i wr => ∃ k : Nat, k ≤ n ∧ i = .int .i64 k ∧ Hid (OwnStrs wr wb.heap.size v (((runW xs (bts s)).take k).map mkS)) ∧ Hid (Ext wb wr)) (fun _ i _ => n - (intOf i).toNat)
    case atStart => exact ⟨0, Nat.zero_le _, rfl, Lib.hid (OwnStrs.mono (OwnStrs.empty (Ext.refl w1)) HE1.out.size), Lib.hid (HE1.out.alloc _)⟩
    case round =>
      obtain ⟨k, hk, rfl, HO, HE⟩ := hrel
      clear A1 A2 A3
      have T2 := T.ext HE.out
      obtain ⟨B1, B2, B3⟩ := T2
      by_cases hlt : k < n
      · have hki : (k : Int) < (n : Int) := by omega
        have hk0 : (0 : Int) ≤ (k : Int) := by omega
        have hks : k < s.size := by have := HSn.out; omega
        have hkei : (k : Int) + 1 ≤ (s.size : Int) := by omega
        obtain ⟨b, off, rfl, hc⟩ := HX.out.2.2.1 k hlt
        have hc := HE.out.cell hc
        obtain ⟨x, hxe⟩ : ∃ x, xs.getD k 0 = x := ⟨_, rfl⟩
        have hxb : 8 ≤ x ∧ x ≤ 200 := by
          rw [← hxe, List.getD_eq_getElem?_getD, List.getElem?_eq_getElem (by omega)]
          exact HBX.out _ (List.getElem_mem _)
        have hte : (bts s).getD k 0 = s[k] := by
          obtain ⟨h1, h2⟩ := byte_at s k hks
          rw [List.getD_eq_getElem?_getD, List.getElem?_eq_getElem h1]; exact h2
        have hsn := HSN.out k hlt
        rw [hxe, hte] at hsn
        rw [hxe] at hc
        have hdl := decS_lenI (x := x) (by omega) hxb.2
        have HDec := Lib.hid (fun W (e : Ext wb W) => i_Decimal x (by unfold IsI64; omega) W (HTb.out.ext e))
        have hzd : (decS x).size ≤ 20 := by unfold decS; rw [mkS_size]; exact hdl.2
        have hs1 : ¬ (9223372036854775807 < (decS x).size + 1) := by omega
        have hmin : min (k + 1) s.size - k = 1 := by omega
        have hkk1 : (k : Int) ≤ (k : Int) + 1 := by omega
        have hwk : IntKind.i64.wrap ((k : Int) + 1) = (k : Int) + 1 := wrap_in _ (by omega) (by omega)
        have T3 : Two wr w.heap.size (.slice (some ⟨b, off, none⟩) n c) (.string s) := ⟨B1, B2, B3⟩
        have HLN : Hid ((((runW xs (bts s)).take k).map mkS).length ≤ 10000000) := Lib.hid (by rw [List.length_map, List.length_take]; omega)
        have HSZ : Hid ((decS x ++ s.extract k (k + 1)).size ≤ 9223372036854775807) := Lib.hid (by rw [ByteArray.size_append, ByteArray.size_extract]; omega)
        have HV2 : Hid (((runW xs (bts s)).take k).map mkS ++ [decS x ++ s.extract k (k + 1)] = ((runW xs (bts s)).take (k + 1)).map mkS) := Lib.hid (by rw [hsn, List.map_append, ext_one s k hks]; unfold decS; rw [mkS_app]; rfl)
        clear hsn hzd
        generalize decS x = zd at *
        go_wp2
        go_region_held3 (fun W => Two W w.heap.size (.slice (some ⟨b, off, none⟩) n c) (.string s) ∧ EW wb W) (first | exact ⟨T3.ext (Ext.refl _).drew, HE.out.drew⟩ | assumption | exact ⟨T.ext HE4.out, HE4.out⟩ | exact keepT2 (by assumption) (by assumption) | exact keepT2 (by assumption) (Ext.refl _).drew | exact keepT2 (by assumption) ((Ext.refl _).alloc _)) (first
          | (go_at_call 39; refine (HDec.out _ (heldT2 (by assumption))).mono ?_; rintro e w2 ⟨rfl, e2⟩; have HO2 := Lib.hid (HO.out.ext ((Ext.refl wr).drew.trans e2)); have HX2 := Lib.hid (HE.out.drew.trans e2))
          | (refine step_append_str (W := wb) rfl _ _ rfl _ (((runW xs (bts s)).take k).map mkS) (zd ++ s.extract k (k + 1)) rfl rfl rfl HO2.out HX2.out HSZ.out HLN.out ?_; intro v' w4 ho4 e4 b4; have HO4 := Lib.hid ho4; have HE4 := Lib.hid e4; clear ho4 e4 b4))
        all_goals
          go_wp2
          go_roundw
          case rel => exact ⟨k + 1, by omega, by go_num, Lib.hid (by rw [← HV2.out]; exact HO4.out), HE4⟩
          case measure => simp [intOf]; omega
      · have HFin : Hid ((runW xs (bts s)).take k = runW xs (bts s)) := Lib.hid (List.take_of_length_le (by rw [HWL.out]; omega))
        have hO := HO.out
        rw [HFin.out] at hO
        have hwne : (runW xs (bts s)).map mkS ≠ [] := by
          intro e
          have := congrArg List.length e
          rw [List.length_map, HWL.out, List.length_nil] at this
          have := HN4.out
          omega
        have hjl : (Lib.join (runW xs (bts s)) [32]).length ≤ 12 * 22 := by
          refine Nat.le_trans (join_len [32] 21 _ (fun z hz => (HWB.out z hz).2)) ?_
          exact Nat.mul_le_mul (by rw [HWL.out]; omega) (Nat.le_refl _)
        obtain ⟨ao', cap, rfl, _, _⟩ := hO.shape
        have hJ := hO.join hwne ⟨#[32]⟩ (by rw [mk_bts]; show (Lib.join _ [32]).length ≤ _; omega) (by rw [List.length_map, HWL.out]; omega)
        rw [mk_bts] at hJ
        have HJ : Hid (Calls Tryz.prog 40 #[.slice ao' ((runW xs (bts s)).map mkS).length cap, .string ⟨#[32]⟩] wr (RetE (.string (mkS (Lib.join (runW xs (bts s)) [32]))) wr)) := Lib.hid hJ
        obtain ⟨nn, hnn⟩ : ∃ nn, ((runW xs (bts s)).map mkS).length = nn := ⟨_, rfl⟩
        rw [hnn] at HJ
        rw [hnn]
        clear hJ hnn hwne hjl hO
        go_wp2_with (go_at_call 40; refine HJ.out.mono ?_; rintro e w3 ⟨rfl, e3⟩)
        go_ret
        exact RetE.mk (by rw [HRes.out]; rfl) ((HE0.out.trans (by rw [HWE.out]; exact HE.out)).trans e3)
  · have HR : Hid (mkS (hTxt xs (bts s)) = ⟨#[]⟩) := Lib.hid (by rw [hTxt_f g]; rfl)
    rw [Bool.not_eq_true] at g
    rw [g] at HV
    have HE0 := Lib.hid e0
    clear g T hwb
    go_enter Tryz.func16, Tryz.ntmps16
    go_wp2_with (go_at_call 25; refine (HV.out _ HE0.out).mono ?_; rintro e w1 ⟨rfl, e1⟩)
    go_ret
    exact RetE.mk (by rw [HR.out]; rfl) (HE0.out.trans e1)
end Go.Proofs.YtaokeaiehjgbnaaGreatDoor
