/- The places of the corners, and the sides of a course: both sides. -/
import Derived.Test.YtlgdaddplibglaaHouse11
import Derived.Test.YtlgdaddplibglaaPtsL
namespace Go.Proofs.Ytlgdaddplibglaa
open Go.RowKit
set_option linter.unusedSimpArgs false
set_option linter.unusedVariables false
set_option linter.unnecessarySimpa false

theorem ptsH_take (xs : List Int) (t : List UInt8) (n : Nat) : (ptsH xs t n).take n = (List.range n).map (ptH xs t) := by
  unfold ptsH
  rw [← List.map_take, List.take_range, Nat.min_eq_left (Nat.le_succ n)]
/-- the places of the corners of a plan -/
def cornL (xs : List Int) (t : List UInt8) : List (Int × Int) := if validH xs t = true then (List.range xs.length).map (ptH xs t) else []
theorem cornL_wide (xs : List Int) (t : List UInt8) : Wide (cornL xs t) := by
  unfold cornL
  split
  · rename_i h
    have hb := validH_bd h
    intro p hp
    obtain ⟨i, hi, rfl⟩ := List.mem_map.1 hp
    have := ptH_bd t hb.2.2.1 hb.2.1 i (Nat.le_of_lt (List.mem_range.1 hi))
    unfold IsI64
    omega
  · intro p hp; simp at hp
theorem cornL_len (xs : List Int) (t : List UInt8) : (cornL xs t).length ≤ 12 := by
  unfold cornL
  split
  · rename_i h
    have hb := validH_bd h
    simp; omega
  · simp
/-- places and a code are handed back -/
def RetPtsC (ps : List (Int × Int)) (c : Int) (w : World) (e : Ending) (w' : World) : Prop := ∃ ao cap, e = .returned (.tuple #[.slice ao ps.length cap, .int .i64 c]) ∧ OwnPts w' w.heap.size (.slice ao ps.length cap) ps ∧ Ext w w'
theorem RetPtsC.bad {w w' : World} {ps : List (Int × Int)} {c : Int} (h : ps = []) (e : Ext w w') : RetPtsC ps c w (.returned (.tuple #[.slice none 0 0, .int .i64 c])) w' := by
  subst h
  exact ⟨none, 0, rfl, OwnPts.nilv _ _, e⟩
theorem RetPtsC.good {w w' : World} {ps : List (Int × Int)} {c : Int} {ao : Option Addr} {n cap : Nat} (h : OwnPts w' w.heap.size (.slice ao n cap) ps) (e : Ext w w') : RetPtsC ps c w (.returned (.tuple #[.slice ao n cap, .int .i64 c])) w' := by
  obtain rfl := h.len
  exact ⟨ao, cap, rfl, h, e⟩
theorem OwnPts.mono {w : World} {base base' : Nat} {v : Value} {ps : List (Int × Int)} (h : OwnPts w base v ps) (hb : base' ≤ base) : OwnPts w base' v ps := by
  obtain ⟨gs, h1, ⟨h2, h5⟩, h3, h4⟩ := h
  refine ⟨gs, h1, ⟨h2, ?_⟩, fun i hi => ⟨Nat.le_trans hb (h3 i hi).1, (h3 i hi).2⟩, h4⟩
  rcases h5 with h5 | ⟨g, cap, cur, hv, hg, r⟩
  · exact .inl h5
  · exact .inr ⟨g, cap, cur, hv, by omega, r⟩
/-- the lengths of all sides in a course -/
def arH (xs : List Int) (t : List UInt8) (r : Int) : List Int := if codeH xs t 0 r = 0 then (List.range xs.length).map (fun (k : Nat) => sideI xs k r) else []
theorem sideI_i64 {xs : List Int} {k n : Nat} {r : Int} (hn : xs.length = n) (hb : ∀ x ∈ xs, 8 ≤ x ∧ x ≤ 200) (hk : k < n) : 4 ≤ sideI xs k r ∧ sideI xs k r ≤ 200 := by
  have := sides_at hb k (by omega)
  rw [sideI_at xs n k r hn]
  split <;> split <;> omega
theorem arH_snoc (xs : List Int) (k : Nat) (r : Int) : (List.range (k + 1)).map (fun (k : Nat) => sideI xs k r) = (List.range k).map (fun (k : Nat) => sideI xs k r) ++ [sideI xs k r] := by
  rw [List.range_succ, List.map_append]; rfl
theorem arH_len (xs : List Int) (t : List UInt8) (r : Int) : (arH xs t r).length ≤ 12 := by
  unfold arH
  split
  · rename_i h
    have hb := validH_bd (code_0 h).1
    simp; omega
  · simp
set_option maxHeartbeats 2000000 in
theorem i_CourseAround (ao : Option Addr) (n c : Nat) (xs : List Int) (s : ByteArray) (r : Int) (w : World) (hx : Ints w ao n xs) (hs : s.size ≤ 9223372036854775807) :
    Calls Try.prog 14 #[.agg #[.slice ao n c, .string s], .int .i64 r] w (RetIntsC (arH xs (bts s) r) (codeH xs (bts s) 0 r) w) := by
  have e0 : Ext w (w.alloc (.cells #[.slice ao n c, .string s] 26)) := (Ext.refl w).alloc _
  have HX := Lib.hid hx
  have HL := Lib.hid hx.1
  clear hx
  obtain ⟨cd, hc⟩ : ∃ cd, codeH xs (bts s) 0 r = cd := ⟨_, rfl⟩
  have HV : Hid (arH xs (bts s) r = if cd = 0 then (List.range n).map (fun (k : Nat) => sideI xs k r) else []) := Lib.hid (by unfold arH; rw [hc, HL.out])
  obtain ⟨zs, hzs⟩ : ∃ zs, arH xs (bts s) r = zs := ⟨_, rfl⟩
  rw [hzs] at HV ⊢
  have HBX : Hid (cd = 0 → n ≤ 12 ∧ 0 ≤ r ∧ r ≤ 1000) := Lib.hid (fun h => by have h1 := code_0 (hc.trans h); have := HL.out; have := validH_bd h1.1; omega)
  have HSB : Hid (cd = 0 → ∀ x ∈ xs, 8 ≤ x ∧ x ≤ 200) := Lib.hid (fun h => (validH_bd (code_0 (hc.trans h)).1).2.2.1)
  rw [hc]
  clear hzs
  by_cases h0 : cd = 0
  · obtain ⟨n1, n2, n3⟩ := HBX.out h0
    have HB8 := Lib.hid (HSB.out h0)
    have HSnoc := Lib.hid (fun k => arH_snoc xs k r)
    have HSI : Hid (∀ k, k < n → 4 ≤ sideI xs k r ∧ sideI xs k r ≤ 200) := Lib.hid (fun k hk => sideI_i64 HL.out HB8.out hk)
    go_enter Try.func14, Try.ntmps14
    go_wp2_with (go_at_call 32; refine (i_houseCode _ _ _ _ _ _ _ _ (HX.out.ext e0) hs).mono ?_; rw [hc]; rintro e w1 ⟨rfl, e1⟩; obtain ⟨p0, p1, p2, p3, p4⟩ := two_cells (e1.block (heap_alloc_new w _)); have E1 := Lib.hid (e0.trans e1); have HT1 := Lib.hid ((Two.new w (.slice ao n c) (.string s) 26).ext e1))
    clear p0 p1 p2 p3 p4
    go_loopw [7, 19] (fun v i wr => ∃ k : Nat, k ≤ n ∧ i = .int .i64 k ∧ Hid (OwnInts 2 wr w1.heap.size v ((List.range k).map (fun (k : Nat) => sideI xs k r))) ∧ Hid (Ext w1 wr)) (fun _ i _ => n - (intOf i).toNat)
    case atStart => exact ⟨0, Nat.zero_le _, rfl, Lib.hid (OwnInts.empty (Ext.refl w1)), Lib.hid ((Ext.refl w1).alloc _)⟩
    case round =>
      obtain ⟨k, hk, rfl, HO, HE⟩ := hrel
      obtain ⟨A1, A2, A3⟩ := HT1.out.ext HE.out
      by_cases hlt : k < n
      · have hsi := HSI.out k hlt
        have HC := Lib.hid (fun W (e : Ext wr W) => i_sideInCourse ao n c xs s k r W (HX.out.ext (E1.out.trans (HE.out.trans e))) HB8.out hlt n1 n2 n3)
        have hsn := HSnoc.out k
        have HLen : Hid (((List.range k).map (fun (k : Nat) => sideI xs k r)).length ≤ 1000000000) := Lib.hid (by simp; omega)
        obtain ⟨y, hy⟩ : ∃ y, sideI xs k r = y := ⟨_, rfl⟩
        rw [hy] at hsi HC hsn
        have HSN := Lib.hid hsn
        clear hsn hy
        go_wp2_with (first
          | (go_at_call 38; refine (HC.out _ (Ext.refl _)).mono ?_; rintro e w2 ⟨rfl, e2⟩; have E2 := Lib.hid e2; clear e2)
          | (at_builtin; refine wpList_append_int (W := w1) rfl _ _ rfl _ _ _ rfl rfl rfl (HO.out.ext E2.out) (HE.out.trans E2.out) (by unfold IsI64; omega) HLen.out ?_; intro v' w3 ho3 e3; have HO3 := Lib.hid ho3; have HE3 := Lib.hid e3; clear ho3 e3))
        go_roundw
        case rel => exact ⟨k + 1, by omega, by go_num, Lib.hid (by rw [HSN.out]; exact HO3.out), HE3⟩
        case measure => (simp [intOf] <;> omega)
      · obtain rfl : k = n := by omega
        go_wp2
        go_ret2
        exact RetIntsC.of_own (by rw [HV.out, if_pos h0]; exact HO.out.mono E1.out.size) (E1.out.trans HE.out) h0.symm
  · go_enter Try.func14, Try.ntmps14
    go_wp2_with (go_at_call 32; refine (i_houseCode _ _ _ _ _ _ _ _ (HX.out.ext e0) hs).mono ?_; rw [hc]; rintro e w1 ⟨rfl, e1⟩; obtain ⟨p0, p1, p2, p3, p4⟩ := two_cells (e1.block (heap_alloc_new w _)); have E1 := Lib.hid (e0.trans e1))
    go_ret2
    exact RetIntsC.of_own (by rw [HV.out, if_neg h0]; exact OwnInts.nilv _ _ _) E1.out rfl
set_option maxHeartbeats 2000000 in
theorem s_CourseAround (ao : Option Addr) (n c : Nat) (xs : List Int) (s : ByteArray) (r : Int) (w : World) (hx : Ints w ao n xs) (hs : s.size ≤ 9223372036854775807) :
    Calls Try.prog 15 #[.agg #[.slice ao n c, .string s], .int .i64 r] w (RetIntsC (arH xs (bts s) r) (codeH xs (bts s) 0 r) w) := by
  have e0 : Ext w (w.alloc (.cells #[.slice ao n c, .string s] 26)) := (Ext.refl w).alloc _
  have HX := Lib.hid hx
  have HL := Lib.hid hx.1
  clear hx
  obtain ⟨cd, hc⟩ : ∃ cd, codeH xs (bts s) 0 r = cd := ⟨_, rfl⟩
  have HV : Hid (arH xs (bts s) r = if cd = 0 then (List.range n).map (fun (k : Nat) => sideI xs k r) else []) := Lib.hid (by unfold arH; rw [hc, HL.out])
  obtain ⟨zs, hzs⟩ : ∃ zs, arH xs (bts s) r = zs := ⟨_, rfl⟩
  rw [hzs] at HV ⊢
  have HBX : Hid (cd = 0 → n ≤ 12 ∧ 0 ≤ r ∧ r ≤ 1000) := Lib.hid (fun h => by have h1 := code_0 (hc.trans h); have := HL.out; have := validH_bd h1.1; omega)
  have HSB : Hid (cd = 0 → ∀ x ∈ xs, 8 ≤ x ∧ x ≤ 200) := Lib.hid (fun h => (validH_bd (code_0 (hc.trans h)).1).2.2.1)
  rw [hc]
  clear hzs
  by_cases h0 : cd = 0
  · obtain ⟨n1, n2, n3⟩ := HBX.out h0
    have HB8 := Lib.hid (HSB.out h0)
    have HSnoc := Lib.hid (fun k => arH_snoc xs k r)
    have HSI : Hid (∀ k, k < n → 4 ≤ sideI xs k r ∧ sideI xs k r ≤ 200) := Lib.hid (fun k hk => sideI_i64 HL.out HB8.out hk)
    go_enter Try.func15, Try.ntmps15
    go_wp2_with (go_at_call 39; refine (s_l07Code _ _ _ _ _ _ _ _ _ (Two.new w _ _ _) (HX.out.ext e0) hs).mono ?_; rw [hc]; rintro e w1 ⟨rfl, e1⟩; have E1 := Lib.hid (e0.trans e1); have HT1 := Lib.hid ((Two.new w (.slice ao n c) (.string s) 26).ext e1))
    go_loopw [7, 8] (fun v i wr => ∃ k : Nat, k ≤ n ∧ i = .int .i64 k ∧ Hid (OwnInts 2 wr w1.heap.size v ((List.range k).map (fun (k : Nat) => sideI xs k r))) ∧ Hid (Ext w1 wr)) (fun _ i _ => n - (intOf i).toNat)
    case atStart => exact ⟨0, Nat.zero_le _, rfl, Lib.hid (OwnInts.empty (Ext.refl w1)), Lib.hid ((Ext.refl w1).alloc _)⟩
    case round =>
      obtain ⟨k, hk, rfl, HO, HE⟩ := hrel
      obtain ⟨A1, A2, A3⟩ := HT1.out.ext HE.out
      by_cases hlt : k < n
      · have hsi := HSI.out k hlt
        have HC := Lib.hid (fun W (e : Ext wr W) => s_l07Side w.heap.size ao n c xs s k r W (HT1.out.ext (HE.out.trans e)) (HX.out.ext (E1.out.trans (HE.out.trans e))) HB8.out hlt n1 n2 n3)
        have hsn := HSnoc.out k
        have HLen : Hid (((List.range k).map (fun (k : Nat) => sideI xs k r)).length ≤ 1000000000) := Lib.hid (by simp; omega)
        obtain ⟨y, hy⟩ : ∃ y, sideI xs k r = y := ⟨_, rfl⟩
        rw [hy] at hsi HC hsn
        have HSN := Lib.hid hsn
        clear hsn hy
        go_wp2_with (first
          | (go_at_call 40; refine (HC.out _ (Ext.refl _)).mono ?_; rintro e w2 ⟨rfl, rfl⟩; have E2 := Lib.hid (Ext.refl wr))
          | (at_builtin; refine wpList_append_int (W := w1) rfl _ _ rfl _ _ _ rfl rfl rfl (HO.out.ext E2.out) (HE.out.trans E2.out) (by unfold IsI64; omega) HLen.out ?_; intro v' w3 ho3 e3; have HO3 := Lib.hid ho3; have HE3 := Lib.hid e3; clear ho3 e3))
        go_roundw
        case rel => exact ⟨k + 1, by omega, by go_num, Lib.hid (by rw [HSN.out]; exact HO3.out), HE3⟩
        case measure => (simp [intOf] <;> omega)
      · obtain rfl : k = n := by omega
        go_wp2
        go_ret2
        exact RetIntsC.of_own (by rw [HV.out, if_pos h0]; exact HO.out.mono E1.out.size) (E1.out.trans HE.out) h0.symm
  · go_enter Try.func15, Try.ntmps15
    go_wp2_with (go_at_call 39; refine (s_l07Code _ _ _ _ _ _ _ _ _ (Two.new w _ _ _) (HX.out.ext e0) hs).mono ?_; rw [hc]; rintro e w1 ⟨rfl, e1⟩; have E1 := Lib.hid (e0.trans e1))
    go_ret2
    exact RetIntsC.of_own (by rw [HV.out, if_neg h0]; exact OwnInts.nilv _ _ _) E1.out rfl
end Go.Proofs.Ytlgdaddplibglaa
