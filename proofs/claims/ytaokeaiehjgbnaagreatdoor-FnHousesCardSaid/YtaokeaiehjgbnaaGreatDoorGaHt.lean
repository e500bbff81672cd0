/- A group of texts, one behind the other: House12, House13. -/
import Derived.Test.YtaokeaiehjgbnaaGreatDoorGaHc
import Derived.Test.YtaokeaiehjgbnaaGreatDoorPtsL
import Derived.Test.YtaokeaiehjgbnaaGreatDoorRowCat
import Derived.Test.YtaokeaiehjgbnaaGreatDoorRecs
/- The places of the corners, and the sides of a course: both sides. -/
namespace Go.Proofs.YtaokeaiehjgbnaaGreatDoor
open Go.RowKit
set_option linter.unusedSimpArgs false
set_option linter.unusedVariables false
set_option linter.unnecessarySimpa false

theorem ptsH_take (xs : List Int) (t : List UInt8) (n : Nat) : (ptsH xs t n).take n = (List.range n).map (ptH xs t) := by
  unfold ptsH
  rw [← List.map_take, List.take_range, Nat.min_eq_left (Nat.le_succ n)]
/-- the places of the corners of a plan -/
def cornL (xs : List Int) (t : List UInt8) : List (Int × Int) := if validH xs t = true then (List.range xs.length).map (ptH xs t) else []
theorem cornL_wide (xs : List Int) (t : List UInt8) : Wide (cornL xs t) := by
  unfold cornL
  split
  · rename_i h
    have hb := validH_bd h
    intro p hp
    obtain ⟨i, hi, rfl⟩ := List.mem_map.1 hp
    have := ptH_bd t hb.2.2.1 hb.2.1 i (Nat.le_of_lt (List.mem_range.1 hi))
    unfold IsI64
    omega
  · intro p hp; simp at hp
theorem cornL_len (xs : List Int) (t : List UInt8) : (cornL xs t).length ≤ 12 := by
  unfold cornL
  split
  · rename_i h
    have hb := validH_bd h
    simp; omega
  · simp
/-- places and a code are handed back -/
def RetPtsC (ps : List (Int × Int)) (c : Int) (w : World) (e : Ending) (w' : World) : Prop := ∃ ao cap, e = .returned (.tuple #[.slice ao ps.length cap, .int .i64 c]) ∧ OwnPts w' w.heap.size (.slice ao ps.length cap) ps ∧ Ext w w'
theorem RetPtsC.bad {w w' : World} {ps : List (Int × Int)} {c : Int} (h : ps = []) (e : Ext w w') : RetPtsC ps c w (.returned (.tuple #[.slice none 0 0, .int .i64 c])) w' := by
  subst h
  exact ⟨none, 0, rfl, OwnPts.nilv _ _, e⟩
theorem RetPtsC.good {w w' : World} {ps : List (Int × Int)} {c : Int} {ao : Option Addr} {n cap : Nat} (h : OwnPts w' w.heap.size (.slice ao n cap) ps) (e : Ext w w') : RetPtsC ps c w (.returned (.tuple #[.slice ao n cap, .int .i64 c])) w' := by
  obtain rfl := h.len
  exact ⟨ao, cap, rfl, h, e⟩
theorem OwnPts.mono {w : World} {base base' : Nat} {v : Value} {ps : List (Int × Int)} (h : OwnPts w base v ps) (hb : base' ≤ base) : OwnPts w base' v ps := by
  obtain ⟨gs, h1, ⟨h2, h5⟩, h3, h4⟩ := h
  refine ⟨gs, h1, ⟨h2, ?_⟩, fun i hi => ⟨Nat.le_trans hb (h3 i hi).1, (h3 i hi).2⟩, h4⟩
  rcases h5 with h5 | ⟨g, cap, cur, hv, hg, r⟩
  · exact .inl h5
  · exact .inr ⟨g, cap, cur, hv, by omega, r⟩
set_option maxRecDepth 100000 in
set_option maxHeartbeats 2000000 in
theorem i_CornerPoints (ao : Option Addr) (n c : Nat) (xs : List Int) (s : ByteArray) (w : World) (hx : Ints w ao n xs) (hs : s.size ≤ 9223372036854775807) :
    Calls Tryz.prog 8 #[.agg #[.slice ao n c, .string s]] w (RetPtsC (cornL xs (bts s)) (sel (validH xs (bts s)) 0 1) w) := by
  have e0 : Ext w (w.alloc (.cells #[.slice ao n c, .string s] 26)) := (Ext.refl w).alloc _
  have HX := Lib.hid hx
  have HL := Lib.hid hx.1
  have hxm := hx.2.1
  clear hx
  obtain ⟨v, hv⟩ : ∃ v, validH xs (bts s) = v := ⟨_, rfl⟩
  have HC : Hid (cornL xs (bts s) = if v = true then (List.range n).map (ptH xs (bts s)) else []) := Lib.hid (by unfold cornL; rw [hv, HL.out])
  obtain ⟨ps, hps⟩ : ∃ ps, cornL xs (bts s) = ps := ⟨_, rfl⟩
  rw [hps] at HC ⊢
  rw [hv]
  clear hps
  have HBX : Hid (v = true → s.size = n ∧ 4 ≤ n ∧ n ≤ 12 ∧ ∀ x ∈ xs, 8 ≤ x ∧ x ≤ 200) := Lib.hid (fun h => by have h1 := validH_bd (hv.trans h); have := HL.out; rw [bts_length] at h1; exact ⟨by omega, by omega, by omega, h1.2.2.1⟩)
  cases v
  · go_enter Tryz.func8, Tryz.ntmps8
    go_wp2_with (go_at_call 25; refine (i_ValidHouse _ _ _ _ _ _ (HX.out.ext e0) hs).mono ?_; rw [hv]; rintro e w1 ⟨rfl, e1⟩; obtain ⟨p0, p1, p2, p3, p4⟩ := two_cells (e1.block (heap_alloc_new w _)); have E1 := Lib.hid (e0.trans e1))
    go_ret2
    exact RetPtsC.bad HC.out E1.out
  · obtain ⟨g3, n4, n12, hb⟩ := HBX.out rfl
    have HB8 := Lib.hid hb
    clear hb
    go_enter Tryz.func8, Tryz.ntmps8
    go_wp2_with (go_at_call 25; refine (i_ValidHouse _ _ _ _ _ _ (HX.out.ext e0) hs).mono ?_; rw [hv]; rintro e w1 ⟨rfl, e1⟩; have A := (Two.new w (.slice ao n c) (.string s) 26).ext e1; have E1 := Lib.hid (e0.trans e1))
    go_region_held3 (fun W => Two W w.heap.size (.slice ao n c) (.string s) ∧ Ext w1 W) (first | exact ⟨A.ext (Ext.refl _).drew, (Ext.refl _).drew⟩ | exact keepT1 (by assumption) (by assumption)) ((go_at_call 33; refine (i_corners _ _ _ _ _ _ ?_ g3 n12 HB8.out).mono ?_; exact HX.out.ext (E1.out.trans (heldT1 (by assumption))); rintro e w2 ⟨a2, c2, rfl, o2, e2⟩; rw [ptsH_len] at o2 ⊢; have hcap := o2.cap; have hcapI : (n : Int) ≤ (c2 : Int) := (by omega); have hn0 : (0 : Int) ≤ (n : Int) := (by omega); obtain ⟨pg, rfl, hp⟩ := o2.pts.uni (Nat.succ_pos n); clear hp; have HP := Lib.hid (o2.cut (Nat.le_succ n) (Nat.succ_pos n)); clear o2))
    have hS := (by assumption : Two w2 w.heap.size (.slice ao n c) (.string s) ∧ Ext w1 w2)
    have E2 := Lib.hid (E1.out.trans hS.2)
    have HSz := Lib.hid E1.out.size
    clear hS A e2
    go_wp2
    go_ret2
    refine RetPtsC.good ?_ E2.out
    rw [HC.out, if_pos trivial, ← ptsH_take]
    exact HP.out.mono (by have := HSz.out; simp; omega)
set_option maxRecDepth 100000 in
set_option maxHeartbeats 2000000 in
theorem s_CornerPoints (ao : Option Addr) (n c : Nat) (xs : List Int) (s : ByteArray) (w : World) (hx : Ints w ao n xs) (hs : s.size ≤ 9223372036854775807) :
    Calls Tryz.prog 9 #[.agg #[.slice ao n c, .string s]] w (RetPtsC (cornL xs (bts s)) (sel (validH xs (bts s)) 0 1) w) := by
  have e0 : Ext w (w.alloc (.cells #[.slice ao n c, .string s] 26)) := (Ext.refl w).alloc _
  have HX := Lib.hid hx
  have HL := Lib.hid hx.1
  have hxm := hx.2.1
  clear hx
  obtain ⟨v, hv⟩ : ∃ v, validH xs (bts s) = v := ⟨_, rfl⟩
  have HC : Hid (cornL xs (bts s) = if v = true then (List.range n).map (ptH xs (bts s)) else []) := Lib.hid (by unfold cornL; rw [hv, HL.out])
  obtain ⟨ps, hps⟩ : ∃ ps, cornL xs (bts s) = ps := ⟨_, rfl⟩
  rw [hps] at HC ⊢
  rw [hv]
  clear hps
  have HBX : Hid (v = true → s.size = n ∧ 4 ≤ n ∧ n ≤ 12 ∧ ∀ x ∈ xs, 8 ≤ x ∧ x ≤ 200) := Lib.hid (fun h => by have h1 := validH_bd (hv.trans h); have := HL.out; rw [bts_length] at h1; exact ⟨by omega, by omega, by omega, h1.2.2.1⟩)
  cases v
  · go_enter Tryz.func9, Tryz.ntmps9
    go_wp2_with (go_at_call 30; refine (s_l07Ok _ _ _ _ _ _ _ (Two.new w _ _ _) (HX.out.ext e0) hs).mono ?_; rw [hv]; rintro e w1 ⟨rfl, e1⟩; have E1 := Lib.hid (e0.trans e1))
    go_ret2
    exact RetPtsC.bad HC.out E1.out
  · obtain ⟨g3, n4, n12, hb⟩ := HBX.out rfl
    have HB8 := Lib.hid hb
    clear hb
    go_enter Tryz.func9, Tryz.ntmps9
    go_wp2_with (go_at_call 30; refine (s_l07Ok _ _ _ _ _ _ _ (Two.new w _ _ _) (HX.out.ext e0) hs).mono ?_; rw [hv]; rintro e w1 ⟨rfl, e1⟩; have A := (Two.new w (.slice ao n c) (.string s) 26).ext e1; have HT1 := Lib.hid A; have E1 := Lib.hid (e0.trans e1))
    go_region_held3 (fun W => Two W w.heap.size (.slice ao n c) (.string s) ∧ Ext w1 W) (first | exact ⟨A.ext (Ext.refl _).drew, (Ext.refl _).drew⟩ | exact keepT1 (by assumption) (by assumption)) ((go_at_call 34; refine (s_l07Points w.heap.size ao n c xs s _ ?_ ?_ g3 n12 HB8.out).mono ?_; (first | exact HT1.out.ext (heldT1 (by assumption)) | exact HT1.out.ext (Ext.refl _).drew); (first | exact HX.out.ext (E1.out.trans (heldT1 (by assumption))) | exact HX.out.ext (E1.out.trans (Ext.refl _).drew)); rintro e w2 ⟨a2, c2, rfl, o2, e2⟩; rw [ptsH_len] at o2 ⊢; have hcap := o2.cap; have hcapI : (n : Int) ≤ (c2 : Int) := (by omega); have hn0 : (0 : Int) ≤ (n : Int) := (by omega); obtain ⟨pg, rfl, hp⟩ := o2.pts.uni (Nat.succ_pos n); clear hp; have HP := Lib.hid (o2.cut (Nat.le_succ n) (Nat.succ_pos n)); clear o2))
    have hS := (by assumption : Two w2 w.heap.size (.slice ao n c) (.string s) ∧ Ext w1 w2)
    have E2 := Lib.hid (E1.out.trans hS.2)
    have HSz := Lib.hid E1.out.size
    clear hS A e2
    go_wp2
    go_ret2
    refine RetPtsC.good ?_ E2.out
    rw [HC.out, if_pos trivial, ← ptsH_take]
    exact HP.out.mono (by have := HSz.out; simp; omega)
/-- the lengths of all sides in a course -/
def arH (xs : List Int) (t : List UInt8) (r : Int) : List Int := if codeH xs t 0 r = 0 then (List.range xs.length).map (fun (k : Nat) => sideI xs k r) else []
theorem sideI_i64 {xs : List Int} {k n : Nat} {r : Int} (hn : xs.length = n) (hb : ∀ x ∈ xs, 8 ≤ x ∧ x ≤ 200) (hk : k < n) : 4 ≤ sideI xs k r ∧ sideI xs k r ≤ 200 := by
  have := sides_at hb k (by omega)
  rw [sideI_at xs n k r hn]
  split <;> split <;> omega
theorem arH_snoc (xs : List Int) (k : Nat) (r : Int) : (List.range (k + 1)).map (fun (k : Nat) => sideI xs k r) = (List.range k).map (fun (k : Nat) => sideI xs k r) ++ [sideI xs k r] := by
  rw [List.range_succ, List.map_append]; rfl
theorem arH_len (xs : List Int) (t : List UInt8) (r : Int) : (arH xs t r).length ≤ 12 := by
  unfold arH
  split
  · rename_i h
    have hb := validH_bd (code_0 h).1
    simp; omega
  · simp
end Go.Proofs.YtaokeaiehjgbnaaGreatDoor

/- A plan that begins with another side: both sides. -/
namespace Go.Proofs.YtaokeaiehjgbnaaGreatDoor
open Go.RowKit
set_option linter.unusedSimpArgs false
set_option linter.unusedVariables false
set_option linter.unnecessarySimpa false

theorem Ints.drop {w : World} {b off n k : Nat} {xs : List Int} (h : Ints w (some ⟨b, off, none⟩) n xs) (hk : k ≤ n) : Ints w (some ⟨b, off + k, none⟩) (n - k) (xs.drop k) := by
  refine ⟨by rw [List.length_drop, h.1], by have := h.2.1; omega, fun i hi => ⟨b, off + k, rfl, ?_⟩, fun x hx => h.2.2.2 x (List.mem_of_mem_drop hx)⟩
  obtain ⟨b', off', he, hc⟩ := h.2.2.1 (k + i) (by omega)
  simp only [Option.some.injEq, Addr.mk.injEq, and_true] at he
  obtain ⟨rfl, rfl⟩ := he
  rw [Nat.add_assoc, hc, List.getD_eq_getElem?_getD, List.getD_eq_getElem?_getD, List.getElem?_drop]
theorem Ints.take {w : World} {b off n k : Nat} {xs : List Int} (h : Ints w (some ⟨b, off, none⟩) n xs) (hk : k ≤ n) : Ints w (some ⟨b, off, none⟩) k (xs.take k) := by
  refine ⟨by rw [List.length_take, h.1]; omega, by have := h.2.1; omega, fun i hi => ⟨b, off, rfl, ?_⟩, fun x hx => h.2.2.2 x (List.mem_of_mem_take hx)⟩
  obtain ⟨b', off', he, hc⟩ := h.2.2.1 i (by omega)
  simp only [Option.some.injEq, Addr.mk.injEq, and_true] at he
  obtain ⟨rfl, rfl⟩ := he
  rw [hc, List.getD_eq_getElem?_getD, List.getD_eq_getElem?_getD, List.getElem?_take_of_lt hi]
/-- a text that begins with its byte k -/
def turnT (s : ByteArray) (k : Nat) : ByteArray := s.extract k s.size ++ s.extract 0 k
def trX (xs : List Int) (t : List UInt8) (k : Int) : List Int := if codeH xs t k 0 = 0 then xs.drop k.toNat ++ xs.take k.toNat else []
def trT (xs : List Int) (s : ByteArray) (k : Int) : ByteArray := if codeH xs (bts s) k 0 = 0 then turnT s k.toNat else ⟨#[]⟩
theorem trX_len (xs : List Int) (t : List UInt8) (k : Int) : (trX xs t k).length ≤ 12 := by
  unfold trX
  split
  · rename_i h
    have h2 := code_0 h
    have hb := validH_bd h2.1
    simp; omega
  · simp
/-- a plan and a code are handed back -/
def RetHouseC (xs : List Int) (t : ByteArray) (c : Int) (w : World) (e : Ending) (w' : World) : Prop := ∃ ao cap, e = .returned (.tuple #[.agg #[.slice ao xs.length cap, .string t], .int .i64 c]) ∧ OwnInts 2 w' w.heap.size (.slice ao xs.length cap) xs ∧ Ext w w'
theorem RetHouseC.bad {w w' : World} {xs : List Int} {t : ByteArray} {c : Int} (h : xs = []) (h2 : t = ⟨#[]⟩) (e : Ext w w') : RetHouseC xs t c w (.returned (.tuple #[.agg #[.slice none 0 0, .string ⟨#[]⟩], .int .i64 c])) w' := by
  subst h h2
  exact ⟨none, 0, rfl, OwnInts.nilv _ _ _, e⟩
theorem OwnInts.setsH {w : World} {base b : Nat} {v : Value} {xs : List Int} {cs : Array Value} {m : Nat × Nat} (h : OwnInts 2 w base v xs) (hb : w.heap[b]? = some (.cells cs 26 m)) (x y : Value) :
    OwnInts 2 ((w.setCell ⟨b, 0, none⟩ x).setCell ⟨b, 1, none⟩ y) base v xs := by
  have hne : ∀ j, v.ownBlock = some j → b ≠ j := by
    intro j hj e
    subst e
    rcases h.1.2 with ⟨rfl, _⟩ | ⟨g, cap, cur, rfl, _, hh, _⟩
    · simp [Value.ownBlock] at hj
    · have e : g = b := by simpa [Value.ownBlock] using hj
      subst e
      rw [hh] at hb
      simp at hb
  exact ⟨ownsRow_setCell_other (ownsRow_setCell_other h.1 hne x) hne y, h.2⟩
theorem keepA {w1 W : World} {b : Nat} {x y : Value} (h : Two w1 b x y) (e : Ext w1 W) : Two W b x y ∧ Ext w1 W := ⟨h.ext e, e⟩
set_option maxRecDepth 100000 in
set_option maxHeartbeats 1500000 in
theorem s_TurnHouse (ao : Option Addr) (n c : Nat) (xs : List Int) (s : ByteArray) (kk : Int) (w : World) (hx : Ints w ao n xs) (hc : n ≤ c) (hs : s.size ≤ 9223372036854775807) :
    Calls Tryz.prog 7 #[.agg #[.slice ao n c, .string s], .int .i64 kk] w (RetHouseC (trX xs (bts s) kk) (trT xs s kk) (codeH xs (bts s) kk 0) w) := by
  have e0 : Ext w ((w.alloc (.cells #[.slice ao n c, .string s] 26)).alloc (.cells #[.slice none 0 0, .string ⟨#[]⟩] 26)) := ((Ext.refl w).alloc _).alloc _
  have B0 := Lib.hid (blk_old (o := .cells #[.slice none 0 0, .string ⟨#[]⟩] 26) (blk_at w (.cells #[.slice ao n c, .string s] 26) _ rfl))
  have B1 := Lib.hid (blk_at (w.alloc (.cells #[.slice ao n c, .string s] 26)) (.cells #[.slice none 0 0, .string ⟨#[]⟩] 26) (w.heap.size + 1) (by simp))
  have HX := Lib.hid hx
  have HL := Lib.hid hx.1
  have hxm := hx.2.1
  clear hx
  have hC : codeH xs (bts s) kk 0 = sel (validH xs (bts s)) (sel (inB kk 0 (n - 1)) 0 2) 1 := by
    unfold codeH inRange
    rw [HL.out, show inB 0 0 1000 = true from rfl, Bool.and_true]
  obtain ⟨xr, hxr⟩ : ∃ xr, trX xs (bts s) kk = xr := ⟨_, rfl⟩
  obtain ⟨tr, htr⟩ : ∃ tr, trT xs s kk = tr := ⟨_, rfl⟩
  have HXR : Hid (xr = if codeH xs (bts s) kk 0 = 0 then xs.drop kk.toNat ++ xs.take kk.toNat else []) := Lib.hid (by rw [← hxr]; rfl)
  have HTR : Hid (tr = if codeH xs (bts s) kk 0 = 0 then turnT s kk.toNat else ⟨#[]⟩) := Lib.hid (by rw [← htr]; rfl)
  rw [hxr, htr]
  rw [hC] at HXR HTR ⊢
  clear hxr htr hC
  obtain ⟨v, hv⟩ : ∃ v, validH xs (bts s) = v := ⟨_, rfl⟩
  obtain ⟨b1, g1⟩ : ∃ b, inB kk 0 (n - 1) = b := ⟨_, rfl⟩
  rw [hv, g1] at HXR HTR ⊢
  have HBX : Hid (v = true → s.size = n ∧ 4 ≤ n ∧ n ≤ 12) := Lib.hid (fun h => by have h1 := validH_bd (hv.trans h); have := HL.out; rw [bts_length] at h1; exact ⟨by omega, by omega, by omega⟩)
  cases v
  · go_enter Tryz.func7, Tryz.ntmps7
    go_wp2_with (go_at_call 30; refine (s_l07Ok _ _ _ _ _ _ _ (Two.of B0.out) (HX.out.ext e0) hs).mono ?_; rw [hv]; rintro e w1 ⟨rfl, e1⟩; have E1 := Lib.hid (e0.trans e1); obtain ⟨r0, r1, r2, r3, r4⟩ := two_cells (e1.block B1.out))
    refine bodyPost_ret (v := .tuple #[.agg #[.slice none 0 0, .string ⟨#[]⟩], .int .i64 1]) (by simp [results, Tryz.results7, go_sem, r0, r1]) rfl ?_
    refine RetHouseC.bad HXR.out HTR.out ?_
    repeat' (first | exact E1.out | (dsimp only; omega) | refine Ext.setCell ?_ ?_ _)
  · obtain ⟨g3, n4, n12⟩ := HBX.out rfl
    cases b1
    · go_enter Tryz.func7, Tryz.ntmps7
      go_wp2_with (first | (go_at_call 30; refine (s_l07Ok _ _ _ _ _ _ _ (Two.of B0.out) (HX.out.ext e0) hs).mono ?_; rw [hv]; rintro e w1 ⟨rfl, e1⟩; have E1 := Lib.hid (e0.trans e1); obtain ⟨q0, q1, q2⟩ := (Two.of B0.out).ext e1; obtain ⟨r0, r1, r2, r3, r4⟩ := two_cells (e1.block B1.out)) | (go_at_call 31; refine (s_l00In _ _ _ _).mono ?_; rw [g1]; rintro e w' ⟨rfl, rfl⟩))
      refine bodyPost_ret (v := .tuple #[.agg #[.slice none 0 0, .string ⟨#[]⟩], .int .i64 2]) (by simp [results, Tryz.results7, go_sem, r0, r1]) rfl ?_
      refine RetHouseC.bad HXR.out HTR.out ?_
      repeat' (first | exact E1.out | (dsimp only; omega) | refine Ext.setCell ?_ ?_ _)
    · have ⟨k1, k2⟩ := inB_iff.1 g1
      obtain ⟨k, rfl⟩ := Int.eq_ofNat_of_zero_le k1
      rw [Int.toNat_natCast] at HXR HTR
      have hkn : k < n := by omega
      have hks : (k : Int) ≤ (s.size : Int) := by omega
      have hk0 : (0 : Int) ≤ (k : Int) := by omega
      have hki : (k : Int) ≤ (n : Int) := by omega
      have hkc : (k : Int) ≤ (c : Int) := by omega
      have hksN : k ≤ s.size := by omega
      have hck : ¬ (c = k) := by omega
      have hs9 : ¬ (9223372036854775807 < s.size) := by omega
      have HG3 := Lib.hid g3
      have HLD : Hid ((xs.drop k).length = n - k) := Lib.hid (by rw [List.length_drop, HL.out])
      have HLN : Hid ((xs.drop k).length + (xs.take k).length = n) := Lib.hid (by rw [List.length_drop, List.length_take, HL.out]; omega)
      clear g3
      obtain ⟨bb, off, rfl, _⟩ := HX.out.2.2.1 0 (by omega)
      go_enter Tryz.func7, Tryz.ntmps7
      go_wp2_with (first | (go_at_call 30; refine (s_l07Ok _ _ _ _ _ _ _ (Two.of B0.out) (HX.out.ext e0) hs).mono ?_; rw [hv]; rintro e w1 ⟨rfl, e1⟩; have E1 := Lib.hid (e0.trans e1); have A := (Two.of B0.out).ext e1; have HR1 := Lib.hid (e1.block B1.out); have HZ1 : Hid (w.heap.size + 1 < w1.heap.size) := Lib.hid (by have := e1.size; simp at this; omega)) | (go_at_call 31; refine (s_l00In _ _ _ _).mono ?_; rw [g1]; rintro e w' ⟨rfl, rfl⟩))
      go_region_held3 (fun W => Two W w.heap.size (.slice (some ⟨bb, off, none⟩) n c) (.string s) ∧ Ext w1 W) (first | exact ⟨A.ext (Ext.refl _).drew, (Ext.refl _).drew⟩ | exact keepT1 (by assumption) (by assumption) | exact keepT1 (by assumption) ((Ext.refl _).alloc _) | (refine keepA A ?_; repeat' (first | exact HE4.out | refine Ext.alloc ?_ _ | refine Ext.setCell ?_ ?_ _ | exact HE3.out.size | exact Nat.le_refl _ | exact HE4.out.size))) (first
        | (go_at_call 32; refine (s_l00Own _ _ _ (xs.drop k) _ ?_ ?_).mono ?_; exact ((HX.out.ext (E1.out.trans (heldT1 (by assumption)))).drop (by omega)); omega; rintro e w2 ⟨a3, c3, rfl, o3, e3⟩; rw [HLD.out] at o3 ⊢; (try (have HB5 : Hid (w2.heap[w1.heap.size]? = some (.cells #[.slice none 0 0, .string ⟨#[]⟩] 26) ∧ ∀ j, (Value.slice a3 (n - k) c3).ownBlock = some j → j ≠ w1.heap.size) := Lib.hid ⟨e3.block (heap_alloc_new w1.drew _), fun j hj => by have := (o3.blk j hj).1; simp at this; omega⟩)); have HO3 := Lib.hid (o3.mono (heldT1 (by assumption)).size); have HE3 := Lib.hid ((heldT1 (by assumption)).trans e3); clear o3)
        | (refine step_append_ints (W := w1) rfl _ _ rfl _ (xs.drop k) (xs.take k) rfl ⟨bb, off, none⟩ k c rfl (by first | exact HO3.out | exact HO3.out.ext ((Ext.refl _).alloc _)) (by first | exact HE3.out | exact HE3.out.alloc _) (by first | exact (HX.out.ext (E1.out.trans HE3.out)).take (by omega) | exact (HX.out.ext (E1.out.trans (HE3.out.alloc _))).take (by omega)) n HLN.out (by omega) ?_; intro a4 c4 w4 ho4 e4 b4; (try (have b6 : w4.heap[w2.heap.size]? = some (.cells #[.slice none 0 0, .string ⟨#[]⟩] 26) := b4 w2.heap.size (.cells #[.slice none 0 0, .string ⟨#[]⟩] 26) (heap_alloc_new w2 _) (fun e => by have := (HO3.out.blk _ e).2; omega); obtain ⟨z0, z1, z2, z3, z4⟩ := two_cells b6; have HB6 := Lib.hid b6; clear b6)); (try (have b6 := b4 w1.heap.size _ HB5.out.1 (fun e => HB5.out.2 _ e rfl); obtain ⟨z0, z1, z2, z3, z4⟩ := two_cells b6; have HB6 := Lib.hid b6; clear b6)); clear b4; have HO4 := Lib.hid ho4; have HE4 := Lib.hid e4; clear ho4))
      all_goals
        have hS := (by assumption : Two _ w.heap.size (.slice (some ⟨bb, off, none⟩) n c) (.string s) ∧ Ext w1 _)
        obtain ⟨r0, r1, r2, r3, r4⟩ := two_cells (hS.2.block HR1.out)
        clear hS
        go_wp2
        refine bodyPost_ret (v := .tuple #[.agg #[.slice a4 n c4, .string (s.extract k s.size ++ s.extract 0 k)], .int .i64 0]) (by simp [results, Tryz.results7, go_sem, r0, r1]) rfl ?_
        refine ⟨a4, c4, ?_, ?_, ?_⟩
        · rw [HXR.out, HTR.out, if_pos (by rfl), if_pos (by rfl), List.length_append, HLN.out]
          rfl
        · rw [HXR.out, if_pos (by rfl), List.length_append, HLN.out]
          have Z := E1.out.size
          refine OwnInts.mono (base := w1.heap.size) ?_ Z
          have Z1 := HZ1.out
          refine OwnInts.setBelow (OwnInts.setBelow ?_ Z1 _) Z1 _
          first | exact HO4.out.ext ((Ext.refl _).alloc _) | exact HO4.out.setsH HB6.out _ _
        · refine Ext.setCell (Ext.setCell ?_ (Nat.le_succ _) _) (Nat.le_succ _) _
          refine Ext.trans E1.out ?_
          exact (by assumption : Two _ w.heap.size (.slice (some ⟨bb, off, none⟩) n c) (.string s) ∧ Ext w1 _).2
/-- a block of two cells, whatever they hold -/
def Duo (b : Nat) (W : World) : Prop := ∃ x y, W.heap[b]? = some (.cells #[x, y] 26 (0, 0))
theorem Duo.ext {b : Nat} {W W' : World} (h : Duo b W) (e : Ext W W') : Duo b W' := let ⟨x, y, h⟩ := h; ⟨x, y, e.block h⟩
theorem heap_set (W : World) (b i : Nat) (x : Value) {cs : Array Value} {T : TypeId} {m : Nat × Nat} (h : W.heap[b]? = some (.cells cs T m)) : (W.setCell ⟨b, i, none⟩ x).heap[b]? = some (.cells (cs.setIfInBounds i x) T m) := by
  show (W.heap.modify b _)[b]? = _
  rw [Array.getElem?_modify, if_pos rfl, h]
  rfl
theorem Duo.sets {b : Nat} {W : World} (h : Duo b W) (x y : Value) : Duo b ((W.setCell ⟨b, 0, none⟩ x).setCell ⟨b, 1, none⟩ y) := by
  obtain ⟨u, v, h⟩ := h
  have h1 := heap_set W b 0 x h
  have h2 := heap_set _ b 1 y h1
  exact ⟨x, y, by simpa using h2⟩
/-- what a region keeps: the plan's cells, what was there at first, the result's cells -/
def KeepR (w W : World) (x y : Value) : Prop := Two W w.heap.size x y ∧ Ext w W ∧ Duo (w.heap.size + 1) W
theorem KeepR.ext {w W W' : World} {x y : Value} (h : KeepR w W x y) (e : Ext W W') : KeepR w W' x y := ⟨h.1.ext e, h.2.1.trans e, h.2.2.ext e⟩
theorem KeepR.sets {w W : World} {x y : Value} (h : KeepR w W x y) (u v : Value) : KeepR w ((W.setCell ⟨w.heap.size + 1, 0, none⟩ u).setCell ⟨w.heap.size + 1, 1, none⟩ v) x y := by
  have hne : ∀ i j, (⟨w.heap.size + 1, i, none⟩ : Addr) ≠ ⟨w.heap.size, j, none⟩ := fun i j e => by simp at e
  refine ⟨⟨?_, ?_, ?_⟩, (h.2.1.setCell (Nat.le_succ _) _).setCell (Nat.le_succ _) _, h.2.2.sets u v⟩
  · rw [World.cell?_setCell_other _ _ _ _ (fun e => by simp at e), World.cell?_setCell_other _ _ _ _ (fun e => by simp at e)]; exact h.1.1
  · rw [World.cell?_setCell_other _ _ _ _ (fun e => by simp at e), World.cell?_setCell_other _ _ _ _ (fun e => by simp at e)]; exact h.1.2.1
  · simpa using h.1.2.2
set_option maxRecDepth 100000 in
set_option maxHeartbeats 1500000 in
theorem i_TurnHouse (ao : Option Addr) (n c : Nat) (xs : List Int) (s : ByteArray) (kk : Int) (w : World) (hx : Ints w ao n xs) (hc : n ≤ c) (hs : s.size ≤ 9223372036854775807) :
    Calls Tryz.prog 6 #[.agg #[.slice ao n c, .string s], .int .i64 kk] w (RetHouseC (trX xs (bts s) kk) (trT xs s kk) (codeH xs (bts s) kk 0) w) := by
  have e0 : Ext w ((w.alloc (.cells #[.slice ao n c, .string s] 26)).alloc (.cells #[.slice none 0 0, .string ⟨#[]⟩] 26)) := ((Ext.refl w).alloc _).alloc _
  have B0 := Lib.hid (blk_old (o := .cells #[.slice none 0 0, .string ⟨#[]⟩] 26) (blk_at w (.cells #[.slice ao n c, .string s] 26) _ rfl))
  have B1 := Lib.hid (blk_at (w.alloc (.cells #[.slice ao n c, .string s] 26)) (.cells #[.slice none 0 0, .string ⟨#[]⟩] 26) (w.heap.size + 1) (by simp))
  have HX := Lib.hid hx
  have HL := Lib.hid hx.1
  have hxm := hx.2.1
  clear hx
  obtain ⟨xr, hxr⟩ : ∃ xr, trX xs (bts s) kk = xr := ⟨_, rfl⟩
  obtain ⟨tr, htr⟩ : ∃ tr, trT xs s kk = tr := ⟨_, rfl⟩
  have HXR : Hid (xr = if codeH xs (bts s) kk 0 = 0 then xs.drop kk.toNat ++ xs.take kk.toNat else []) := Lib.hid (by rw [← hxr]; rfl)
  have HTR : Hid (tr = if codeH xs (bts s) kk 0 = 0 then turnT s kk.toNat else ⟨#[]⟩) := Lib.hid (by rw [← htr]; rfl)
  rw [hxr, htr]
  clear hxr htr
  obtain ⟨cd, hcd⟩ : ∃ cd, codeH xs (bts s) kk 0 = cd := ⟨_, rfl⟩
  have HCB : Hid (cd = 0 → 0 ≤ kk ∧ kk ≤ (n : Int) - 1 ∧ n ≤ 12 ∧ s.size = n) := Lib.hid (fun h => by
    have h1 := code_0 (hcd.trans h)
    have h2 := validH_bd h1.1
    have := HL.out
    rw [bts_length] at h2
    omega)
  rw [hcd] at HXR HTR ⊢
  by_cases h0 : cd = 0
  · obtain ⟨k1, k2, n12, g3⟩ := HCB.out h0
    subst h0
    rw [if_pos rfl] at HXR HTR
    obtain ⟨k, rfl⟩ := Int.eq_ofNat_of_zero_le k1
    rw [Int.toNat_natCast] at HXR HTR
    have hkn : k < n := by omega
    have hks : (k : Int) ≤ (s.size : Int) := by omega
    have hk0 : (0 : Int) ≤ (k : Int) := by omega
    have hki : (k : Int) ≤ (n : Int) := by omega
    have hkc : (k : Int) ≤ (c : Int) := by omega
    have hksN : k ≤ s.size := by omega
    have hck : ¬ (c = k) := by omega
    have hs9 : ¬ (9223372036854775807 < s.size) := by omega
    have HG3 := Lib.hid g3
    have HLN : Hid ((xs.drop k ++ xs.take k).length = n) := Lib.hid (by rw [List.length_append, List.length_drop, List.length_take, HL.out]; omega)
    clear g3
    obtain ⟨bb, off, rfl, _⟩ := HX.out.2.2.1 0 (by omega)
    go_enter Tryz.func6, Tryz.ntmps6
    go_wp2_with (go_at_call 28; refine (i_houseCode _ _ _ _ _ _ _ _ (HX.out.ext e0) hs).mono ?_; rw [hcd]; rintro e w1 ⟨rfl, e1⟩; have A : KeepR w w1 (.slice (some ⟨bb, off, none⟩) n c) (.string s) := ⟨(Two.of B0.out).ext e1, e0.trans e1, ⟨_, _, e1.block B1.out⟩⟩; obtain ⟨r0, r1, r2⟩ := (Two.of B0.out).ext e1; have HZ1 : Hid (w.heap.size + 1 < w1.heap.size) := Lib.hid (by have := e1.size; simp at this; omega))
    go_region_held3 (fun W => Two W w.heap.size (.slice (some ⟨bb, off, none⟩) n c) (.string s) ∧ Ext w W ∧ Duo (w.heap.size + 1) W) (first | exact KeepR.ext A (Ext.refl _).drew | exact KeepR.ext (by assumption) (by assumption) | exact KeepR.ext (by assumption) ((Ext.refl _).alloc _) | (refine KeepR.sets ?_ _ _; assumption)) ((go_at_call 29; refine (f_Concat _ ⟨bb, off + k, none⟩ ⟨bb, off, none⟩ (n - k) k (c - k) c (xs.drop k) (xs.take k) _ (by simp) (by simp) ?_ ?_ (by omega) (by omega)).mono ?_; exact ((HX.out.ext (by assumption : Two _ _ _ _ ∧ Ext w _ ∧ Duo _ _).2.1).ext ((Ext.refl _).alloc _)).drop (by omega); exact ((HX.out.ext (by assumption : Two _ _ _ _ ∧ Ext w _ ∧ Duo _ _).2.1).ext ((Ext.refl _).alloc _)).take (by omega); rintro e w2 ⟨a3, c3, rfl, o3, e3⟩; rw [HLN.out] at o3 ⊢; have HO3 := Lib.hid o3; have hD := (by assumption : Two _ _ _ _ ∧ Ext w _ ∧ Duo _ _).2.2.ext e3; obtain ⟨u0, u1, hD⟩ := hD; obtain ⟨z0, z1, z2, z3, z4⟩ := two_cells hD; clear hD o3))
    have hE := (by assumption : Two _ w.heap.size (.slice (some ⟨bb, off, none⟩) n c) (.string s) ∧ Ext w _ ∧ Duo (w.heap.size + 1) _).2.1
    go_wp2
    refine bodyPost_ret (v := .tuple #[.agg #[.slice a3 n c3, .string (s.extract k s.size ++ s.extract 0 k)], .int .i64 0]) (by simp [results, Tryz.results6, go_sem, z0, z1]) rfl ?_
    refine ⟨a3, c3, ?_, ?_, hE⟩
    · rw [HXR.out, HTR.out, HLN.out]
      rfl
    · rw [HXR.out, HLN.out]
      have Z1 := HZ1.out
      have Z3 := OwnInts.mono (base' := w1.heap.size) HO3.out (by simp)
      exact OwnInts.mono (OwnInts.setBelow (OwnInts.setBelow Z3 Z1 _) Z1 _) (Nat.le_of_lt (Nat.lt_of_succ_lt Z1))
  · rw [if_neg h0] at HXR HTR
    have hc0 : ¬ (cd = 0) := h0
    have hc1 : (cd != 0) = true := by simp [h0]
    go_enter Tryz.func6, Tryz.ntmps6
    go_wp2_with (go_at_call 28; refine (i_houseCode _ _ _ _ _ _ _ _ (HX.out.ext e0) hs).mono ?_; rw [hcd]; rintro e w1 ⟨rfl, e1⟩; have E1 := Lib.hid (e0.trans e1); obtain ⟨r0, r1, r2, r3, r4⟩ := two_cells (e1.block B1.out))
    refine bodyPost_ret (v := .tuple #[.agg #[.slice none 0 0, .string ⟨#[]⟩], .int .i64 cd]) (by simp [results, Tryz.results6, go_sem, r0, r1]) rfl ?_
    refine RetHouseC.bad HXR.out HTR.out ?_
    repeat' (first | exact E1.out | (dsimp only; omega) | refine Ext.setCell ?_ ?_ _)
end Go.Proofs.YtaokeaiehjgbnaaGreatDoor
