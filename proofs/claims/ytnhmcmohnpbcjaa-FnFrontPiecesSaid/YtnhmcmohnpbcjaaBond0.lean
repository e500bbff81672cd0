/- Contracts of the laws' helpers over bonds and their courses. -/
import Derived.Test.YtnhmcmohnpbcjaaGaMath
import Derived.Test.YtnhmcmohnpbcjaaHouse0
import Derived.Test.YtnhmcmohnpbcjaaGaStrs
import Derived.Test.YtnhmcmohnpbcjaaRecs
import Derived.Deep.RegionHeld3
import Derived.Deep.DeepCutAuto
namespace Go.Proofs.Ytnhmcmohnpbcjaa
open Go.RowKit
set_option linter.unusedSimpArgs false
set_option linter.unusedVariables false
set_option linter.unnecessarySimpa false

def crsC (c : Crs) : List Value := [.string c.lead, .string c.cyc]
def Crs.ok (c : Crs) : Prop := c.lead.size ≤ 9223372036854775807 ∧ c.cyc.size ≤ 9223372036854775807
/-- The slice of n courses at ao reads, in w, as cs. -/
def Crss (w : World) (ao : Option Addr) (n : Nat) (cs : List Crs) : Prop :=
  cs.length = n ∧ n ≤ 9223372036854775807 ∧ (∀ i, i < n → ∃ b off, ao = some ⟨b, off, none⟩ ∧ w.cell? ⟨b, off + i * 2, none⟩ = some (.string (cs.getD i default).lead) ∧ w.cell? ⟨b, off + i * 2 + 1, none⟩ = some (.string (cs.getD i default).cyc)) ∧ ∀ c ∈ cs, c.ok
theorem Crss.ext {w w' : World} {ao : Option Addr} {n : Nat} {cs : List Crs} (h : Crss w ao n cs) (e : Ext w w') : Crss w' ao n cs :=
  ⟨h.1, h.2.1, fun i hi => let ⟨b, off, h1, h2, h3⟩ := h.2.2.1 i hi; ⟨b, off, h1, e.cell h2, e.cell h3⟩, h.2.2.2⟩
theorem Crss.at {w : World} {ao : Option Addr} {n : Nat} {cs : List Crs} (h : Crss w ao n cs) {i : Nat} (hi : i < n) : (cs.getD i default).ok := by
  rw [List.getD_eq_getElem?_getD, List.getElem?_eq_getElem (by rw [h.1]; exact hi)]
  exact h.2.2.2 _ (List.getElem_mem _)
theorem crs_len (cs : List Crs) : ∀ r ∈ cs.map crsC, r.length = 2 := by
  intro r hr
  obtain ⟨c, _, rfl⟩ := List.mem_map.1 hr
  rfl
theorem crs_getD (cs : List Crs) (j : Nat) (hj : j < cs.length) : (cs.map crsC).getD j [] = [.string (cs.getD j default).lead, .string (cs.getD j default).cyc] := by
  rw [List.getD_eq_getElem?_getD, List.getD_eq_getElem?_getD, List.getElem?_map, List.getElem?_eq_getElem hj]
  rfl
theorem l_toCourse (a b : ByteArray) (w : World) : Calls Try.prog 112 #[.agg #[.string a, .string b]] w (RetE (.agg #[.string a, .string b]) w) := by
  go_enter Try.func112, Try.ntmps112
  go_wp2
  refine bodyPost_ret (v := .agg #[.string a, .string b]) (by simp [results, Try.results112, go_sem]) rfl (RetE.mk rfl ?_)
  repeat' (first | exact Ext.refl _ | (dsimp only; omega) | refine Ext.setCell ?_ ?_ _ | refine Ext.alloc ?_ _)
theorem l_eqCourse (a b c d : ByteArray) (w : World) : Calls Try.prog 120 #[.agg #[.string a, .string b], .agg #[.string c, .string d]] w (RetE (.bool (decide ((⟨a, b⟩ : Crs) = ⟨c, d⟩))) w) := by
  by_cases h1 : a = c
  · by_cases h2 : b = d
    · subst h1 h2
      go_enter Try.func120, Try.ntmps120
      go_wp2
      go_ret
      refine RetE.mk (bool_eq (by simp)) ?_
      repeat' (first | exact Ext.refl _ | refine Ext.alloc ?_ _)
    · subst h1
      have n4 : (b.toList == d.toList) = false := toList_ne h2
      have HV : Hid (decide ((⟨a, b⟩ : Crs) = ⟨a, d⟩) = false) := Lib.hid (by simp [h2])
      clear h2
      go_enter Try.func120, Try.ntmps120
      go_wp2
      go_ret
      refine RetE.mk (bool_eq HV.out.symm) ?_
      repeat' (first | exact Ext.refl _ | refine Ext.alloc ?_ _)
  · have n4 : (a.toList == c.toList) = false := toList_ne h1
    have HV : Hid (decide ((⟨a, b⟩ : Crs) = ⟨c, d⟩) = false) := Lib.hid (by simp [h1])
    clear h1
    go_enter Try.func120, Try.ntmps120
    go_wp2
    go_ret
    refine RetE.mk (bool_eq HV.out.symm) ?_
    repeat' (first | exact Ext.refl _ | refine Ext.alloc ?_ _)
/-- two cells that hold a course -/
abbrev TwoS (w : World) (b o : Nat) (x1 x2 : ByteArray) : Prop := w.cell? ⟨b, o, none⟩ = some (.string x1) ∧ w.cell? ⟨b, o + 1, none⟩ = some (.string x2)
theorem TwoS.ext {w w' : World} {b o : Nat} {x1 x2 : ByteArray} (h : TwoS w b o x1 x2) (e : Ext w w') : TwoS w' b o x1 x2 := ⟨e.cell h.1, e.cell h.2⟩
theorem keepSS {w2 W W' : World} {b o b' o' : Nat} {x1 x2 y1 y2 : ByteArray} (h : TwoS W b o x1 x2 ∧ TwoS W b' o' y1 y2 ∧ Ext w2 W) (e : Ext W W') : TwoS W' b o x1 x2 ∧ TwoS W' b' o' y1 y2 ∧ Ext w2 W' := ⟨h.1.ext e, h.2.1.ext e, h.2.2.trans e⟩
theorem heldSS {w2 W : World} {b o b' o' : Nat} {x1 x2 y1 y2 : ByteArray} (h : TwoS W b o x1 x2 ∧ TwoS W b' o' y1 y2 ∧ Ext w2 W) : Ext w2 W := h.2.2
theorem keepS1 {w2 W W' : World} {b o : Nat} {x1 x2 : ByteArray} (h : TwoS W b o x1 x2 ∧ Ext w2 W) (e : Ext W W') : TwoS W' b o x1 x2 ∧ Ext w2 W' := ⟨h.1.ext e, h.2.trans e⟩
theorem heldS1 {w2 W : World} {b o : Nat} {x1 x2 : ByteArray} (h : TwoS W b o x1 x2 ∧ Ext w2 W) : Ext w2 W := h.2
theorem info_crs : (Try.prog.info? 151).map (fun i => (i.zero, i.size, i.bytes)) = some (some (.agg #[.string ByteArray.empty, .string ByteArray.empty]), 2, 32) := by kernel_rfl
/-- The slice v is one that the call made (from block base on), it may be written, and it holds the courses cs. -/
def OwnCrss (w : World) (base : Nat) (v : Value) (cs : List Crs) : Prop := OwnRecs 151 2 w base v (cs.map crsC) ∧ ∀ c ∈ cs, c.ok
def RetCrss (cs : List Crs) (w : World) (e : Ending) (w' : World) : Prop := ∃ ao cap, e = .returned (.slice ao cs.length cap) ∧ OwnCrss w' w.heap.size (.slice ao cs.length cap) cs ∧ Ext w w'
theorem OwnCrss.ext {w w' : World} {base : Nat} {v : Value} {cs : List Crs} (h : OwnCrss w base v cs) (e : Ext w w') : OwnCrss w' base v cs := ⟨h.1.ext e, h.2⟩
theorem OwnCrss.mono {w : World} {base base' : Nat} {v : Value} {cs : List Crs} (h : OwnCrss w base v cs) (hb : base' ≤ base) : OwnCrss w base' v cs := by
  obtain ⟨⟨⟨h1, h2⟩, h4⟩, h3⟩ := h
  refine ⟨⟨⟨h1, ?_⟩, h4⟩, h3⟩
  rcases h2 with h2 | ⟨g, cap, cur, hv, hg, r⟩
  · exact .inl h2
  · exact .inr ⟨g, cap, cur, hv, by omega, r⟩
theorem OwnCrss.setBelow {w : World} {base : Nat} {v : Value} {cs : List Crs} (h : OwnCrss w base v cs) {a : Addr} (ha : a.block < base) (u : Value) : OwnCrss (w.setCell a u) base v cs := ⟨h.1.setBelow ha u, h.2⟩
theorem OwnCrss.blk {w : World} {base n cap : Nat} {ao : Option Addr} {cs : List Crs} (h : OwnCrss w base (.slice ao n cap) cs) : ∀ k, (Value.slice ao n cap).ownBlock = some k → base ≤ k ∧ k < w.heap.size := h.1.blk
theorem OwnCrss.crss {w : World} {base n cap : Nat} {ao : Option Addr} {cs : List Crs} (h : OwnCrss w base (.slice ao n cap) cs) : Crss w ao n cs := by
  have hl := h.1.len
  rw [List.length_map] at hl
  have hrow := h.1.1
  rcases hrow.2 with ⟨hv, h0⟩ | ⟨g, cap', cur, hv, hg, hh, hc, hm, hcur, htake⟩
  · simp only [Value.slice.injEq] at hv
    obtain ⟨rfl, rfl, rfl⟩ := hv
    exact ⟨hl, by omega, fun i hi => by omega, h.2⟩
  · simp only [Value.slice.injEq] at hv
    obtain ⟨rfl, hvn, rfl⟩ := hv
    refine ⟨hl, by have := hm; unfold maxLen at this; omega, fun i hi => ⟨g, 0, rfl, ?_⟩, h.2⟩
    have r2 := h.1.reads2 i hi (crs_getD cs i (by omega))
    rw [Nat.zero_add]
    exact ⟨r2.1, r2.2.1⟩
def cop2 (cs : List Crs) (n k : Nat) : List (List Value) := (cs.take k).map crsC ++ List.replicate (n - k) [.string ByteArray.empty, .string ByteArray.empty]
theorem cop2_len (cs : List Crs) (n k : Nat) (hl : cs.length = n) (hk : k ≤ n) : (cop2 cs n k).length = n := by unfold cop2; rw [List.length_append, List.length_map, List.length_take, List.length_replicate]; omega
theorem cop2_succ (cs : List Crs) (n k : Nat) (hl : cs.length = n) (hk : k < n) : (cop2 cs n k).set k [.string (cs.getD k default).lead, .string (cs.getD k default).cyc] = cop2 cs n (k + 1) := by
  unfold cop2
  have h1 : ((cs.take k).map crsC).length = k := by simp; omega
  have h2 : n - k = (n - (k + 1)) + 1 := by omega
  rw [List.set_append_right _ _ (by omega), h1, Nat.sub_self, h2, List.replicate_succ, List.set_cons_zero, List.take_succ_eq_append_getElem (by omega), List.map_append, List.append_assoc]
  congr 1
  simp [crsC, List.getD_eq_getElem?_getD, List.getElem?_eq_getElem (show k < cs.length by omega)]
theorem cop2_at (cs : List Crs) (n k : Nat) (hl : cs.length = n) (hk : k < n) : (cop2 cs n k).getD k [] = [.string ByteArray.empty, .string ByteArray.empty] := by
  unfold cop2
  have h1 : ((cs.take k).map crsC).length = k := by simp; omega
  rw [List.getD_eq_getElem?_getD, List.getElem?_append_right (by omega), h1, Nat.sub_self, List.getElem?_replicate, if_pos (by omega)]
  rfl
set_option maxHeartbeats 800000 in
theorem l_toCourseS (ao : Option Addr) (n c : Nat) (cs : List Crs) (w : World) (hx : Crss w ao n cs) (hn : n ≤ 1048576) :
    Calls Try.prog 77 #[.slice ao n c] w (RetCrss cs w) := by
  obtain ⟨i0, hi, hz0, hz1, hz2⟩ := info_parts info_crs
  have hxl := hx.1
  go_enter Try.func77, Try.ntmps77
  go_wp2_with (at_make; refine wpList_make_full _ rfl _ _ 64 rfl w.heap.size 151 i0 (.agg #[.string ByteArray.empty, .string ByteArray.empty]) 2 Try.underlying64 hi hz0 hz1 _ _ _ _ n rfl rfl rfl rfl ?b2 ?b3 ?b4 ?_)
  case b2 => rw [hz2]; omega
  case b3 => unfold maxLen; omega
  case b4 => exact Nat.le_refl _
  intro w1 hown hgrow
  have e1 : Ext w w1 := Ext.grown (Ext.refl w) hgrow (by intro k h; cases h)
  clear hgrow
  have hown2 : OwnRecs 151 2 w1 w.heap.size (.slice (some ⟨w.heap.size, 0, none⟩) n n) (cop2 cs n 0) := by
    refine ⟨?_, fun r hr => ?_⟩
    · rw [cop2_len cs n 0 hxl (Nat.zero_le _)]
      have h2 := made2 (.string ByteArray.empty) (.string ByteArray.empty) n
      unfold cop2
      rw [Nat.sub_zero, List.take_zero, List.map_nil, List.nil_append, ← h2]
      exact hown
    · unfold cop2 at hr
      simp at hr
      rw [hr.2]; rfl
  clear hown
  go_wp2
  go_loopw [4] (fun i wr => ∃ k : Nat, k ≤ n ∧ i = .int .i64 k ∧ OwnRecs 151 2 wr w.heap.size (.slice (some ⟨w.heap.size, 0, none⟩) n n) (cop2 cs n k) ∧ Ext w wr) (fun i _ => n - (intOf i).toNat)
  case atStart => exact ⟨0, Nat.zero_le _, rfl, hown2, e1⟩
  case round =>
    obtain ⟨k, hk, rfl, ho, er⟩ := hrel
    clear hown2 e1
    by_cases hlt : k < n
    · obtain ⟨b, off, rfl, c0, c1⟩ := (hx.ext er).2.2.1 k hlt
      obtain ⟨x, hok⟩ : ∃ x, cs.getD k default = x := ⟨_, rfl⟩
      rw [hok] at c0 c1
      have HO := Lib.hid hok
      clear hok
      go_wp2_with (go_at_call 112; refine (l_toCourse _ _ _).mono ?_; rintro e w2 ⟨rfl, e2⟩; have ho2 := ho.ext e2; obtain ⟨d0, d1, f0, f1⟩ := ho2.reads2 k hlt (cop2_at cs n k hxl hlt))
      go_roundw
      case rel =>
        have s4 := ho2.put2 k hlt (.string x.lead) (.string x.cyc)
        have hc := cop2_succ cs n k hxl hlt
        rw [HO.out] at hc
        rw [hc] at s4
        refine ⟨k + 1, by omega, by go_num, s4, ?_⟩
        have er2 := er.trans e2
        repeat' (first | exact er2 | exact Nat.le_refl _ | refine Ext.setCell ?_ ?_ _)
      case measure => simp [intOf]; omega
    · go_wp2
      go_ret
      obtain rfl : k = n := by omega
      refine ⟨_, _, ret_slice hxl.symm, ⟨?_, hx.2.2.2⟩, er⟩
      have : cop2 cs k k = cs.map crsC := by unfold cop2; rw [Nat.sub_self, List.take_of_length_le (by omega)]; simp
      rw [this] at ho
      rw [hxl]
      exact ho
/-- what is left of a bound behind a course -/
def leftC1 (k : Int) (x : Crs) : Int := if k - x.lead.size < 0 then -1 else if k - x.lead.size - x.cyc.size < 0 then -1 else k - x.lead.size - x.cyc.size
def leftCs : Int → List Crs → Int
  | k, [] => k
  | k, x :: r => if leftC1 k x < 0 then -1 else leftCs (leftC1 k x) r
def leftB (k : Int) (nm : ByteArray) (n : Nat) (cs : List Crs) : Int := if k - nm.size < 0 then -1 else if k - nm.size - n < 0 then -1 else leftCs (k - nm.size - n) cs
theorem leftC1_bd {k : Int} {x : Crs} (h : ¬ leftC1 k x < 0) : (x.lead.size : Int) ≤ k ∧ (x.cyc.size : Int) ≤ k ∧ 0 ≤ leftC1 k x ∧ leftC1 k x ≤ k := by
  unfold leftC1 at *
  split at h
  · omega
  · split at h
    · omega
    · rename_i h1 h2
      rw [if_neg h1, if_neg h2]
      omega
theorem leftCs_small : ∀ (cs : List Crs) (k : Int), ¬ leftCs k cs < 0 → ∀ x ∈ cs, (x.lead.size : Int) ≤ k ∧ (x.cyc.size : Int) ≤ k
  | [], _, _, x, hx => by simp at hx
  | c :: r, k, h, x, hx => by
    unfold leftCs at h
    split at h
    · omega
    · rename_i h1
      obtain ⟨b1, b2, b3, b4⟩ := leftC1_bd h1
      rcases List.mem_cons.1 hx with rfl | hx
      · exact ⟨b1, b2⟩
      · have := leftCs_small r _ h x hx; omega
theorem leftCs_le : ∀ (cs : List Crs) (k : Int), leftCs k cs ≤ k ∨ leftCs k cs = -1
  | [], k => .inl (Int.le_refl _)
  | c :: r, k => by
    unfold leftCs
    split
    · exact .inr rfl
    · rename_i h1
      obtain ⟨b1, b2, b3, b4⟩ := leftC1_bd h1
      rcases leftCs_le r (leftC1 k c) with h | h
      · left; omega
      · exact .inr h
theorem leftCs_neg : ∀ (cs : List Crs) (k : Int), 0 ≤ k → leftCs k cs < 0 → leftCs k cs = -1
  | [], k, h, h2 => by unfold leftCs at h2; omega
  | c :: r, k, h, h2 => by
    unfold leftCs at h2 ⊢
    split
    · rfl
    · rename_i h1
      rw [if_neg h1] at h2
      exact leftCs_neg r _ (leftC1_bd h1).2.2.1 h2
theorem leftB_neg {k : Int} {nm : ByteArray} {n : Nat} {cs : List Crs} (h : leftB k nm n cs < 0) : leftB k nm n cs = -1 := by
  unfold leftB at *
  split
  · rfl
  · split
    · rfl
    · rename_i h1 h2
      rw [if_neg h1, if_neg h2] at h
      exact leftCs_neg cs _ (by omega) h
theorem leftB_small {k : Int} {nm : ByteArray} {n : Nat} {cs : List Crs} (h : ¬ leftB k nm n cs < 0) : (nm.size : Int) ≤ k ∧ (n : Int) ≤ k ∧ ∀ x ∈ cs, (x.lead.size : Int) ≤ k ∧ (x.cyc.size : Int) ≤ k := by
  unfold leftB at h
  split at h
  · omega
  · split at h
    · omega
    · refine ⟨by omega, by omega, fun x hx => ?_⟩
      have := leftCs_small cs _ h x hx
      omega
theorem leftB_le (k : Int) (nm : ByteArray) (n : Nat) (cs : List Crs) : leftB k nm n cs ≤ k ∨ leftB k nm n cs = -1 := by
  unfold leftB
  split
  · exact .inr rfl
  · split
    · exact .inr rfl
    · rcases leftCs_le cs (k - nm.size - n) with h | h
      · left; omega
      · exact .inr h
theorem l_szCourse (a b : ByteArray) (k : Int) (w : World) (ha : a.size ≤ 9223372036854775807) (hb : b.size ≤ 9223372036854775807) (k1 : 0 ≤ k) (k2 : k ≤ 1000000000) :
    Calls Try.prog 106 #[.agg #[.string a, .string b], .int .i64 k] w (RetE (.int .i64 (leftC1 k ⟨a, b⟩)) w) := by
  by_cases h1 : k - a.size < 0
  · have HV : Hid (leftC1 k ⟨a, b⟩ = -1) := Lib.hid (if_pos h1)
    go_enter Try.func106, Try.ntmps106
    go_wp2
    go_ret
    exact RetE.mk (int_eq HV.out.symm) ((Ext.refl w).alloc _)
  · by_cases h2 : k - a.size - b.size < 0
    · have HV : Hid (leftC1 k ⟨a, b⟩ = -1) := Lib.hid (by unfold leftC1; rw [if_neg h1, if_pos h2])
      go_enter Try.func106, Try.ntmps106
      go_wp2
      go_ret
      exact RetE.mk (int_eq HV.out.symm) ((Ext.refl w).alloc _)
    · have HV : Hid (leftC1 k ⟨a, b⟩ = k - a.size - b.size) := Lib.hid (by unfold leftC1; rw [if_neg h1, if_neg h2])
      go_enter Try.func106, Try.ntmps106
      go_wp2
      go_ret
      exact RetE.mk (int_eq HV.out.symm) ((Ext.refl w).alloc _)
set_option maxHeartbeats 800000 in
theorem l_szCourseS (ao : Option Addr) (n c : Nat) (cs : List Crs) (k : Int) (w : World) (hx : Crss w ao n cs) (k1 : 0 ≤ k) (k2 : k ≤ 1000000000) :
    Calls Try.prog 72 #[.slice ao n c, .int .i64 k] w (RetE (.int .i64 (if k - n < 0 then -1 else leftCs (k - n) cs)) w) := by
  obtain ⟨hxl, hxm, hxc, hxi⟩ := hx
  by_cases h : k - n < 0
  · rw [if_pos h]
    go_enter Try.func72, Try.ntmps72
    go_wp2
    go_ret
    exact RetE.mk rfl (Ext.refl _)
  · rw [if_neg h]
    go_enter Try.func72, Try.ntmps72
    go_wp2
    go_loopw [1, 5] (fun q i wr => ∃ (j : Nat) (kk : Int), j ≤ n ∧ i = .int .i64 j ∧ q = .int .i64 kk ∧ 0 ≤ kk ∧ kk ≤ k ∧ leftCs kk (cs.drop j) = leftCs (k - n) cs ∧ Ext w wr) (fun _ i _ => n - (intOf i).toNat)
    case atStart => exact ⟨0, k - n, Nat.zero_le _, rfl, rfl, by omega, by omega, rfl, Ext.refl _⟩
    case round =>
      obtain ⟨j, kk, hj, rfl, rfl, q1, q2, hg, er⟩ := hrel
      have HG := Lib.hid hg
      clear hg
      by_cases hlt : j < n
      · obtain ⟨b, off, rfl, hc, hc2⟩ := hxc j hlt
        have hjx : j < cs.length := by omega
        have hd : cs.drop j = cs.getD j default :: cs.drop (j + 1) := by
          rw [List.getD_eq_getElem?_getD, List.getElem?_eq_getElem hjx, Option.getD_some, List.getElem_cons_drop]
        have hs0 : (cs.getD j default).ok := by
          rw [List.getD_eq_getElem?_getD, List.getElem?_eq_getElem hjx]
          exact hxi _ (List.getElem_mem _)
        obtain ⟨x, hs⟩ : ∃ x, cs.getD j default = x := ⟨_, rfl⟩
        rw [hs] at hc hc2 hd hs0
        have HDR := Lib.hid hd
        have G0 := er.cell hc
        have G1 := er.cell hc2
        clear hd hs hxc hc hc2
        obtain ⟨xa, xb⟩ := x
        have hl1 := @leftC1_bd kk ⟨xa, xb⟩
        obtain ⟨y, hy⟩ : ∃ y, leftC1 kk ⟨xa, xb⟩ = y := ⟨_, rfl⟩
        have HSZ := Lib.hid (fun W => by have := l_szCourse xa xb kk W hs0.1 hs0.2 q1 (by omega); rw [hy] at this; exact this)
        rw [hy] at hl1
        have HY := Lib.hid hy
        clear hy
        by_cases hneg : y < 0
        · clear hl1
          go_wp2_with (go_at_call 106; refine (HSZ.out _).mono ?_; rintro e w2 ⟨rfl, e2⟩)
          go_ret
          refine RetE.mk (int_eq ?_) (er.trans e2)
          rw [← HG.out, HDR.out, leftCs, HY.out, if_pos hneg]
        · obtain ⟨_, _, u1, u2⟩ := hl1 hneg
          clear hl1
          go_wp2_with (go_at_call 106; refine (HSZ.out _).mono ?_; rintro e w2 ⟨rfl, e2⟩)
          go_roundw
          case rel =>
            refine ⟨j + 1, y, by omega, by go_num, rfl, by omega, by omega, ?_, er.trans e2⟩
            rw [← HG.out, HDR.out, leftCs, HY.out, if_neg (by omega)]
          case measure => simp [intOf]; omega
      · go_wp2
        go_ret
        refine RetE.mk (int_eq ?_) er
        rw [← HG.out, List.drop_of_length_le (by omega)]
        rfl
set_option maxHeartbeats 800000 in
theorem l_szBond (nm : ByteArray) (ao : Option Addr) (n c : Nat) (cs : List Crs) (k : Int) (w : World) (hn : nm.size ≤ 9223372036854775807) (hx : Crss w ao n cs) (k1 : 0 ≤ k) (k2 : k ≤ 1000000000) :
    Calls Try.prog 33 #[.agg #[.string nm, .slice ao n c], .int .i64 k] w (RetE (.int .i64 (leftB k nm n cs)) w) := by
  have e0 : Ext w (w.alloc (.cells #[.string nm, .slice ao n c] 61)) := (Ext.refl w).alloc _
  by_cases h : k - nm.size < 0
  · have HV : Hid (leftB k nm n cs = -1) := Lib.hid (if_pos h)
    clear hx
    go_enter Try.func33, Try.ntmps33
    go_wp2
    go_ret
    exact RetE.mk (int_eq HV.out.symm) e0
  · have hv : leftB k nm n cs = if k - nm.size - n < 0 then -1 else leftCs (k - nm.size - n) cs := if_neg h
    have HC := Lib.hid (l_szCourseS ao n c cs (k - nm.size) (w.alloc (.cells #[.string nm, .slice ao n c] 61)) (hx.ext e0) (by omega) (by omega))
    rw [← hv] at HC
    have hle := leftB_le k nm n cs
    have HN := Lib.hid (@leftB_neg k nm n cs)
    obtain ⟨y, hy⟩ : ∃ y, leftB k nm n cs = y := ⟨_, rfl⟩
    rw [hy] at HC HN hle ⊢
    clear hy hv hx
    by_cases hy0 : y < 0
    · go_enter Try.func33, Try.ntmps33
      go_wp2_with (go_at_call 72; refine HC.out.mono ?_; rintro e w2 ⟨rfl, e2⟩; have E2 := e0.trans e2)
      go_ret
      exact RetE.mk (int_eq (HN.out hy0).symm) E2
    · have hle2 : y ≤ k := by omega
      clear hle
      go_enter Try.func33, Try.ntmps33
      go_wp2_with (go_at_call 72; refine HC.out.mono ?_; rintro e w2 ⟨rfl, e2⟩; have E2 := e0.trans e2)
      go_ret
      exact RetE.mk rfl E2
/-- a bond is handed back, its courses in memory of the call's own -/
def RetBond (nm : ByteArray) (cs : List Crs) (w : World) (e : Ending) (w' : World) : Prop :=
  ∃ ao cap, e = .returned (.agg #[.string nm, .slice ao cs.length cap]) ∧ OwnCrss w' w.heap.size (.slice ao cs.length cap) cs ∧ Ext w w'
set_option maxHeartbeats 800000 in
theorem l_toBond (nm : ByteArray) (ao : Option Addr) (n c : Nat) (cs : List Crs) (w : World) (hx : Crss w ao n cs) (hn : n ≤ 1048576) :
    Calls Try.prog 35 #[.agg #[.string nm, .slice ao n c]] w (RetBond nm cs w) := by
  have hC := fun W e => l_toCourseS ao n c cs W (hx.ext e) hn
  go_enter Try.func35, Try.ntmps35
  go_wp2_with (go_at_call 77; refine (hC _ ((((Ext.refl w).alloc _).alloc _).alloc _)).mono ?_; rintro e w1 ⟨a1, c1, rfl, o1, e1⟩; obtain ⟨p0, p1, _, _, _⟩ := two_cells (e1.block (blk_old (blk_old (blk_at w _ _ rfl)))); obtain ⟨q0, q1, q2, q3, _⟩ := two_cells (e1.block (blk_old (blk_at (w.alloc _) _ (w.heap.size + 1) (by simp)))); obtain ⟨r0, r1, r2, r3, _⟩ := two_cells (e1.block (blk_at ((w.alloc _).alloc _) _ (w.heap.size + 1 + 1) (by simp))))
  have e0 : Ext w w1 := ((((Ext.refl w).alloc _).alloc _).alloc _).trans e1
  have hsz : ∀ x y z, (((w.alloc x).alloc y).alloc z).heap.size = w.heap.size + 1 + 1 + 1 := by intro x y z; simp
  rw [hsz] at o1
  refine bodyPost_ret (v := .agg #[.string nm, .slice a1 cs.length c1]) (by simp [results, Try.results35, go_sem, q0, q1, r0, r1]) rfl ⟨a1, c1, rfl, ?_, ?_⟩
  · refine OwnCrss.mono (base := w.heap.size + 1 + 1 + 1) ?_ (by omega)
    repeat' (first | exact o1 | (dsimp only; omega) | refine OwnCrss.setBelow ?_ ?_ _)
  · repeat' (first | exact e0 | (dsimp only; omega) | refine Ext.setCell ?_ ?_ _)
theorem crs_ne {os ps : List Crs} {k : Nat} (hk : k < os.length) (hk2 : k < ps.length) (h : ¬ os[k] = ps[k]) : decide (os = ps) = false := by
  rw [decide_eq_false_iff_not]; intro e; subst e; exact h rfl
set_option maxHeartbeats 800000 in
theorem l_eqCourseS (ao bo : Option Addr) (n m c d : Nat) (xs ys : List Crs) (w : World) (hx : Crss w ao n xs) (hy : Crss w bo m ys) :
    Calls Try.prog 81 #[.slice ao n c, .slice bo m d] w (RetE (.bool (decide (xs = ys))) w) := by
  obtain ⟨hxl, hxm, hxc, hxi⟩ := hx
  obtain ⟨hyl, hym, hyc, hyi⟩ := hy
  by_cases hnm : (n : Int) = m
  · have hnm2 : n = m := by omega
    clear hnm
    subst hnm2
    go_enter Try.func81, Try.ntmps81
    go_wp2
    go_loopw [5] (fun i wr => ∃ k : Nat, k ≤ n ∧ i = .int .i64 k ∧ xs.take k = ys.take k ∧ Ext w wr) (fun i _ => n - (intOf i).toNat)
    case atStart => exact ⟨0, Nat.zero_le _, rfl, by simp, Ext.refl _⟩
    case round =>
      obtain ⟨k, hk, rfl, htk, er⟩ := hrel
      have HT := Lib.hid htk; clear htk
      by_cases hlt : k < n
      · obtain ⟨b, off, rfl, c0, c1⟩ := hxc k hlt
        obtain ⟨b', off', rfl, d0, d1⟩ := hyc k (by omega)
        obtain ⟨x, hxk⟩ : ∃ x, xs.getD k default = x := ⟨_, rfl⟩
        obtain ⟨y, hyk⟩ : ∃ y, ys.getD k default = y := ⟨_, rfl⟩
        rw [hxk] at c0 c1
        rw [hyk] at d0 d1
        have hltm : (k : Int) < n := by omega
        have hkx : k < xs.length := by omega
        have hky : k < ys.length := by omega
        rw [List.getD_eq_getElem?_getD, List.getElem?_eq_getElem hkx, Option.getD_some] at hxk
        rw [List.getD_eq_getElem?_getD, List.getElem?_eq_getElem hky, Option.getD_some] at hyk
        have HX := Lib.hid hxk
        have HY := Lib.hid hyk
        obtain ⟨x1, x2⟩ := x
        obtain ⟨y1, y2⟩ := y
        have K : TwoS wr b (off + k * 2) x1 x2 := ⟨er.cell c0, er.cell c1⟩
        have L : TwoS wr b' (off' + k * 2) y1 y2 := ⟨er.cell d0, er.cell d1⟩
        clear c0 c1 d0 d1 hxc hyc hxk hyk
        have hE := fun W => l_eqCourse x1 x2 y1 y2 W
        by_cases he : (⟨x1, x2⟩ : Crs) = ⟨y1, y2⟩
        · have hd : decide ((⟨x1, x2⟩ : Crs) = ⟨y1, y2⟩) = true := by rw [decide_eq_true_eq]; exact he
          rw [hd] at hE
          have HE := Lib.hid hE
          have HEQ := Lib.hid he
          clear hE hd he
          go_wp2
          go_region_held3 (fun W => TwoS W b (off + k * 2) x1 x2 ∧ TwoS W b' (off' + k * 2) y1 y2 ∧ Ext wr W) (first | exact ⟨K.ext (Ext.refl _).drew, L.ext (Ext.refl _).drew, (Ext.refl _).drew⟩ | exact keepSS (by assumption) (by assumption)) (first | (go_at_call 120; refine (HE.out _).mono ?_; rintro e w' ⟨rfl, e'⟩))
          have hfin := er.trans (heldSS (by assumption))
          go_wp2
          go_roundw
          case rel =>
            have hT : xs.take (k + 1) = ys.take (k + 1) := by rw [List.take_succ_eq_append_getElem hkx, List.take_succ_eq_append_getElem hky, HT.out, HX.out, HY.out, HEQ.out]
            first | exact ⟨k + 1, by omega, by go_num, hT, hfin⟩ | ((repeat apply Exists.intro); exact ⟨⟨k + 1, by omega, by go_num, hT, hfin⟩, rfl⟩)
          case measure => simp [intOf]; omega
        · have hd : decide ((⟨x1, x2⟩ : Crs) = ⟨y1, y2⟩) = false := by rw [decide_eq_false_iff_not]; exact he
          rw [hd] at hE
          have HE := Lib.hid hE
          have hne : decide (xs = ys) = false := crs_ne hkx hky (by rw [HX.out, HY.out]; exact he)
          have HN := Lib.hid hne
          clear hE hd he hne
          go_wp2
          go_region_held3 (fun W => TwoS W b (off + k * 2) x1 x2 ∧ TwoS W b' (off' + k * 2) y1 y2 ∧ Ext wr W) (first | exact ⟨K.ext (Ext.refl _).drew, L.ext (Ext.refl _).drew, (Ext.refl _).drew⟩ | exact keepSS (by assumption) (by assumption)) (first | (go_at_call 120; refine (HE.out _).mono ?_; rintro e w' ⟨rfl, e'⟩))
          have hfin := er.trans (heldSS (by assumption))
          go_wp2
          go_ret
          exact RetE.mk (bool_eq HN.out.symm) hfin
      · go_wp2
        go_ret
        have h := HT.out
        rw [List.take_of_length_le (by omega), List.take_of_length_le (by omega)] at h
        exact RetE.mk (bool_eq (by simp [h])) er
  · have hne : decide (xs = ys) = false := by
      rw [decide_eq_false_iff_not]; intro h; subst h; omega
    have HN := Lib.hid hne
    clear hne
    go_enter Try.func81, Try.ntmps81
    go_wp2
    go_ret
    exact RetE.mk (bool_eq HN.out.symm) (Ext.refl _)
set_option maxHeartbeats 800000 in
theorem l_eqBond (nm : ByteArray) (ao bo : Option Addr) (n c d : Nat) (cs : List Crs) (w : World) (hx : Crss w ao n cs) (hy : Crss w bo n cs) :
    Calls Try.prog 37 #[.agg #[.string nm, .slice ao n c], .agg #[.string nm, .slice bo n d]] w (RetE (.bool true) w) := by
  have hC := fun W (e : Ext w W) => (show Calls Try.prog 81 #[.slice ao n c, .slice bo n d] W (RetE (.bool true) W) from by have := l_eqCourseS ao bo n n c d cs cs W (hx.ext e) (hy.ext e); rwa [show decide (cs = cs) = true by simp] at this)
  go_enter Try.func37, Try.ntmps37
  go_wp2_with (go_at_call 81; refine (hC _ (((Ext.refl w).alloc _).alloc _)).mono ?_; rintro e w1 ⟨rfl, e1⟩)
  go_ret
  exact RetE.mk rfl ((((Ext.refl w).alloc _).alloc _).trans e1)
end Go.Proofs.Ytnhmcmohnpbcjaa
