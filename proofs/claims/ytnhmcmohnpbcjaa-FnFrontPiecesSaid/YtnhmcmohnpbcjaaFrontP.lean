/- The parts of a course: the program's side. -/
import Derived.Test.YtnhmcmohnpbcjaaGaPart
import Derived.Test.YtnhmcmohnpbcjaaGaFv
import Derived.Test.YtnhmcmohnpbcjaaRecs
import Derived.Test.YtnhmcmohnpbcjaaGaStrs
import Derived.Shelf.Abstract
import Derived.Outline
import Derived.OneCell
namespace Go.Proofs.Ytnhmcmohnpbcjaa
open Go.RowKit
set_option linter.unusedSimpArgs false
set_option linter.unusedVariables false
set_option linter.unnecessarySimpa false

def partC (p : Int × Int) : List Value := [.int .i64 p.1, .int .i64 p.2]
theorem partC_len (ps : List (Int × Int)) : ∀ r ∈ ps.map partC, r.length = 2 := fun r hr => by
  obtain ⟨p, _, rfl⟩ := List.mem_map.1 hr
  rfl
/-- a row of parts that the call owns -/
def OwnParts (w : World) (base : Nat) (v : Value) (ps : List (Int × Int)) : Prop := w.ownsRow base 51 2 v ps.length (ps.flatMap partC)
theorem OwnParts.ext {w w' : World} {base : Nat} {v : Value} {ps : List (Int × Int)} (h : OwnParts w base v ps) (e : Ext w w') : OwnParts w' base v ps := ownsRow_ext h e
theorem OwnParts.setBelow {w : World} {base : Nat} {v : Value} {ps : List (Int × Int)} (h : OwnParts w base v ps) {a : Addr} (ha : a.block < base) (u : Value) : OwnParts (w.setCell a u) base v ps := ownsRow_setCell_below h ha u
theorem OwnParts.mono {w : World} {base base' : Nat} {v : Value} {xs : List (Int × Int)} (h : OwnParts w base v xs) (hb : base' ≤ base) : OwnParts w base' v xs := by
  obtain ⟨h1, h2⟩ := h
  refine ⟨h1, ?_⟩
  rcases h2 with h2 | ⟨g, cap, cur, hv, hg, r⟩
  · exact .inl h2
  · exact .inr ⟨g, cap, cur, hv, by omega, r⟩
theorem OwnParts.empty {W w : World} (base : Nat) (h : base ≤ w.heap.size) : OwnParts (w.alloc (.cells #[] 51)) base (.slice (some ⟨w.heap.size, 0, none⟩) 0 0) [] :=
  World.ownsRow_made w #[] 0 h (by unfold maxLen; omega) rfl
theorem info_part : (Try.prog.info? 51).map (fun i => (i.zero, i.size, i.bytes)) = some (some (.agg #[.int .i64 0, .int .i64 0]), 2, 16) := by kernel_rfl
/-- blocks other than one, and than a row, are as they were -/
def Kept (po : Nat) (row : Option Nat) (w w' : World) : Prop := w.heap.size ≤ w'.heap.size ∧ ∀ k, k < w.heap.size → k ≠ po → some k ≠ row → w'.heap[k]? = w.heap[k]?
theorem Kept.cell {po : Nat} {row : Option Nat} {w w' : World} (h : Kept po row w w') {p : Addr} {u : Value} (hp : w.cell? p = some u) (h1 : p.block ≠ po) (h2 : some p.block ≠ row) : w'.cell? p = some u :=
  (World.cell?_of_block (h.2 p.block (World.block_lt_of_cell? w p hp) h1 h2)).trans hp
theorem Kept.frozen {po : Nat} {row : Option Nat} {w w' : World} (h : Kept po row w w') {p : Addr} (hp : p.block < w.heap.size) (h1 : p.block ≠ po) (h2 : some p.block ≠ row) : w'.frozen? p = w.frozen? p :=
  World.frozen?_of_block (h.2 p.block hp h1 h2)
theorem owns_slice {w : World} {base : Nat} {E : TypeId} {size n : Nat} {v : Value} {xs : List Value} (h : w.ownsRow base E size v n xs) : ∃ a m c, v = .slice a m c := by
  rcases h.2 with ⟨rfl, _⟩ | ⟨g, cap, cur, rfl, _⟩
  · exact ⟨_, _, _, rfl⟩
  · exact ⟨_, _, _, rfl⟩
/-- a block of another type is not the row's -/
theorem owns_ne {w : World} {base : Nat} {E T : TypeId} {size n k : Nat} {v : Value} {xs : List Value} {cur : Array Value} {m : Nat × Nat} (h : w.ownsRow base E size v n xs) (hk : w.heap[k]? = some (.cells cur T m)) (hT : T ≠ E) : some k ≠ v.ownBlock := by
  intro e
  rcases h.2 with ⟨rfl, _⟩ | ⟨g, cap, c2, rfl, _, hg, _⟩
  · simp [Value.ownBlock] at e
  · simp only [Value.ownBlock, Option.some.injEq] at e
    subst e
    rw [hk] at hg
    simp only [Option.some.injEq, Obj.cells.injEq] at hg
    exact hT hg.2.1
theorem Kept.blk {po : Nat} {row : Option Nat} {w w' : World} (h : Kept po row w w') {k : Nat} {o : Obj} (hk : w.heap[k]? = some o) (h1 : k ≠ po) (h2 : some k ≠ row) : w'.heap[k]? = some o := (h.2 k (lt_of_block hk) h1 h2).trans hk
theorem OwnParts.other {w : World} {base : Nat} {v : Value} {ps : List (Int × Int)} (h : OwnParts w base v ps) {k : Nat} {cur : Array Value} {T : TypeId} {m : Nat × Nat} (hk : w.heap[k]? = some (.cells cur T m)) (hT : T ≠ 51) (u : Value) : OwnParts (w.setCell ⟨k, 0, none⟩ u) base v ps :=
  ownsRow_setCell_other (w := w) h (fun j hj e => owns_ne h hk hT (by rw [hj]; exact congrArg some e)) u
theorem two_one (f y : Int) : ∀ u ∈ [Value.int .i64 f, Value.int .i64 y], u.oneCell' = true := by
  intro u hu
  simp at hu
  rcases hu with rfl | rfl <;> rfl
def AddsPart (base po : Nat) (w : World) (v : Value) (ps : List (Int × Int)) (e : Ending) (w' : World) : Prop :=
  e = .returned (.tuple #[]) ∧ ∃ v', w'.heap[po]? = some (.cells #[v'] 47 (0, 0)) ∧ OwnParts w' base v' ps ∧ Kept po v.ownBlock w w' ∧ Below base w w'
theorem AddsPart.blk {base po : Nat} {w w' : World} {v : Value} {ps : List (Int × Int)} (h : Kept po v.ownBlock w w') (ho : OwnParts w base v ps) {k : Nat} {cur : Array Value} {T : TypeId} {m : Nat × Nat} (hk : w.heap[k]? = some (.cells cur T m)) (hT : T ≠ 51) (h1 : k ≠ po) : w'.heap[k]? = some (.cells cur T m) :=
  h.blk hk h1 (owns_ne ho hk hT)
theorem pS_ne : (47 : TypeId) ≠ 51 := by decide
set_option maxHeartbeats 1600000 in
theorem i_partsOf_1 (base : Nat) (y f : Int) (pf po : Nat) (v : Value) (ps : List (Int × Int)) (w : World) (hf : w.cell? ⟨pf, 0, none⟩ = some (.int .i64 f)) (ho : w.heap[po]? = some (.cells #[v] 47 (0, 0)))
    (hown : OwnParts w base v ps) (hb : base ≤ po) (hlen : ps.length ≤ 1000) :
    Calls Try.prog 102 #[.int .i64 y, .pointer (some ⟨pf, 0, none⟩), .pointer (some ⟨po, 0, none⟩)] w (AddsPart base po w v (addI (f, ps) y)) := by
  have hob : po < w.heap.size := lt_of_block ho
  have HOB := Lib.hid ho
  have hoc := cell_of_one ho
  have HO := Lib.hid hown
  clear ho hown
  by_cases h : f < y
  · obtain ⟨i0, hi, hz0, hz1, hz2⟩ := info_parts info_part
    have HA : Hid (addI (f, ps) y = ps ++ [(f, y)]) := Lib.hid (by unfold addI; rw [if_pos h])
    have HC3 : Hid (ps.length + 1 ≤ maxLen) := Lib.hid (by unfold maxLen; omega)
    have HC4 : Hid ((ps.length + 1) * 16 ≤ 140737488355328) := Lib.hid (by omega)
    have HC5 : Hid (base ≤ (w.alloc (.cells #[.int .i64 f, .int .i64 y] 51)).heap.size) := Lib.hid (by simp; omega)
    go_enter Try.func102, Try.ntmps102
    go_wp2_with (at_builtin; refine wpList_append_own _ rfl (.tmp 7) (.tmp 11) 47 rfl base 51 i0 (.agg #[.int .i64 0, .int .i64 0]) 2 16 Try.underlying47 hi hz0 hz1 hz2 rfl (by decide) v ps.length (ps.flatMap partC) rfl (HO.out.alloc _) ⟨w.heap.size, 0, none⟩ 1 1 [.int .i64 f, .int .i64 y] rfl rfl (cells_new w [.int .i64 f, .int .i64 y] 51) (two_one f y) HC3.out HC4.out HC5.out ?_)
    intro v' w1 hown1 hg _
    have hk1 : ∀ k, v.ownBlock = some k → base ≤ k ∧ k < w.heap.size := fun k hk => World.ownsRow.lt HO.out k hk
    have hne : some po ≠ v.ownBlock := owns_ne HO.out HOB.out pS_ne
    have hb1 : w1.heap[po]? = some (.cells #[v] 47 (0, 0)) := by
      rw [hg.block po (by simp; omega) hne, Below.heap_alloc w _ po hob]
      exact HOB.out
    have ho1 := cell_of_one hb1
    have hfr1 := free_of_one hb1
    have HB1 := Lib.hid hb1
    have HB : Hid (Below base w w1) := Lib.hid ((Below.refl base w).alloc (by omega) (.cells #[.int .i64 f, .int .i64 y] 51) |>.grown hg (by simp; omega) (fun k hk => by have := hk1 k hk; omega))
    have HK : Hid (Kept po v.ownBlock w w1) := Lib.hid ⟨by have := hg.size; simp at this; omega, fun k hk h1 h2 => by rw [hg.block k (by simp; omega) h2, Below.heap_alloc w _ k hk]⟩
    have HW := Lib.hid hown1
    obtain ⟨a', n', c', rfl⟩ := owns_slice hown1
    clear hg hown1 hne hk1 hb1
    go_wp2
    go_end0
    refine ⟨rfl, .slice a' n' c', one_setCell HB1.out, ?_, ⟨by have := HK.out.1; simpa using this, fun k hk h1 h2 => by rw [Below.heap_setCell _ _ _ _ h1]; exact HK.out.2 k hk h1 h2⟩, HB.out.setCell hb _⟩
    rw [HA.out]
    refine OwnParts.other ?_ HB1.out pS_ne _
    unfold OwnParts
    rw [List.flatMap_append, List.length_append]
    exact HW.out
  · have HA : Hid (addI (f, ps) y = ps) := Lib.hid (by unfold addI; rw [if_neg h])
    go_enter Try.func102, Try.ntmps102
    go_wp2
    go_end0
    exact ⟨rfl, v, HOB.out, by rw [HA.out]; exact HO.out, ⟨Nat.le_refl _, fun _ _ _ _ => rfl⟩, Below.refl _ _⟩
theorem stI_num (c : Int) (os : List Opn) (k : Nat) : (stI c os k).2.length ≤ k := by
  unfold stI
  have h : ∀ (l : List Opn) (st : Int × List (Int × Int)), (l.foldl gI st).2.length ≤ st.2.length + l.length := by
    intro l
    induction l with
    | nil => intro st; simp
    | cons o r ih =>
      intro st
      have := ih (gI st o)
      rw [List.foldl_cons, List.length_cons]
      have h2 : (gI st o).2.length ≤ st.2.length + 1 := by
        unfold gI addI
        simp only []
        split
        · simp
        · omega
      omega
  have h1 := h ((os.take k).filter (inC c)) (0, [])
  have h2 := List.length_filter_le (inC c) (os.take k)
  have h3 := List.length_take_le k os
  simp only [List.length_nil] at h1
  omega
theorem enters_partsOf1 : ∀ args w, (callFunc 102 args).run Try.prog w = .ok (.enter 102 args) w := enters_of Try.func102 (by kernel_rfl) rfl
/-- parts are handed back -/
def RetParts (ps : List (Int × Int)) (w : World) (e : Ending) (w' : World) : Prop := ∃ ao cap, e = .returned (.slice ao ps.length cap) ∧ OwnParts w' w.heap.size (.slice ao ps.length cap) ps ∧ Ext w w'
theorem OwnParts.len {w : World} {base n c : Nat} {ao : Option Addr} {ps : List (Int × Int)} (h : OwnParts w base (.slice ao n c) ps) : ps.length = n := by
  rcases h.2 with ⟨hv, h0⟩ | ⟨g, cap, cur, hv, _⟩
  · simp only [Value.slice.injEq] at hv; omega
  · simp only [Value.slice.injEq] at hv; exact hv.2.1.symm
theorem RetParts.of_own {ps : List (Int × Int)} {w w' : World} {v : Value} (h : OwnParts w' w.heap.size v ps) (e : Ext w w') : RetParts ps w (.returned v) w' := by
  obtain ⟨a, m, c, rfl⟩ := owns_slice h
  obtain rfl := h.len
  exact ⟨a, c, rfl, h, e⟩
set_option maxRecDepth 100000 in
set_option maxHeartbeats 4000000 in
theorem i_partsOf (L C : Int) (ao : Option Addr) (n c : Nat) (os : List Opn) (q : Int) (w : World) (hx : Opens w ao n os) (n8 : n ≤ 8) :
    Calls Try.prog 66 #[.agg #[.int .i64 L, .int .i64 C, .slice ao n c], .int .i64 q] w (RetParts (partsI L q os) w) := by
  have hxl := hx.1
  have HP : Hid (partsI L q os = addI (stI q os n) L) := Lib.hid (by unfold partsI; rw [hxl])
  have HS := Lib.hid (fun k (h : k < os.length) => stI_succ (c := q) h)
  have HNum := Lib.hid (fun k => stI_num q os k)
  have HX := Lib.hid hx
  have HL := Lib.hid hxl
  have hen := enters_partsOf1
  have HB0 : Hid (((((w.alloc (.cells #[.int .i64 L, .int .i64 C, .slice ao n c] 30)).alloc (.cells #[] 51)).alloc (.cells #[.slice (some ⟨w.heap.size + 1, 0, none⟩) 0 0] 47)).alloc (.cells #[.int .i64 0] 2)).heap[w.heap.size]? = some (.cells #[.int .i64 L, .int .i64 C, .slice ao n c] 30)) := Lib.hid (blk_old (blk_old (blk_old (blk_at w _ _ rfl))))
  have HB2 : Hid (((((w.alloc (.cells #[.int .i64 L, .int .i64 C, .slice ao n c] 30)).alloc (.cells #[] 51)).alloc (.cells #[.slice (some ⟨w.heap.size + 1, 0, none⟩) 0 0] 47)).alloc (.cells #[.int .i64 0] 2)).heap[w.heap.size + 1 + 1]? = some (.cells #[.slice (some ⟨w.heap.size + 1, 0, none⟩) 0 0] 47)) := Lib.hid (blk_old (blk_at _ _ _ (by simp)))
  have HB3 : Hid (((((w.alloc (.cells #[.int .i64 L, .int .i64 C, .slice ao n c] 30)).alloc (.cells #[] 51)).alloc (.cells #[.slice (some ⟨w.heap.size + 1, 0, none⟩) 0 0] 47)).alloc (.cells #[.int .i64 0] 2)).heap[w.heap.size + 1 + 1 + 1]? = some (.cells #[.int .i64 0] 2)) := Lib.hid (blk_at _ _ _ (by simp))
  have HOw : Hid (OwnParts ((((w.alloc (.cells #[.int .i64 L, .int .i64 C, .slice ao n c] 30)).alloc (.cells #[] 51)).alloc (.cells #[.slice (some ⟨w.heap.size + 1, 0, none⟩) 0 0] 47)).alloc (.cells #[.int .i64 0] 2)) w.heap.size (.slice (some ⟨w.heap.size + 1, 0, none⟩) 0 0) []) := Lib.hid (by
    have h := OwnParts.empty (W := w) (w := w.alloc (.cells #[.int .i64 L, .int .i64 C, .slice ao n c] 30)) w.heap.size (by simp)
    rw [World.size_alloc] at h
    exact (h.ext ((Ext.refl _).alloc _)).ext ((Ext.refl _).alloc _))
  have HE0 : Hid (Ext w ((((w.alloc (.cells #[.int .i64 L, .int .i64 C, .slice ao n c] 30)).alloc (.cells #[] 51)).alloc (.cells #[.slice (some ⟨w.heap.size + 1, 0, none⟩) 0 0] 47)).alloc (.cells #[.int .i64 0] 2))) := Lib.hid ((((Ext.refl w).alloc _).alloc _).alloc _ |>.alloc _)
  clear hx hxl
  go_enter Try.func66, Try.ntmps66
  go_wp2
  go_loopw [15] (fun i wr => ∃ (k : Nat) (v : Value) (f : Int) (ps : List (Int × Int)), k ≤ n ∧ i = .int .i64 k ∧ Hid (wr.heap[w.heap.size]? = some (.cells #[.int .i64 L, .int .i64 C, .slice ao n c] 30 (0, 0))) ∧ Hid (wr.heap[w.heap.size + 1 + 1]? = some (.cells #[v] 47 (0, 0))) ∧ Hid (wr.heap[w.heap.size + 1 + 1 + 1]? = some (.cells #[.int .i64 f] 2 (0, 0))) ∧ Hid (OwnParts wr w.heap.size v ps) ∧ Hid (stI q os k = (f, ps)) ∧ Hid (Ext w wr)) (fun i _ => n - (intOf i).toNat)
  case atStart => exact ⟨0, _, 0, [], Nat.zero_le _, rfl, HB0, HB2, HB3, HOw, Lib.hid rfl, HE0⟩
  case round =>
    obtain ⟨k, v, f, ps, hk, rfl, HB, HV, HF, HO, HS2, HE⟩ := hrel
    clear HB0 HB2 HB3 HOw HE0
    have hpl : ps.length ≤ 8 := by have h := HNum.out k; rw [HS2.out] at h; simp only [] at h; omega
    by_cases hlt : k < n
    · obtain ⟨bb, off, rfl, d0, d1, d2, d3⟩ := (HX.out.ext HE.out).2.2.1 k hlt
      have hs := HS.out k (by have := HL.out; omega)
      obtain ⟨x, hxk⟩ : ∃ x, os.getD k default = x := ⟨_, rfl⟩
      rw [hxk] at d0 d1 d2 d3 hs
      rw [HS2.out] at hs
      obtain ⟨x1, x2, x3, x4⟩ := x
      have K : Four wr bb (off + k * 4) x1 x2 x3 x4 := ⟨d0, d1, d2, d3⟩
      obtain ⟨K0, K1, K2, K3⟩ := K
      have hsz := lt_of_block HF.out
      have HFc := Lib.hid (cell_of_one (blk_old (o := .cells #[.int .i64 x1, .int .i64 x2, .int .i64 x3, .int .i64 x4] 34) HF.out))
      have HBX : Hid ((wr.alloc (.cells #[.int .i64 x1, .int .i64 x2, .int .i64 x3, .int .i64 x4] 34)).heap[wr.heap.size]? = some (.cells #[.int .i64 x1, .int .i64 x2, .int .i64 x3, .int .i64 x4] 34)) := Lib.hid (blk_at _ _ _ rfl)
      have HO2 := Lib.hid (HO.out.ext ((Ext.refl wr).alloc (.cells #[.int .i64 x1, .int .i64 x2, .int .i64 x3, .int .i64 x4] 34)))
      have HE2 := Lib.hid (HE.out.alloc (.cells #[.int .i64 x1, .int .i64 x2, .int .i64 x3, .int .i64 x4] 34))
      have HC := Lib.hid (i_partsOf_1 w.heap.size x1 f (w.heap.size + 1 + 1 + 1) (w.heap.size + 1 + 1) v ps _ HFc.out (blk_old HV.out) HO2.out (by omega) (by omega))
      have HSN := Lib.hid hs
      clear d0 d1 d2 d3 hxk hs
      by_cases hin : x3 ≤ q ∧ q < x4
      · have HS3 : Hid (stI q os (k + 1) = (x2, addI (f, ps) x1)) := Lib.hid (by rw [HSN.out, if_pos (by unfold inC; simp [hin])]; rfl)
        obtain ⟨h1, h2⟩ := hin
        go_wp2_with fail
        refine HC.out.mono ?_
        rintro e w3 ⟨rfl, v', b1, b2, b3, b4⟩
        have hbx := AddsPart.blk b3 HO2.out HBX.out (by decide) (by omega)
        have hfb := AddsPart.blk b3 HO2.out (blk_old HF.out) (by decide) (by omega)
        have h0b := AddsPart.blk b3 HO2.out (blk_old HB.out) (by decide) (by omega)
        have e9 : w3.cell? ⟨wr.heap.size, 1, none⟩ = some (.int .i64 x2) := by (simp [World.cell?, hbx])
        have hfc := cell_of_one hfb
        have hff := free_of_one hfb
        have HFB := Lib.hid hfb
        have H0B := Lib.hid h0b
        have B1 := Lib.hid b1
        have B2 := Lib.hid b2
        have B4 := Lib.hid b4
        clear hbx hfb h0b b1 b2 b3 b4
        go_wp2
        go_roundw
        case rel =>
          have r0 := Lib.hid ((Below.heap_setCell w3 ⟨w.heap.size + 1 + 1 + 1, 0, none⟩ (.int .i64 x2) w.heap.size (by dsimp only; omega)).trans H0B.out)
          have r1 := Lib.hid ((Below.heap_setCell w3 ⟨w.heap.size + 1 + 1 + 1, 0, none⟩ (.int .i64 x2) (w.heap.size + 1 + 1) (by dsimp only; omega)).trans B1.out)
          have r2 := Lib.hid (one_setCell (u := .int .i64 x2) HFB.out)
          have r3 := Lib.hid (OwnParts.other B2.out HFB.out (by decide) (.int .i64 x2))
          have r4 := Lib.hid (((Below.trans HE2.out B4.out : Ext w w3).setCell (p := ⟨w.heap.size + 1 + 1 + 1, 0, none⟩) (by simp; omega) (.int .i64 x2)))
          first | exact ⟨k + 1, v', x2, _, by omega, by go_num, r0, r1, r2, r3, HS3, r4⟩ | ((repeat apply Exists.intro); exact ⟨⟨k + 1, v', x2, _, by omega, by go_num, r0, r1, r2, r3, HS3, r4⟩, rfl⟩)
        case measure => simp [intOf]; omega
      · have HS3 : Hid (stI q os (k + 1) = (f, ps)) := Lib.hid (by rw [HSN.out, if_neg (by unfold inC; simp only [Bool.and_eq_true, decide_eq_true_eq]; exact hin)])
        have r0 := Lib.hid (blk_old (o := .cells #[.int .i64 x1, .int .i64 x2, .int .i64 x3, .int .i64 x4] 34) HB.out)
        have r1 := Lib.hid (blk_old (o := .cells #[.int .i64 x1, .int .i64 x2, .int .i64 x3, .int .i64 x4] 34) HV.out)
        have r2 := Lib.hid (blk_old (o := .cells #[.int .i64 x1, .int .i64 x2, .int .i64 x3, .int .i64 x4] 34) HF.out)
        by_cases h1 : x3 ≤ q
        · have h2 : ¬ q < x4 := fun h => hin ⟨h1, h⟩
          clear hin
          go_wp2
          go_roundw
          case rel => first | exact ⟨k + 1, v, f, ps, by omega, by go_num, r0, r1, r2, HO2, HS3, HE2⟩ | ((repeat apply Exists.intro); exact ⟨⟨k + 1, v, f, ps, by omega, by go_num, r0, r1, r2, HO2, HS3, HE2⟩, rfl⟩)
          case measure => simp [intOf]; omega
        · clear hin
          go_wp2
          go_roundw
          case rel => first | exact ⟨k + 1, v, f, ps, by omega, by go_num, r0, r1, r2, HO2, HS3, HE2⟩ | ((repeat apply Exists.intro); exact ⟨⟨k + 1, v, f, ps, by omega, by go_num, r0, r1, r2, HO2, HS3, HE2⟩, rfl⟩)
          case measure => simp [intOf]; omega
    · obtain rfl : k = n := by omega
      have HC := Lib.hid (i_partsOf_1 w.heap.size L f (w.heap.size + 1 + 1 + 1) (w.heap.size + 1 + 1) v ps _ (cell_of_one HF.out) HV.out HO.out (by omega) (by omega))
      obtain ⟨c0, c1, c2, _⟩ := three_cells HB.out
      go_wp2_with (refine HC.out.mono ?_; rintro e w3 ⟨rfl, v', b1, b2, b3, b4⟩; have hv := cell_of_one b1; have B2 := Lib.hid b2; have B4 := Lib.hid b4; obtain ⟨a', n', c', rfl⟩ := owns_slice b2; clear b1 b2 b3 b4)
      go_ret
      refine RetParts.of_own ?_ (Below.trans HE.out B4.out)
      rw [HP.out, HS2.out]
      exact B2.out
end Go.Proofs.Ytnhmcmohnpbcjaa
