/- The program's best course: the walk (under way). -/
import Derived.Test.YtehcmocknmfhcaaBestI0
import Derived.Test.YtehcmocknmfhcaaBestS
import Derived.Deep.OwnRows
import Derived.RegionTactic
import Derived.BigRegion
import Derived.Deep.DeepCutAuto
import Derived.Outline
namespace Go.Proofs.Ytehcmocknmfhcaa
open Go.RowKit
set_option linter.unusedSimpArgs false
set_option linter.unusedVariables false
set_option linter.unnecessarySimpa false

theorem info_cost : (Try.prog.info? 123).map (fun i => (i.zero, i.size, i.bytes)) = some (some (.agg #[.int .i64 0, .int .i64 0]), 2, 16) := by kernel_rfl
theorem info_bool : (Try.prog.info? 4).map (fun i => (i.zero, i.size, i.bytes)) = some (some (.bool false), 1, 1) := by kernel_rfl
/-- a new row, whatever its elements -/
theorem run_make_any {P : Program} (t e : TypeId) (z : Value) (size bytes : Nat) (ht : P.underlying t = some (.slice e)) (hinfo : (P.info? e).map (fun i => (i.zero, i.size, i.bytes)) = some (some z, size, bytes)) (n : Nat) (x : Int) (hx : x = n) (hb : bytes * n ≤ 281474976710656) (h63 : n ≤ 9223372036854775807) (w : World) :
    (Instr.makeSlice t (.int .i64 x) (.int .i64 x)).run P w = .ok (.slice (some ⟨w.heap.size, 0, none⟩) n n) (w.alloc (.cells (madeCells z.cells (n * size)) e)) := by
  subst hx
  obtain ⟨i, hi, hzz⟩ := Option.map_eq_some_iff.1 hinfo
  simp only [Prod.mk.injEq] at hzz
  obtain ⟨hz, hs, hb'⟩ := hzz
  have hbb : (i.bytes : Int) * (n : Int) ≤ 281474976710656 := by
    have h : ((i.bytes * n : Nat) : Int) ≤ 281474976710656 := by rw [hb']; omega
    rwa [Int.natCast_mul] at h
  have hr := run_make (P := P) w t e i z ht hi hz .i64 .i64 n n (by omega) (Int.le_refl _) hbb (by omega)
  simp only [Int.toNat_natCast, hs] at hr
  exact hr
theorem flat_one {α : Type} (f : α → Value) : ∀ (l : List α), (l.map fun x => [f x]).flatten = l.map f
  | [] => rfl
  | x :: l => by rw [List.map_cons, List.flatten_cons, flat_one f l]; rfl
theorem OwnRecs.reads1 {E : TypeId} {w : World} {base g n cap : Nat} {rs : List (List Value)} (h : OwnRecs E 1 w base (.slice (some ⟨g, 0, none⟩) n cap) rs) (j : Nat) (hj : j < n) {a : Value} (hr : rs.getD j [] = [a]) :
    w.cell? ⟨g, j, none⟩ = some a ∧ w.frozen? ⟨g, j, none⟩ = false := by
  have h0 := h.reads j 0 hj (by omega) a (by rw [hr]; rfl)
  rw [Nat.mul_one] at h0
  exact h0
theorem one_list {l : List Value} (h : l.length = 1) (a : Value) : l.set 0 a = [a] := by
  match l, h with
  | [x], _ => rfl
theorem OwnRecs.put1 {E : TypeId} {w : World} {base g n cap : Nat} {rs : List (List Value)} (h : OwnRecs E 1 w base (.slice (some ⟨g, 0, none⟩) n cap) rs) (j : Nat) (hj : j < n) (a : Value) :
    OwnRecs E 1 (w.setCell ⟨g, j, none⟩ a) base (.slice (some ⟨g, 0, none⟩) n cap) (rs.set j [a]) := by
  have hl := h.len
  have h3 := h.put j 0 hj (by omega) a
  rw [one_list (flat_split rs h.2 j (by omega)).2.2, Nat.mul_one] at h3
  exact h3
/-- a cell of another block is written -/
theorem OwnRecs.other {E : TypeId} {k : Nat} {w : World} {base g n cap : Nat} {rs : List (List Value)} (h : OwnRecs E k w base (.slice (some ⟨g, 0, none⟩) n cap) rs) {a : Addr} (ha : a.block ≠ g) (u : Value) : OwnRecs E k (w.setCell a u) base (.slice (some ⟨g, 0, none⟩) n cap) rs :=
  ⟨ownsRow_setCell_other h.1 (fun b hb => by simp [Value.ownBlock] at hb; omega) u, h.2⟩
/-- the best of the first k letters, as the program takes them -/
def order4 : List UInt8 := [67, 72, 83, 84]
def nowI (ok : Int → Bool) (L : Int) (d k : Nat) : Option Rw := (order4.take k).foldl (fun now b => pickBy ltI now (cand ok L (d + 1) (rowsT ok L d) b)) none
theorem nowI_zero (ok : Int → Bool) (L : Int) (d : Nat) : nowI ok L d 0 = none := rfl
theorem nowI_succ (ok : Int → Bool) (L : Int) (d k : Nat) (hk : k < 4) : nowI ok L d (k + 1) = pickBy ltI (nowI ok L d k) (cand ok L (d + 1) (rowsT ok L d) (order4.getD k 0)) := by
  unfold nowI
  rw [List.take_succ_eq_append_getElem (show k < order4.length from hk), List.foldl_append, List.getD_eq_getElem?_getD, List.getElem?_eq_getElem (show k < order4.length from hk)]
  rfl
theorem nowI_four (ok : Int → Bool) (L : Int) (d : Nat) : nowI ok L d 4 = best ok L (d + 1) := by rw [best_succI]; rfl
def cC : Option Rw → Int | none => 0 | some r => r.c
def cP : Option Rw → Int | none => 0 | some r => r.p
def rT (o : Option Rw) : List Value := [.string (tS o)]
def rC (o : Option Rw) : List Value := [.int .i64 (cC o), .int .i64 (cP o)]
def rK (o : Option Rw) : List Value := [.bool o.isSome]
theorem nowI_good (ok : Int → Bool) (L : Int) (d k : Nat) (hk : k ≤ 4) : ∀ r, nowI ok L d k = some r → Good (d + 1) r := by
  have hb : ∀ d', d' ≤ d → ∀ r, best ok L d' = some r → Good d' r := fun d' _ => best_good ok L d'
  induction k with
  | zero => intro r h; rw [nowI_zero] at h; cases h
  | succ k ih =>
    intro r h
    rw [nowI_succ ok L d k (by omega)] at h
    rcases pickBy_from h with h | h
    · exact ih (by omega) r h
    · have hk5 : k = 0 ∨ k = 1 ∨ k = 2 ∨ k = 3 := by omega
      rcases hk5 with rfl | rfl | rfl | rfl
      · exact cand_good hb qB_C (by decide) h
      · exact cand_good hb qB_H (by decide) h
      · exact cand_good hb qB_S (by decide) h
      · exact cand_good hb qB_T (by decide) h
theorem old_blk {w : World} {o : Obj} {k : Nat} {x : Obj} (h : w.heap[k]? = some x) : (w.alloc o).heap[k]? = some x := by
  rw [Below.heap_alloc w o k (lt_of_block h)]; exact h
theorem at_blk (w : World) (o : Obj) (k : Nat) (h : w.heap.size = k) : (w.alloc o).heap[k]? = some o := by subst h; exact heap_alloc_new w o
theorem rec_new1 {E : TypeId} {w : World} {base g : Nat} {a : Value} {n : Nat} (hh : w.heap[g]? = some (.cells (madeCells #[a] n) E)) (hb : base ≤ g) (hn : n ≤ maxLen) : OwnRecs E 1 w base (.slice (some ⟨g, 0, none⟩) n n) (List.replicate n [a]) := by
  have h : (List.replicate n [a]).flatten = (madeCells #[a] n).toList := by rw [toList_madeCells_one]; simp
  refine ⟨⟨by rw [h]; simp [madeCells], .inr ⟨g, n, madeCells #[a] n, by simp, hb, hh, by simp, hn, by simp [madeCells], by rw [h]; exact List.take_of_length_le (by simp [madeCells])⟩⟩, fun r hr => by rw [List.eq_of_mem_replicate hr]; rfl⟩
theorem rec_new2 {E : TypeId} {w : World} {base g : Nat} {a b : Value} {n : Nat} (hh : w.heap[g]? = some (.cells (madeCells #[a, b] (n * 2)) E)) (hb : base ≤ g) (hn : n ≤ maxLen) : OwnRecs E 2 w base (.slice (some ⟨g, 0, none⟩) n n) (List.replicate n [a, b]) := by
  have h : (List.replicate n [a, b]).flatten = (madeCells #[a, b] (n * 2)).toList := (made2 a b n).symm
  refine ⟨⟨by rw [h]; simp [madeCells], .inr ⟨g, n, madeCells #[a, b] (n * 2), by simp, hb, hh, by simp, hn, by simp [madeCells], by rw [h]; exact List.take_of_length_le (by simp [madeCells])⟩⟩, fun r hr => by rw [List.eq_of_mem_replicate hr]; rfl⟩
theorem getD_set_ne {α : Type} (l : List α) (i j : Nat) (v e : α) (h : i ≠ j) : (l.set i v).getD j e = l.getD j e := by
  rw [List.getD_eq_getElem?_getD, List.getElem?_set_ne h, ← List.getD_eq_getElem?_getD]
theorem getD_set_eq {α : Type} (l : List α) (j : Nat) (v e : α) (h : j < l.length) : (l.set j v).getD j e = v := by
  rw [List.getD_eq_getElem?_getD, List.getElem?_set_self h]; rfl
theorem order4_at (k : Nat) (h : k < (⟨#[67, 72, 83, 84]⟩ : ByteArray).size) : order4.getD k 0 = (⟨#[67, 72, 83, 84]⟩ : ByteArray)[k] := by
  obtain ⟨h3, h4⟩ := byte_at ⟨#[67, 72, 83, 84]⟩ k h
  rw [show order4 = bts ⟨#[67, 72, 83, 84]⟩ from rfl, List.getD_eq_getElem?_getD, List.getElem?_eq_getElem h3, h4]
  rfl
theorem ord4_q (k : Nat) (hk : k < 4) : ∃ q : Nat, 1 ≤ q ∧ q ≤ 4 ∧ qB (order4.getD k 0) = q := by
  have hk5 : k = 0 ∨ k = 1 ∨ k = 2 ∨ k = 3 := by omega
  rcases hk5 with rfl | rfl | rfl | rfl
  · exact ⟨1, by omega, by omega, qB_C⟩
  · exact ⟨2, by omega, by omega, qB_H⟩
  · exact ⟨4, by omega, by omega, qB_S⟩
  · exact ⟨3, by omega, by omega, qB_T⟩
def lessOI (a : Rw) : Option Rw → Bool
  | none => true
  | some b => ltI a b
theorem pick_lessI (a : Rw) (now : Option Rw) : pickBy ltI now (some a) = if lessOI a now then some a else now := by
  cases now with
  | none => rfl
  | some b => rfl
abbrev C1 (w : World) (g o : Nat) (a : Value) : Prop := w.cell? ⟨g, o, none⟩ = some a
abbrev C2 (w : World) (g o : Nat) (a b : Value) : Prop := w.cell? ⟨g, o, none⟩ = some a ∧ w.cell? ⟨g, o + 1, none⟩ = some b
theorem keepBI {w2 W W' : World} {g8 M g7 o g9 p : Nat} {v a b c d : Value} (h : C1 W g8 M v ∧ C2 W g7 o a b ∧ C2 W g9 p c d ∧ Ext w2 W) (e : Ext W W') : C1 W' g8 M v ∧ C2 W' g7 o a b ∧ C2 W' g9 p c d ∧ Ext w2 W' :=
  ⟨e.cell h.1, ⟨e.cell h.2.1.1, e.cell h.2.1.2⟩, ⟨e.cell h.2.2.1.1, e.cell h.2.2.1.2⟩, h.2.2.2.trans e⟩
theorem heldBI {w2 W : World} {g8 M g7 o g9 p : Nat} {v a b c d : Value} (h : C1 W g8 M v ∧ C2 W g7 o a b ∧ C2 W g9 p c d ∧ Ext w2 W) : Ext w2 W := h.2.2.2
set_option maxRecDepth 100000 in
set_option maxHeartbeats 8000000 in
theorem i_bestCourse (L : Nat) (F : Nat) (caps : Array Value) (ok : Int → Bool) (w : World) (hL1 : 1 ≤ L) (hL : L ≤ 200)
    (eg : ∀ args w', (callFunc F args).run Try.prog w' = .ok (.enter F args) w')
    (hp : ∀ x w', 0 ≤ x → x ≤ 200 → Ext w w' → Calls Try.prog F (#[.int .i64 x] ++ caps) w' (RetE (.bool (ok x)) w')) :
    Calls Try.prog 69 #[.int .i64 L, .func (.func F) #[] caps] w (RetE (.tuple #[.string (tS (best ok L L)), .bool (best ok L L).isSome]) w) := by
  have m1 := fun W => run_make_any (P := Try.prog) 34 9 (.string ByteArray.empty) 1 16 Try.underlying34 info_str (L + 1) ((L : Int) + 1) (by omega) (by omega) (by omega) W
  have m2 := fun W => run_make_any (P := Try.prog) 120 123 (.agg #[.int .i64 0, .int .i64 0]) 2 16 Try.underlying120 info_cost (L + 1) ((L : Int) + 1) (by omega) (by omega) (by omega) W
  have m3 := fun W => run_make_any (P := Try.prog) 121 4 (.bool false) 1 1 Try.underlying121 info_bool (L + 1) ((L : Int) + 1) (by omega) (by omega) (by omega) W
  go_enter Try.func69, Try.ntmps69
  go_upto_region 1 with fail
  go_cut [6, 7, 8] (fun v6 v7 v8 wx => ∃ g6 g7 g8, v6 = .slice (some ⟨g6, 0, none⟩) (L + 1) (L + 1) ∧ v7 = .slice (some ⟨g7, 0, none⟩) (L + 1) (L + 1) ∧ v8 = .slice (some ⟨g8, 0, none⟩) (L + 1) (L + 1) ∧ g6 ≠ g7 ∧ g6 ≠ g8 ∧ g7 ≠ g8 ∧ OwnRecs 9 1 wx w.heap.size v6 (List.replicate (L + 1) [.string ByteArray.empty]) ∧ OwnRecs 123 2 wx w.heap.size v7 (List.replicate (L + 1) [.int .i64 0, .int .i64 0]) ∧ OwnRecs 4 1 wx w.heap.size v8 (List.replicate (L + 1) [.bool false]) ∧ Ext w wx)
  case first =>
    go_region
    all_goals
      go_wp2_with fail
      go_meet
      refine ⟨_, _, _, rfl, rfl, rfl, by omega, by omega, by omega, ?_, ?_, ?_, ?_⟩
      · refine rec_new1 ?_ (by omega) (by unfold maxLen; omega)
        first | exact at_blk _ _ _ (by simp) | exact old_blk (at_blk _ _ _ (by simp)) | exact old_blk (old_blk (at_blk _ _ _ (by simp)))
      · refine rec_new2 ?_ (by omega) (by unfold maxLen; omega)
        first | exact at_blk _ _ _ (by simp) | exact old_blk (at_blk _ _ _ (by simp)) | exact old_blk (old_blk (at_blk _ _ _ (by simp)))
      · refine rec_new1 ?_ (by omega) (by unfold maxLen; omega)
        first | exact at_blk _ _ _ (by simp) | exact old_blk (at_blk _ _ _ (by simp)) | exact old_blk (old_blk (at_blk _ _ _ (by simp)))
      · repeat' (first | exact Ext.refl _ | refine Ext.drew ?_ | refine Ext.alloc ?_ _)
  case rest =>
    obtain ⟨g6, g7, g8, rfl, rfl, rfl, n67, n68, n78, o6, o7, o8, e1⟩ := hcut
    have hz : (List.replicate (L + 1) [Value.bool false]).getD L [] = [.bool false] := by rw [List.getD_eq_getElem?_getD, List.getElem?_replicate, if_pos (by omega)]; rfl
    obtain ⟨r0, f0⟩ := o8.reads1 L (by omega) hz
    have H8 := Lib.hid (o8.put1 L (by omega) (.bool true))
    have H6 := Lib.hid (o6.other (a := ⟨g8, L, none⟩) (by simp; omega) (.bool true))
    have H7 := Lib.hid (o7.other (a := ⟨g8, L, none⟩) (by simp; omega) (.bool true))
    have hLi : (L : Int) < (L : Int) + 1 := by omega
    have HE := Lib.hid e1
    have hB8 := (o8.blk g8 rfl).1
    clear m1 m2 m3 hz o6 o7 o8 e1
    have hT0 : Hid (List.replicate (L + 1) [Value.string ByteArray.empty] = tab (best ok L) rT [.string ByteArray.empty] L 0) := Lib.hid (by
      rw [← tab_zero, set_get_self _ L [] _ ?_ (by simp)]
      rw [List.getD_eq_getElem?_getD, List.getElem?_replicate, if_pos (by omega)]; rfl)
    have hC0 : Hid (List.replicate (L + 1) [Value.int .i64 0, Value.int .i64 0] = tab (best ok L) rC [.int .i64 0, .int .i64 0] L 0) := Lib.hid (by
      rw [← tab_zero, set_get_self _ L [] _ ?_ (by simp)]
      rw [List.getD_eq_getElem?_getD, List.getElem?_replicate, if_pos (by omega)]; rfl)
    have hK0 : Hid ((List.replicate (L + 1) [Value.bool false]).set L [.bool true] = tab (best ok L) rK [.bool false] L 0) := Lib.hid (by rw [← tab_zero]; rfl)
    go_wp2
    go_loopw [9] (fun i wr => ∃ d : Nat, d ≤ L ∧ i = .int .i64 ((L : Int) - 1 - d) ∧ OwnRecs 9 1 wr w.heap.size (.slice (some ⟨g6, 0, none⟩) (L + 1) (L + 1)) (tab (best ok L) rT [.string ByteArray.empty] L d) ∧ OwnRecs 123 2 wr w.heap.size (.slice (some ⟨g7, 0, none⟩) (L + 1) (L + 1)) (tab (best ok L) rC [.int .i64 0, .int .i64 0] L d) ∧ OwnRecs 4 1 wr w.heap.size (.slice (some ⟨g8, 0, none⟩) (L + 1) (L + 1)) (tab (best ok L) rK [.bool false] L d) ∧ Ext w wr) (fun i _ => (intOf i + 1).toNat)
    case atStart => exact ⟨0, by omega, by simp, by rw [← hT0.out]; exact H6.out, by rw [← hC0.out]; exact H7.out, by rw [← hK0.out]; exact H8.out, HE.out.setCell hB8 _⟩
    case round =>
      obtain ⟨d, hd, rfl, q6, q7, q8, er⟩ := hrel
      clear r0 f0 H6 H7 H8 hT0 hC0 hK0 HE
      by_cases hdl : d < L
      · have hge : (d : Int) ≤ (L : Int) - 1 := by omega
        go_wp2
        go_loopw [32] (fun i wi => ∃ k : Nat, k ≤ 4 ∧ i = .int .i64 k ∧ OwnRecs 9 1 wi w.heap.size (.slice (some ⟨g6, 0, none⟩) (L + 1) (L + 1)) ((tab (best ok L) rT [.string ByteArray.empty] L d).set (L - (d + 1)) (rT (nowI ok L d k))) ∧ OwnRecs 123 2 wi w.heap.size (.slice (some ⟨g7, 0, none⟩) (L + 1) (L + 1)) ((tab (best ok L) rC [.int .i64 0, .int .i64 0] L d).set (L - (d + 1)) (rC (nowI ok L d k))) ∧ OwnRecs 4 1 wi w.heap.size (.slice (some ⟨g8, 0, none⟩) (L + 1) (L + 1)) ((tab (best ok L) rK [.bool false] L d).set (L - (d + 1)) (rK (nowI ok L d k))) ∧ Ext w wi) (fun i _ => 4 - (intOf i).toNat)
        case atStart =>
          refine ⟨0, by omega, rfl, ?_, ?_, ?_, er⟩
          · rw [nowI_zero, show rT none = [Value.string ByteArray.empty] from rfl, set_get_self _ _ [] _ (tab_unset _ _ _ _ _ _ _ (by omega) (by omega)) (by rw [tab_length]; omega)]; exact q6
          · rw [nowI_zero, show rC none = [Value.int .i64 0, Value.int .i64 0] from rfl, set_get_self _ _ [] _ (tab_unset _ _ _ _ _ _ _ (by omega) (by omega)) (by rw [tab_length]; omega)]; exact q7
          · rw [nowI_zero, show rK none = [Value.bool false] from rfl, set_get_self _ _ [] _ (tab_unset _ _ _ _ _ _ _ (by omega) (by omega)) (by rw [tab_length]; omega)]; exact q8
        case round =>
          obtain ⟨k, hk, rfl, p6, p7, p8, ei⟩ := hrel
          clear q6 q7 q8 er
          by_cases hkl : k < 4
          · have hk4 : k < (⟨#[67, 72, 83, 84]⟩ : ByteArray).size := hkl
            have hoj := order4_at k hk4
            obtain ⟨qq, q1, q4, hq⟩ := ord4_q k hkl
            have hns := nowI_succ ok L d k hkl
            obtain ⟨b, hidx⟩ : ∃ b, (⟨#[67, 72, 83, 84]⟩ : ByteArray)[k] = b := ⟨_, rfl⟩
            rw [hidx] at hoj
            rw [hoj] at hns hq
            rw [cand_eq ok L d qq _ hq q1] at hns
            have hng := nowI_good ok L d k hk
            have HQ : Hid (∀ W, Calls Try.prog 73 #[.int .u8 (b.toNat : Int)] W (RetV (.int .i64 qq) W)) := Lib.hid (fun W => by
              have := i_quartersOf (b.toNat : Int) W
              rw [show qI (b.toNat : Int) = (qq : Int) from hq] at this
              exact this)
            obtain ⟨now, hnow⟩ : ∃ now, nowI ok L d k = now := ⟨_, rfl⟩
            rw [hnow] at p6 p7 p8 hns hng
            have HNS := Lib.hid hns
            have HNG := Lib.hid hng
            have P6 := Lib.hid p6
            have P7 := Lib.hid p7
            have P8 := Lib.hid p8
            clear hoj hns hng hnow hq p6 p7 p8
            by_cases hgt : d + 1 < qq
            · have HN : Hid (nowI ok L d (k + 1) = now) := Lib.hid (by rw [HNS.out, if_pos hgt]; rfl)
              have hgi : (L : Int) < (L : Int) - 1 - d + qq := by omega
              clear HNS
              go_wp2_with (first | (go_at_call 73; refine (HQ.out _).mono ?_; rintro e w' ⟨rfl, rfl⟩))
              go_roundw
              case rel => first | exact ⟨k + 1, by omega, by go_num, by rw [HN.out]; exact P6.out, by rw [HN.out]; exact P7.out, by rw [HN.out]; exact P8.out, ei⟩ | ((repeat apply Exists.intro); exact ⟨⟨k + 1, by omega, by go_num, by rw [HN.out]; exact P6.out, by rw [HN.out]; exact P7.out, by rw [HN.out]; exact P8.out, ei⟩, rfl⟩)
              case measure => simp [intOf]; omega
            · have hnx : ((L : Int) - 1 - d + qq).toNat = L - (d + 1 - qq) := by omega
              have hn0 : (0 : Int) ≤ (L : Int) - 1 - d + qq := by omega
              have hn1 : (L : Int) - 1 - d + qq < (L : Int) + 1 := by omega
              have hn2 : ¬ (L : Int) < (L : Int) - 1 - d + qq := by omega
              have g6 := tab_get (best ok L) rT [.string ByteArray.empty] [] L d (L - (d + 1 - qq)) (by omega) (by omega)
              have g7 := tab_get (best ok L) rC [.int .i64 0, .int .i64 0] [] L d (L - (d + 1 - qq)) (by omega) (by omega)
              have g8 := tab_get (best ok L) rK [.bool false] [] L d (L - (d + 1 - qq)) (by omega) (by omega)
              rw [show L - (L - (d + 1 - qq)) = d + 1 - qq by omega] at g6 g7 g8
              have hbg := best_good ok L (d + 1 - qq)
              obtain ⟨o, hoo⟩ : ∃ o, best ok L (d + 1 - qq) = o := ⟨_, rfl⟩
              rw [hoo] at g6 g7 g8 hbg HNS
              obtain ⟨N, hNN⟩ : ∃ N, L - (d + 1 - qq) = N := ⟨_, rfl⟩
              rw [hNN] at g6 g7 g8 hnx
              have hNL : N < L + 1 := by omega
              have hNa : L - (d + 1) ≠ N := by omega
              obtain ⟨s6, _⟩ := P6.out.reads1 N hNL (by rw [getD_set_ne _ _ _ _ _ hNa]; exact g6)
              obtain ⟨s7, s7', _, _⟩ := P7.out.reads2 N hNL (by rw [getD_set_ne _ _ _ _ _ hNa]; exact g7)
              obtain ⟨s8, _⟩ := P8.out.reads1 N hNL (by rw [getD_set_ne _ _ _ _ _ hNa]; exact g8)
              clear hoo g6 g7 g8
              rcases o with _ | r
              · have HN : Hid (nowI ok L d (k + 1) = now) := Lib.hid (by rw [HNS.out, if_neg hgt]; rfl)
                have s8b : wr.cell? ⟨_, N, none⟩ = some (.bool false) := s8
                clear HNS hNN hbg s8 s6 s7 s7'
                go_wp2_with (first | (go_at_call 73; refine (HQ.out _).mono ?_; rintro e w' ⟨rfl, rfl⟩))
                go_roundw
                case rel => first | exact ⟨k + 1, by omega, by go_num, by rw [HN.out]; exact P6.out, by rw [HN.out]; exact P7.out, by rw [HN.out]; exact P8.out, ei⟩ | ((repeat apply Exists.intro); exact ⟨⟨k + 1, by omega, by go_num, by rw [HN.out]; exact P6.out, by rw [HN.out]; exact P7.out, by rw [HN.out]; exact P8.out, ei⟩, rfl⟩)
                case measure => simp [intOf]; omega
              · have hgd := hbg r rfl
                have hgb := hgd.bd
                have s8b : wr.cell? ⟨_, N, none⟩ = some (.bool true) := s8
                obtain ⟨bv, hbv⟩ : ∃ bv, ok ((L : Int) - (d + 1 : Nat) + qq) = bv := ⟨_, rfl⟩
                have HF : Hid (∀ W, Ext w W → Calls Try.prog F (#[.int .i64 ((L : Int) - 1 - d + qq)] ++ caps) W (RetE (.bool bv) W)) := Lib.hid (fun W e => by
                  have h := hp ((L : Int) - 1 - d + qq) W (by omega) (by omega) e
                  rw [show (L : Int) - 1 - d + qq = (L : Int) - (d + 1 : Nat) + qq by omega, hbv] at h
                  rw [show (L : Int) - 1 - d + qq = (L : Int) - (d + 1 : Nat) + qq by omega]
                  exact h)
                have HP := Lib.hid hp
                clear hp
                by_cases hgo : qq < d + 1 ∧ bv = false
                · obtain ⟨hlt, rfl⟩ := hgo
                  have HN : Hid (nowI ok L d (k + 1) = now) := Lib.hid (by rw [HNS.out, if_neg hgt]; simp only []; rw [if_pos ⟨hlt, hbv⟩]; rfl)
                  have hlt2 : (L : Int) - 1 - d + qq < (L : Int) := by omega
                  clear HNS hNN hbg hbv hgd s6 s7 s7' s8
                  go_wp2_with (first | (go_at_call 73; refine (HQ.out _).mono ?_; rintro e w' ⟨rfl, rfl⟩) | (refine (HF.out _ ei).mono ?_; rintro e w1 ⟨rfl, e1⟩))
                  go_roundw
                  case rel => first | exact ⟨k + 1, by omega, by go_num, by rw [HN.out]; exact P6.out.ext e1, by rw [HN.out]; exact P7.out.ext e1, by rw [HN.out]; exact P8.out.ext e1, ei.trans e1⟩ | ((repeat apply Exists.intro); exact ⟨⟨k + 1, by omega, by go_num, by rw [HN.out]; exact P6.out.ext e1, by rw [HN.out]; exact P7.out.ext e1, by rw [HN.out]; exact P8.out.ext e1, ei.trans e1⟩, rfl⟩)
                  case measure => simp [intOf]; omega
                · have HN : Hid (nowI ok L d (k + 1) = if lessOI (ahead b r) now then some (ahead b r) else now) := Lib.hid (by
                    rw [HNS.out, if_neg hgt]
                    simp only []
                    rw [if_neg (fun h => hgo ⟨h.1, hbv.symm.trans h.2⟩), pick_lessI])
                  have hex := extract_one ⟨#[67, 72, 83, 84]⟩ k hk4
                  rw [hidx] at hex
                  have hrs : (mkS r.t).size ≤ 400 := by rw [mkS_size]; have := hgd.le; omega
                  obtain ⟨rt, hrt⟩ : ∃ rt, mkS r.t = rt := ⟨_, rfl⟩
                  have htx : mkS [b] ++ rt = mkS (ahead b r).t := by rw [← hrt, mkS_app]; rfl
                  have s6b : wr.cell? ⟨_, N, none⟩ = some (.string (mkS r.t)) := s6
                  rw [hrt] at s6b hrs
                  have s6b0 := s6b
                  obtain ⟨cc, hcc⟩ : ∃ cc : Int, (if cutB b then (1 : Int) else 0) = cc := ⟨_, rfl⟩
                  have hcb : 0 ≤ cc ∧ cc ≤ 1 := by rw [← hcc]; split <;> omega
                  have HW : Hid (∀ W, Calls Try.prog 103 #[.agg #[.int .i64 r.c, .int .i64 r.p], .int .u8 (b.toNat : Int)] W (RetE (.agg #[.int .i64 (r.c + cc), .int .i64 (r.p + 1)]) W)) := Lib.hid (fun W => by
                    have h := i_with r.c r.p (b.toNat : Int) W (by omega) (by omega) (by omega) (by omega)
                    rw [show (if cutI (b.toNat : Int) then (1 : Int) else 0) = cc from hcc] at h
                    exact h)
                  have HA6 : Hid (rT (some (ahead b r)) = [.string (mkS [b] ++ rt)]) := Lib.hid (by rw [htx]; rfl)
                  have HA7 : Hid (rC (some (ahead b r)) = [.int .i64 (r.c + cc), .int .i64 (r.p + 1)]) := Lib.hid (by unfold rC cC cP ahead; rw [hcc])
                  have HEX := Lib.hid hex
                  have s7a : wr.cell? ⟨_, N * 2, none⟩ = some (.int .i64 r.c) := s7
                  have s7b : wr.cell? ⟨_, N * 2 + 1, none⟩ = some (.int .i64 r.p) := s7'
                  have HL : Hid (∀ nb, now = some nb → ∀ W, Calls Try.prog 104 #[.agg #[.int .i64 (r.c + cc), .int .i64 (r.p + 1)], .agg #[.int .i64 nb.c, .int .i64 nb.p]] W (RetE (.bool (lessOI (ahead b r) now)) W)) := Lib.hid (fun nb hnb W => by
                    have h := i_less (r.c + cc) (r.p + 1) nb.c nb.p W
                    have e : lessOI (ahead b r) now = lessC (r.c + cc) (r.p + 1) nb.c nb.p := by rw [hnb]; unfold lessOI ltI lessC ahead; simp only []; rw [hcc]
                    rw [e]; exact h)
                  clear HNS hNN hbg hgd s6 s7 s7' s8 hex htx hrt hcc
                  obtain ⟨M, hM⟩ : ∃ M, L - (d + 1) = M := ⟨_, rfl⟩
                  have hix : ((L : Int) - 1 - d).toNat = M := by omega
                  have hM1 : M < L + 1 := by omega
                  have hi0 : (0 : Int) ≤ (L : Int) - 1 - d := by omega
                  have hi1 : (L : Int) - 1 - d < (L : Int) + 1 := by omega
                  have hMt : M < (tab (best ok L) rT [.string ByteArray.empty] L d).length := by rw [tab_length]; omega
                  have hMt7 : M < (tab (best ok L) rC [.int .i64 0, .int .i64 0] L d).length := by rw [tab_length]; omega
                  have hMt8 : M < (tab (best ok L) rK [.bool false] L d).length := by rw [tab_length]; omega
                  rw [hM] at P6 P7 P8
                  by_cases hlt : qq < d + 1
                  · have hbt : bv = true := by
                      cases bv with
                      | true => rfl
                      | false => exact absurd ⟨hlt, rfl⟩ hgo
                    subst hbt
                    have hlt2 : (L : Int) - 1 - d + qq < (L : Int) := by omega
                    clear hbv hgo
                    go_upto_region 13 with (first | (go_at_call 73; refine (HQ.out _).mono ?_; rintro e w' ⟨rfl, rfl⟩) | (go_at_call 103; refine (HW.out _).mono ?_; rintro e w2 ⟨rfl, e2⟩) | (refine (HF.out _ ei).mono ?_; rintro e w1 ⟨rfl, e1⟩; replace s6b := e1.cell s6b; replace s7a := e1.cell s7a; replace s7b := e1.cell s7b))
                    have e3 := e1.trans e2
                    have s6w := s6b0
                    have e4 : Ext wr (w2.alloc (.cells #[.int .i64 (r.c + cc), .int .i64 (r.p + 1)] 123)) := e3.alloc _
                    have P6' := Lib.hid (P6.out.ext e4)
                    have P7' := Lib.hid (P7.out.ext e4)
                    have P8' := Lib.hid (P8.out.ext e4)
                    have k6 : g6 < wr.heap.size := (P6.out.blk g6 rfl).2
                    have k7 : g7 < wr.heap.size := (P7.out.blk g7 rfl).2
                    have k8 : g8 < wr.heap.size := (P8.out.blk g8 rfl).2
                    have kz := e3.size
                    have d6 : w2.heap.size ≠ g6 := by omega
                    have d7 : w2.heap.size ≠ g7 := by omega
                    have d8 : w2.heap.size ≠ g8 := by omega
                    have EI := Lib.hid (ei.trans e4)
                    have BX := Lib.hid (Box.new 123 w2 wr.heap.size [.int .i64 (r.c + cc), .int .i64 (r.p + 1)] kz)
                    have s6c := e4.cell s6w
                    clear s6b s7a s7b P6 P7 P8 k6 k7 k8 kz
                    have G6 : w.heap.size ≤ g6 := (P6'.out.blk g6 rfl).1
                    have G7 : w.heap.size ≤ g7 := (P7'.out.blk g7 rfl).1
                    have G8 : w.heap.size ≤ g8 := (P8'.out.blk g8 rfl).1
                    obtain ⟨x0, _⟩ := BX.out.at 0 (by simp) _ rfl
                    obtain ⟨x1, _⟩ := BX.out.at 1 (by simp) _ rfl
                    obtain ⟨v6, f6⟩ := P6'.out.reads1 M hM1 (getD_set_eq _ _ _ _ hMt)
                    obtain ⟨v7, v7', f7, f7'⟩ := P7'.out.reads2 M hM1 (getD_set_eq _ _ _ _ hMt7)
                    obtain ⟨v8, f8⟩ := P8'.out.reads1 M hM1 (getD_set_eq _ _ _ _ hMt8)
                    rcases now with _ | nb
                    · have HN2 : Hid (nowI ok L d (k + 1) = some (ahead b r)) := Lib.hid (by rw [HN.out]; rfl)
                      have v8b : (w2.alloc (.cells #[.int .i64 (r.c + cc), .int .i64 (r.p + 1)] 123)).cell? ⟨g8, M, none⟩ = some (.bool false) := v8
                      clear HN HNG HL
                      go_quiet (fail)
                      go_upto_region 14 with fail
                      have E5 := (Ext.refl (w2.alloc (.cells #[.int .i64 (r.c + cc), .int .i64 (r.p + 1)] 123))).drewN nq
                      obtain ⟨E1, hE1⟩ : ∃ E1, (⟨#[67, 72, 83, 84]⟩ : ByteArray).extract k (k + 1) = E1 := ⟨_, rfl⟩
                      have hE2 := HEX.out
                      rw [hE1] at hE2
                      have hE1s : E1.size = 1 := by rw [hE2, mkS_size]; rfl
                      have HE2 := Lib.hid hE2
                      clear hE2
                      have hk1 : IntKind.i64.wrap ((k : Int) + 1) = (k : Int) + 1 := IntWalk.i64_in _ (by omega)
                      have hk2 : (0 : Int) ≤ (k : Int) + 1 := by omega
                      have hk3 : ((k : Int) + 1).toNat = k + 1 := by omega
                      have hk4' : (k : Int) + 1 ≤ 4 := by omega
                      have hs1 : ¬ (9223372036854775807 < 1 + rt.size) := by omega
                      have hs2 : ¬ (9223372036854775807 < E1.size + rt.size) := by omega
                      have hk5 : (0 : Int) ≤ (k : Int) := by omega
                      have hk6 : (k : Int) ≤ (k : Int) + 1 := by omega
                      have hk7 : k ≤ k + 1 := by omega
                      have hk8 : k + 1 ≤ 4 := by omega
                      go_region
                      all_goals
                        go_wp2_with fail
                        go_roundw
                        case rel =>
                          have R6 := fun (W : World) (e : Ext (w2.alloc (.cells #[.int .i64 (r.c + cc), .int .i64 (r.p + 1)] 123)) W) => ((((P6'.out.ext e).put1 M hM1 (.string (E1 ++ rt))).other (a := ⟨g7, M * 2, none⟩) (by simp; omega) (.int .i64 (r.c + cc))).other (a := ⟨g7, M * 2 + 1, none⟩) (by simp; omega) (.int .i64 (r.p + 1))).other (a := ⟨g8, M, none⟩) (by simp; omega) (.bool true)
                          have R7 := fun (W : World) (e : Ext (w2.alloc (.cells #[.int .i64 (r.c + cc), .int .i64 (r.p + 1)] 123)) W) => (((P7'.out.ext e).other (a := ⟨g6, M, none⟩) (by simp; omega) (.string (E1 ++ rt))).put2 M hM1 (.int .i64 (r.c + cc)) (.int .i64 (r.p + 1))).other (a := ⟨g8, M, none⟩) (by simp; omega) (.bool true)
                          have R8 := fun (W : World) (e : Ext (w2.alloc (.cells #[.int .i64 (r.c + cc), .int .i64 (r.p + 1)] 123)) W) => ((((P8'.out.ext e).other (a := ⟨g6, M, none⟩) (by simp; omega) (.string (E1 ++ rt))).other (a := ⟨g7, M * 2, none⟩) (by simp; omega) (.int .i64 (r.c + cc))).other (a := ⟨g7, M * 2 + 1, none⟩) (by simp; omega) (.int .i64 (r.p + 1))).put1 M hM1 (.bool true)
                          have RE := fun (W : World) (e : Ext (w2.alloc (.cells #[.int .i64 (r.c + cc), .int .i64 (r.p + 1)] 123)) W) => ((((EI.out.trans e).setCell (p := ⟨g6, M, none⟩) G6 (.string (E1 ++ rt))).setCell (p := ⟨g7, M * 2, none⟩) G7 (.int .i64 (r.c + cc))).setCell (p := ⟨g7, M * 2 + 1, none⟩) G7 (.int .i64 (r.p + 1))).setCell (p := ⟨g8, M, none⟩) G8 (.bool true)
                          simp only [List.set_set] at R6 R7 R8
                          have h6 : rT (nowI ok L d (k + 1)) = [.string (E1 ++ rt)] := by rw [HN2.out, HA6.out, HE2.out]
                          have h7 : rC (nowI ok L d (k + 1)) = [.int .i64 (r.c + cc), .int .i64 (r.p + 1)] := by rw [HN2.out, HA7.out]
                          have h8 : rK (nowI ok L d (k + 1)) = [.bool true] := by rw [HN2.out]; rfl
                          refine ⟨k + 1, by omega, by go_num, ?_, ?_, ?_, ?_⟩
                          · simp only [hM, h6]; exact R6 _ (by first | exact E5 | exact E5.drew | exact (Ext.refl _).drewN _ | exact E5.drewN _)
                          · simp only [hM, h7]; exact R7 _ (by first | exact E5 | exact E5.drew | exact (Ext.refl _).drewN _ | exact E5.drewN _)
                          · simp only [hM, h8]; exact R8 _ (by first | exact E5 | exact E5.drew | exact (Ext.refl _).drewN _ | exact E5.drewN _)
                          · first | exact RE _ (by first | exact E5 | exact E5.drew | exact (Ext.refl _).drewN _ | exact E5.drewN _) | exact (RE _ (by first | exact E5 | exact E5.drew | exact (Ext.refl _).drewN _ | exact E5.drewN _)).drew
                        case measure => simp [intOf]; omega
                    · obtain ⟨lo, hlo⟩ : ∃ lo, lessOI (ahead b r) (some nb) = lo := ⟨_, rfl⟩
                      have HL2 := Lib.hid (HL.out nb rfl)
                      rw [hlo] at HL2 HN
                      clear HL hlo HNG
                      have K1 : C1 (w2.alloc (.cells #[.int .i64 (r.c + cc), .int .i64 (r.p + 1)] 123)) g8 M (.bool true) := v8
                      have K2 : C2 (w2.alloc (.cells #[.int .i64 (r.c + cc), .int .i64 (r.p + 1)] 123)) g7 (M * 2) (.int .i64 nb.c) (.int .i64 nb.p) := ⟨v7, v7'⟩
                      have K3 : C2 (w2.alloc (.cells #[.int .i64 (r.c + cc), .int .i64 (r.p + 1)] 123)) w2.heap.size 0 (.int .i64 (r.c + cc)) (.int .i64 (r.p + 1)) := ⟨x0, x1⟩
                      clear v7 v7' v8 x0 x1 v6 f6 f7 f7' f8
                      go_region_held3 (fun W => C1 W g8 M (.bool true) ∧ C2 W g7 (M * 2) (.int .i64 nb.c) (.int .i64 nb.p) ∧ C2 W w2.heap.size 0 (.int .i64 (r.c + cc)) (.int .i64 (r.p + 1)) ∧ Ext (w2.alloc (.cells #[.int .i64 (r.c + cc), .int .i64 (r.p + 1)] 123)) W) (first | exact ⟨K1, K2, K3, (Ext.refl _).drew⟩ | exact keepBI (by assumption) (by assumption)) (first | (go_at_call 104; refine (HL2.out _).mono ?_; rintro e w5 ⟨rfl, e5⟩))
                      have E5 := heldBI (by assumption)
                      cases lo with
                      | false =>
                        go_wp2_with fail
                        go_roundw
                        case rel =>
                          have hn : nowI ok L d (k + 1) = some nb := by rw [HN.out, if_neg (by simp)]
                          first | refine ⟨k + 1, by omega, by go_num, ?_, ?_, ?_, EI.out.trans E5⟩ | ((repeat apply Exists.intro); refine ⟨⟨k + 1, by omega, by go_num, ?_, ?_, ?_, EI.out.trans E5⟩, rfl⟩)
                          · simp only [hM, hn]; exact P6'.out.ext E5
                          · simp only [hM, hn]; exact P7'.out.ext E5
                          · simp only [hM, hn]; exact P8'.out.ext E5
                        case measure => simp [intOf]; omega
                      | true =>
                        have HN2 : Hid (nowI ok L d (k + 1) = some (ahead b r)) := Lib.hid (by rw [HN.out, if_pos (by trivial)])
                        clear HN K1 K2 K3
                        replace s6c := E5.cell s6c
                        obtain ⟨v6, f6⟩ := (P6'.out.ext E5).reads1 M hM1 (getD_set_eq _ _ _ _ hMt)
                        obtain ⟨v7, v7', f7, f7'⟩ := (P7'.out.ext E5).reads2 M hM1 (getD_set_eq _ _ _ _ hMt7)
                        obtain ⟨v8, f8⟩ := (P8'.out.ext E5).reads1 M hM1 (getD_set_eq _ _ _ _ hMt8)
                        obtain ⟨x0, _⟩ := (BX.out.ext E5).at 0 (by simp) _ rfl
                        obtain ⟨x1, _⟩ := (BX.out.ext E5).at 1 (by simp) _ rfl
                        go_upto_region 14 with fail
                        obtain ⟨E1, hE1⟩ : ∃ E1, (⟨#[67, 72, 83, 84]⟩ : ByteArray).extract k (k + 1) = E1 := ⟨_, rfl⟩
                        have hE2 := HEX.out
                        rw [hE1] at hE2
                        have hE1s : E1.size = 1 := by rw [hE2, mkS_size]; rfl
                        have HE2 := Lib.hid hE2
                        clear hE2
                        have hk1 : IntKind.i64.wrap ((k : Int) + 1) = (k : Int) + 1 := IntWalk.i64_in _ (by omega)
                        have hk2 : (0 : Int) ≤ (k : Int) + 1 := by omega
                        have hk3 : ((k : Int) + 1).toNat = k + 1 := by omega
                        have hk4' : (k : Int) + 1 ≤ 4 := by omega
                        have hs1 : ¬ (9223372036854775807 < 1 + rt.size) := by omega
                        have hs2 : ¬ (9223372036854775807 < E1.size + rt.size) := by omega
                        have hk5 : (0 : Int) ≤ (k : Int) := by omega
                        have hk6 : (k : Int) ≤ (k : Int) + 1 := by omega
                        have hk7 : k ≤ k + 1 := by omega
                        have hk8 : k + 1 ≤ 4 := by omega
                        go_region
                        all_goals
                          go_wp2_with fail
                          go_roundw
                          case rel =>
                            have R6 := fun (W : World) (e : Ext (w2.alloc (.cells #[.int .i64 (r.c + cc), .int .i64 (r.p + 1)] 123)) W) => ((((P6'.out.ext e).put1 M hM1 (.string (E1 ++ rt))).other (a := ⟨g7, M * 2, none⟩) (by simp; omega) (.int .i64 (r.c + cc))).other (a := ⟨g7, M * 2 + 1, none⟩) (by simp; omega) (.int .i64 (r.p + 1))).other (a := ⟨g8, M, none⟩) (by simp; omega) (.bool true)
                            have R7 := fun (W : World) (e : Ext (w2.alloc (.cells #[.int .i64 (r.c + cc), .int .i64 (r.p + 1)] 123)) W) => (((P7'.out.ext e).other (a := ⟨g6, M, none⟩) (by simp; omega) (.string (E1 ++ rt))).put2 M hM1 (.int .i64 (r.c + cc)) (.int .i64 (r.p + 1))).other (a := ⟨g8, M, none⟩) (by simp; omega) (.bool true)
                            have R8 := fun (W : World) (e : Ext (w2.alloc (.cells #[.int .i64 (r.c + cc), .int .i64 (r.p + 1)] 123)) W) => ((((P8'.out.ext e).other (a := ⟨g6, M, none⟩) (by simp; omega) (.string (E1 ++ rt))).other (a := ⟨g7, M * 2, none⟩) (by simp; omega) (.int .i64 (r.c + cc))).other (a := ⟨g7, M * 2 + 1, none⟩) (by simp; omega) (.int .i64 (r.p + 1))).put1 M hM1 (.bool true)
                            have RE := fun (W : World) (e : Ext (w2.alloc (.cells #[.int .i64 (r.c + cc), .int .i64 (r.p + 1)] 123)) W) => ((((EI.out.trans e).setCell (p := ⟨g6, M, none⟩) G6 (.string (E1 ++ rt))).setCell (p := ⟨g7, M * 2, none⟩) G7 (.int .i64 (r.c + cc))).setCell (p := ⟨g7, M * 2 + 1, none⟩) G7 (.int .i64 (r.p + 1))).setCell (p := ⟨g8, M, none⟩) G8 (.bool true)
                            simp only [List.set_set] at R6 R7 R8
                            have h6 : rT (nowI ok L d (k + 1)) = [.string (E1 ++ rt)] := by rw [HN2.out, HA6.out, HE2.out]
                            have h7 : rC (nowI ok L d (k + 1)) = [.int .i64 (r.c + cc), .int .i64 (r.p + 1)] := by rw [HN2.out, HA7.out]
                            have h8 : rK (nowI ok L d (k + 1)) = [.bool true] := by rw [HN2.out]; rfl
                            refine ⟨k + 1, by omega, by go_num, ?_, ?_, ?_, ?_⟩
                            · simp only [hM, h6]; exact R6 _ (by first | exact E5 | exact E5.drew | exact (Ext.refl _).drewN _ | exact E5.drewN _)
                            · simp only [hM, h7]; exact R7 _ (by first | exact E5 | exact E5.drew | exact (Ext.refl _).drewN _ | exact E5.drewN _)
                            · simp only [hM, h8]; exact R8 _ (by first | exact E5 | exact E5.drew | exact (Ext.refl _).drewN _ | exact E5.drewN _)
                            · first | exact RE _ (by first | exact E5 | exact E5.drew | exact (Ext.refl _).drewN _ | exact E5.drewN _) | exact (RE _ (by first | exact E5 | exact E5.drew | exact (Ext.refl _).drewN _ | exact E5.drewN _)).drew
                          case measure => simp [intOf]; omega
                  · have hlt2 : ¬ (L : Int) - 1 - d + qq < (L : Int) := by omega
                    clear hbv hgo
                    go_upto_region 13 with (first | (go_at_call 73; refine (HQ.out _).mono ?_; rintro e w' ⟨rfl, rfl⟩) | (go_at_call 103; refine (HW.out _).mono ?_; rintro e w2 ⟨rfl, e2⟩))
                    have e3 := e2
                    have s6w := s6b0
                    have e4 : Ext wr (w2.alloc (.cells #[.int .i64 (r.c + cc), .int .i64 (r.p + 1)] 123)) := e3.alloc _
                    have P6' := Lib.hid (P6.out.ext e4)
                    have P7' := Lib.hid (P7.out.ext e4)
                    have P8' := Lib.hid (P8.out.ext e4)
                    have k6 : g6 < wr.heap.size := (P6.out.blk g6 rfl).2
                    have k7 : g7 < wr.heap.size := (P7.out.blk g7 rfl).2
                    have k8 : g8 < wr.heap.size := (P8.out.blk g8 rfl).2
                    have kz := e3.size
                    have d6 : w2.heap.size ≠ g6 := by omega
                    have d7 : w2.heap.size ≠ g7 := by omega
                    have d8 : w2.heap.size ≠ g8 := by omega
                    have EI := Lib.hid (ei.trans e4)
                    have BX := Lib.hid (Box.new 123 w2 wr.heap.size [.int .i64 (r.c + cc), .int .i64 (r.p + 1)] kz)
                    have s6c := e4.cell s6w
                    clear s6b s7a s7b P6 P7 P8 k6 k7 k8 kz
                    have G6 : w.heap.size ≤ g6 := (P6'.out.blk g6 rfl).1
                    have G7 : w.heap.size ≤ g7 := (P7'.out.blk g7 rfl).1
                    have G8 : w.heap.size ≤ g8 := (P8'.out.blk g8 rfl).1
                    obtain ⟨x0, _⟩ := BX.out.at 0 (by simp) _ rfl
                    obtain ⟨x1, _⟩ := BX.out.at 1 (by simp) _ rfl
                    obtain ⟨v6, f6⟩ := P6'.out.reads1 M hM1 (getD_set_eq _ _ _ _ hMt)
                    obtain ⟨v7, v7', f7, f7'⟩ := P7'.out.reads2 M hM1 (getD_set_eq _ _ _ _ hMt7)
                    obtain ⟨v8, f8⟩ := P8'.out.reads1 M hM1 (getD_set_eq _ _ _ _ hMt8)
                    rcases now with _ | nb
                    · have HN2 : Hid (nowI ok L d (k + 1) = some (ahead b r)) := Lib.hid (by rw [HN.out]; rfl)
                      have v8b : (w2.alloc (.cells #[.int .i64 (r.c + cc), .int .i64 (r.p + 1)] 123)).cell? ⟨g8, M, none⟩ = some (.bool false) := v8
                      clear HN HNG HL
                      go_quiet (fail)
                      go_upto_region 14 with fail
                      have E5 := (Ext.refl (w2.alloc (.cells #[.int .i64 (r.c + cc), .int .i64 (r.p + 1)] 123))).drewN nq
                      obtain ⟨E1, hE1⟩ : ∃ E1, (⟨#[67, 72, 83, 84]⟩ : ByteArray).extract k (k + 1) = E1 := ⟨_, rfl⟩
                      have hE2 := HEX.out
                      rw [hE1] at hE2
                      have hE1s : E1.size = 1 := by rw [hE2, mkS_size]; rfl
                      have HE2 := Lib.hid hE2
                      clear hE2
                      have hk1 : IntKind.i64.wrap ((k : Int) + 1) = (k : Int) + 1 := IntWalk.i64_in _ (by omega)
                      have hk2 : (0 : Int) ≤ (k : Int) + 1 := by omega
                      have hk3 : ((k : Int) + 1).toNat = k + 1 := by omega
                      have hk4' : (k : Int) + 1 ≤ 4 := by omega
                      have hs1 : ¬ (9223372036854775807 < 1 + rt.size) := by omega
                      have hs2 : ¬ (9223372036854775807 < E1.size + rt.size) := by omega
                      have hk5 : (0 : Int) ≤ (k : Int) := by omega
                      have hk6 : (k : Int) ≤ (k : Int) + 1 := by omega
                      have hk7 : k ≤ k + 1 := by omega
                      have hk8 : k + 1 ≤ 4 := by omega
                      go_region
                      all_goals
                        go_wp2_with fail
                        go_roundw
                        case rel =>
                          have R6 := fun (W : World) (e : Ext (w2.alloc (.cells #[.int .i64 (r.c + cc), .int .i64 (r.p + 1)] 123)) W) => ((((P6'.out.ext e).put1 M hM1 (.string (E1 ++ rt))).other (a := ⟨g7, M * 2, none⟩) (by simp; omega) (.int .i64 (r.c + cc))).other (a := ⟨g7, M * 2 + 1, none⟩) (by simp; omega) (.int .i64 (r.p + 1))).other (a := ⟨g8, M, none⟩) (by simp; omega) (.bool true)
                          have R7 := fun (W : World) (e : Ext (w2.alloc (.cells #[.int .i64 (r.c + cc), .int .i64 (r.p + 1)] 123)) W) => (((P7'.out.ext e).other (a := ⟨g6, M, none⟩) (by simp; omega) (.string (E1 ++ rt))).put2 M hM1 (.int .i64 (r.c + cc)) (.int .i64 (r.p + 1))).other (a := ⟨g8, M, none⟩) (by simp; omega) (.bool true)
                          have R8 := fun (W : World) (e : Ext (w2.alloc (.cells #[.int .i64 (r.c + cc), .int .i64 (r.p + 1)] 123)) W) => ((((P8'.out.ext e).other (a := ⟨g6, M, none⟩) (by simp; omega) (.string (E1 ++ rt))).other (a := ⟨g7, M * 2, none⟩) (by simp; omega) (.int .i64 (r.c + cc))).other (a := ⟨g7, M * 2 + 1, none⟩) (by simp; omega) (.int .i64 (r.p + 1))).put1 M hM1 (.bool true)
                          have RE := fun (W : World) (e : Ext (w2.alloc (.cells #[.int .i64 (r.c + cc), .int .i64 (r.p + 1)] 123)) W) => ((((EI.out.trans e).setCell (p := ⟨g6, M, none⟩) G6 (.string (E1 ++ rt))).setCell (p := ⟨g7, M * 2, none⟩) G7 (.int .i64 (r.c + cc))).setCell (p := ⟨g7, M * 2 + 1, none⟩) G7 (.int .i64 (r.p + 1))).setCell (p := ⟨g8, M, none⟩) G8 (.bool true)
                          simp only [List.set_set] at R6 R7 R8
                          have h6 : rT (nowI ok L d (k + 1)) = [.string (E1 ++ rt)] := by rw [HN2.out, HA6.out, HE2.out]
                          have h7 : rC (nowI ok L d (k + 1)) = [.int .i64 (r.c + cc), .int .i64 (r.p + 1)] := by rw [HN2.out, HA7.out]
                          have h8 : rK (nowI ok L d (k + 1)) = [.bool true] := by rw [HN2.out]; rfl
                          refine ⟨k + 1, by omega, by go_num, ?_, ?_, ?_, ?_⟩
                          · simp only [hM, h6]; exact R6 _ (by first | exact E5 | exact E5.drew | exact (Ext.refl _).drewN _ | exact E5.drewN _)
                          · simp only [hM, h7]; exact R7 _ (by first | exact E5 | exact E5.drew | exact (Ext.refl _).drewN _ | exact E5.drewN _)
                          · simp only [hM, h8]; exact R8 _ (by first | exact E5 | exact E5.drew | exact (Ext.refl _).drewN _ | exact E5.drewN _)
                          · first | exact RE _ (by first | exact E5 | exact E5.drew | exact (Ext.refl _).drewN _ | exact E5.drewN _) | exact (RE _ (by first | exact E5 | exact E5.drew | exact (Ext.refl _).drewN _ | exact E5.drewN _)).drew
                        case measure => simp [intOf]; omega
                    · obtain ⟨lo, hlo⟩ : ∃ lo, lessOI (ahead b r) (some nb) = lo := ⟨_, rfl⟩
                      have HL2 := Lib.hid (HL.out nb rfl)
                      rw [hlo] at HL2 HN
                      clear HL hlo HNG
                      have K1 : C1 (w2.alloc (.cells #[.int .i64 (r.c + cc), .int .i64 (r.p + 1)] 123)) g8 M (.bool true) := v8
                      have K2 : C2 (w2.alloc (.cells #[.int .i64 (r.c + cc), .int .i64 (r.p + 1)] 123)) g7 (M * 2) (.int .i64 nb.c) (.int .i64 nb.p) := ⟨v7, v7'⟩
                      have K3 : C2 (w2.alloc (.cells #[.int .i64 (r.c + cc), .int .i64 (r.p + 1)] 123)) w2.heap.size 0 (.int .i64 (r.c + cc)) (.int .i64 (r.p + 1)) := ⟨x0, x1⟩
                      clear v7 v7' v8 x0 x1 v6 f6 f7 f7' f8
                      go_region_held3 (fun W => C1 W g8 M (.bool true) ∧ C2 W g7 (M * 2) (.int .i64 nb.c) (.int .i64 nb.p) ∧ C2 W w2.heap.size 0 (.int .i64 (r.c + cc)) (.int .i64 (r.p + 1)) ∧ Ext (w2.alloc (.cells #[.int .i64 (r.c + cc), .int .i64 (r.p + 1)] 123)) W) (first | exact ⟨K1, K2, K3, (Ext.refl _).drew⟩ | exact keepBI (by assumption) (by assumption)) (first | (go_at_call 104; refine (HL2.out _).mono ?_; rintro e w5 ⟨rfl, e5⟩))
                      have E5 := heldBI (by assumption)
                      cases lo with
                      | false =>
                        go_wp2_with fail
                        go_roundw
                        case rel =>
                          have hn : nowI ok L d (k + 1) = some nb := by rw [HN.out, if_neg (by simp)]
                          first | refine ⟨k + 1, by omega, by go_num, ?_, ?_, ?_, EI.out.trans E5⟩ | ((repeat apply Exists.intro); refine ⟨⟨k + 1, by omega, by go_num, ?_, ?_, ?_, EI.out.trans E5⟩, rfl⟩)
                          · simp only [hM, hn]; exact P6'.out.ext E5
                          · simp only [hM, hn]; exact P7'.out.ext E5
                          · simp only [hM, hn]; exact P8'.out.ext E5
                        case measure => simp [intOf]; omega
                      | true =>
                        have HN2 : Hid (nowI ok L d (k + 1) = some (ahead b r)) := Lib.hid (by rw [HN.out, if_pos (by trivial)])
                        clear HN K1 K2 K3
                        replace s6c := E5.cell s6c
                        obtain ⟨v6, f6⟩ := (P6'.out.ext E5).reads1 M hM1 (getD_set_eq _ _ _ _ hMt)
                        obtain ⟨v7, v7', f7, f7'⟩ := (P7'.out.ext E5).reads2 M hM1 (getD_set_eq _ _ _ _ hMt7)
                        obtain ⟨v8, f8⟩ := (P8'.out.ext E5).reads1 M hM1 (getD_set_eq _ _ _ _ hMt8)
                        obtain ⟨x0, _⟩ := (BX.out.ext E5).at 0 (by simp) _ rfl
                        obtain ⟨x1, _⟩ := (BX.out.ext E5).at 1 (by simp) _ rfl
                        go_upto_region 14 with fail
                        obtain ⟨E1, hE1⟩ : ∃ E1, (⟨#[67, 72, 83, 84]⟩ : ByteArray).extract k (k + 1) = E1 := ⟨_, rfl⟩
                        have hE2 := HEX.out
                        rw [hE1] at hE2
                        have hE1s : E1.size = 1 := by rw [hE2, mkS_size]; rfl
                        have HE2 := Lib.hid hE2
                        clear hE2
                        have hk1 : IntKind.i64.wrap ((k : Int) + 1) = (k : Int) + 1 := IntWalk.i64_in _ (by omega)
                        have hk2 : (0 : Int) ≤ (k : Int) + 1 := by omega
                        have hk3 : ((k : Int) + 1).toNat = k + 1 := by omega
                        have hk4' : (k : Int) + 1 ≤ 4 := by omega
                        have hs1 : ¬ (9223372036854775807 < 1 + rt.size) := by omega
                        have hs2 : ¬ (9223372036854775807 < E1.size + rt.size) := by omega
                        have hk5 : (0 : Int) ≤ (k : Int) := by omega
                        have hk6 : (k : Int) ≤ (k : Int) + 1 := by omega
                        have hk7 : k ≤ k + 1 := by omega
                        have hk8 : k + 1 ≤ 4 := by omega
                        go_region
                        all_goals
                          go_wp2_with fail
                          go_roundw
                          case rel =>
                            have R6 := fun (W : World) (e : Ext (w2.alloc (.cells #[.int .i64 (r.c + cc), .int .i64 (r.p + 1)] 123)) W) => ((((P6'.out.ext e).put1 M hM1 (.string (E1 ++ rt))).other (a := ⟨g7, M * 2, none⟩) (by simp; omega) (.int .i64 (r.c + cc))).other (a := ⟨g7, M * 2 + 1, none⟩) (by simp; omega) (.int .i64 (r.p + 1))).other (a := ⟨g8, M, none⟩) (by simp; omega) (.bool true)
                            have R7 := fun (W : World) (e : Ext (w2.alloc (.cells #[.int .i64 (r.c + cc), .int .i64 (r.p + 1)] 123)) W) => (((P7'.out.ext e).other (a := ⟨g6, M, none⟩) (by simp; omega) (.string (E1 ++ rt))).put2 M hM1 (.int .i64 (r.c + cc)) (.int .i64 (r.p + 1))).other (a := ⟨g8, M, none⟩) (by simp; omega) (.bool true)
                            have R8 := fun (W : World) (e : Ext (w2.alloc (.cells #[.int .i64 (r.c + cc), .int .i64 (r.p + 1)] 123)) W) => ((((P8'.out.ext e).other (a := ⟨g6, M, none⟩) (by simp; omega) (.string (E1 ++ rt))).other (a := ⟨g7, M * 2, none⟩) (by simp; omega) (.int .i64 (r.c + cc))).other (a := ⟨g7, M * 2 + 1, none⟩) (by simp; omega) (.int .i64 (r.p + 1))).put1 M hM1 (.bool true)
                            have RE := fun (W : World) (e : Ext (w2.alloc (.cells #[.int .i64 (r.c + cc), .int .i64 (r.p + 1)] 123)) W) => ((((EI.out.trans e).setCell (p := ⟨g6, M, none⟩) G6 (.string (E1 ++ rt))).setCell (p := ⟨g7, M * 2, none⟩) G7 (.int .i64 (r.c + cc))).setCell (p := ⟨g7, M * 2 + 1, none⟩) G7 (.int .i64 (r.p + 1))).setCell (p := ⟨g8, M, none⟩) G8 (.bool true)
                            simp only [List.set_set] at R6 R7 R8
                            have h6 : rT (nowI ok L d (k + 1)) = [.string (E1 ++ rt)] := by rw [HN2.out, HA6.out, HE2.out]
                            have h7 : rC (nowI ok L d (k + 1)) = [.int .i64 (r.c + cc), .int .i64 (r.p + 1)] := by rw [HN2.out, HA7.out]
                            have h8 : rK (nowI ok L d (k + 1)) = [.bool true] := by rw [HN2.out]; rfl
                            refine ⟨k + 1, by omega, by go_num, ?_, ?_, ?_, ?_⟩
                            · simp only [hM, h6]; exact R6 _ (by first | exact E5 | exact E5.drew | exact (Ext.refl _).drewN _ | exact E5.drewN _)
                            · simp only [hM, h7]; exact R7 _ (by first | exact E5 | exact E5.drew | exact (Ext.refl _).drewN _ | exact E5.drewN _)
                            · simp only [hM, h8]; exact R8 _ (by first | exact E5 | exact E5.drew | exact (Ext.refl _).drewN _ | exact E5.drewN _)
                            · first | exact RE _ (by first | exact E5 | exact E5.drew | exact (Ext.refl _).drewN _ | exact E5.drewN _) | exact (RE _ (by first | exact E5 | exact E5.drew | exact (Ext.refl _).drewN _ | exact E5.drewN _)).drew
                          case measure => simp [intOf]; omega
          · obtain rfl : k = 4 := by omega
            rw [nowI_four, tab_succ _ _ _ _ _ hdl] at p6 p7 p8
            go_wp2
            go_roundw
            case rel => exact ⟨d + 1, by omega, by go_num, p6, p7, p8, ei⟩
            case measure => simp [intOf]; omega
      · obtain rfl : d = L := by omega
        have hg6 := tab_get (best ok d) rT [.string ByteArray.empty] [] d d 0 (by omega) (by omega)
        have hg8 := tab_get (best ok d) rK [.bool false] [] d d 0 (by omega) (by omega)
        rw [Nat.sub_zero] at hg6 hg8
        obtain ⟨s6, _⟩ := q6.reads1 0 (by omega) hg6
        obtain ⟨s8, _⟩ := q8.reads1 0 (by omega) hg8
        have HER := Lib.hid er
        obtain ⟨bt, hbt⟩ : ∃ v, tS (best ok d d) = v := ⟨_, rfl⟩
        obtain ⟨bk, hbk⟩ : ∃ v, (best ok d d).isSome = v := ⟨_, rfl⟩
        rw [hbt] at s6
        rw [hbk] at s8
        have HBT := Lib.hid hbt
        have HBK := Lib.hid hbk
        have hneg : ¬ (0 : Int) ≤ (d : Int) - 1 - d := by omega
        have h0 : (0 : Int) < (d : Int) + 1 := by omega
        clear hbt hbk hg6 hg8 q6 q7 q8 er
        go_wp2
        go_quiet (fail)
        go_wp2
        go_ret2
        exact RetE.mk (by rw [HBT.out, HBK.out]; rfl) (HER.out.drewN _)
end Go.Proofs.Ytehcmocknmfhcaa
