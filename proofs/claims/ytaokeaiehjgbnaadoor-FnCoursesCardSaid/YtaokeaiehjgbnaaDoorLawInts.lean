/- Contracts of the laws' own helpers over slices of integers: a copy, a comparison, marks that are written and looked for, the count of what came in. -/
import Derived.Test.YtaokeaiehjgbnaaDoorRows
import Derived.Test.YtaokeaiehjgbnaaDoorMem
namespace Go.Proofs.YtaokeaiehjgbnaaDoor
open Go.RowKit
set_option linter.unusedSimpArgs false
set_option linter.unusedVariables false
set_option linter.unnecessarySimpa false

theorem info_i64 : (Tryd.prog.info? 2).map (fun i => (i.zero, i.size, i.bytes)) = some (some (.int .i64 0), 1, 8) := by kernel_rfl

/-- a slice of integers that the call made is handed back -/
def RetInts (xs : List Int) (w : World) (e : Ending) (w' : World) : Prop := ∃ ao cap, e = .returned (.slice ao xs.length cap) ∧ OwnInts 2 w' w.heap.size (.slice ao xs.length cap) xs ∧ Ext w w'
/-- a value is handed back; nothing that was there has changed -/
def RetE (v : Value) (w : World) (e : Ending) (w' : World) : Prop := e = .returned v ∧ Ext w w'
theorem RetE.mk {v v' : Value} {w w' : World} (h : v' = v) (e : Ext w w') : RetE v w (.returned v') w' := ⟨by rw [h], e⟩

theorem ret_slice {ao : Option Addr} {n m c : Nat} (h : n = m) : Ending.returned (.slice ao n c) = .returned (.slice ao m c) := by rw [h]

theorem RetInts.of_own {xs : List Int} {w w' : World} {v : Value} (h : OwnInts 2 w' w.heap.size v xs) (e : Ext w w') : RetInts xs w (.returned v) w' := by
  obtain ⟨ao, cap, rfl, _, _⟩ := h.shape
  exact ⟨ao, cap, rfl, h, e⟩

/-- a slice of integers and a code are handed back -/
def RetIntsC (xs : List Int) (c : Int) (w : World) (e : Ending) (w' : World) : Prop := ∃ ao cap, e = .returned (.tuple #[.slice ao xs.length cap, .int .i64 c]) ∧ OwnInts 2 w' w.heap.size (.slice ao xs.length cap) xs ∧ Ext w w'
theorem RetIntsC.of_own {xs : List Int} {c c' : Int} {w w' : World} {v : Value} (h : OwnInts 2 w' w.heap.size v xs) (e : Ext w w') (hc : c' = c) : RetIntsC xs c w (.returned (.tuple #[v, .int .i64 c'])) w' := by
  obtain ⟨ao, cap, rfl, _, _⟩ := h.shape
  exact ⟨ao, cap, by rw [hc], h, e⟩

/-- one integer is appended to a row of the call's own -/
theorem wpList_append_int {W w0 w : World} {ops : Array Oper} {rest : List Oper} {o : Oper} {a : Act} {Q : Exit → Act → World → Prop} (hgd : o.guard = none) (s x : Operand)
    (ho : o.op = .call { callee := .builtin .append, args := #[s, x], argTypes := #[22, 22] })
    (v : Value) (xs : List Int) (y : Int) (hs : a.eval s = v) (hw : w = w0.alloc (.cells #[.int .i64 y] 2)) (hx : a.eval x = .slice (some ⟨w0.heap.size, 0, none⟩) 1 1)
    (hown : OwnInts 2 w0 W.heap.size v xs) (e : Ext W w0) (hy : IsI64 y) (hlen : xs.length ≤ 1000000000)
    (h : ∀ v' w', OwnInts 2 w' W.heap.size v' (xs ++ [y]) → Ext W w' → wpList Tryd.prog ops Q rest (a.put o.dst v') w') : wpList Tryd.prog ops Q (o :: rest) a w := by
  obtain ⟨i0, hi, hz0, hz1, hz2⟩ := info_parts info_i64
  subst hw
  refine wpList_append_own _ hgd s x 22 ho W.heap.size 2 i0 (.int .i64 0) 1 8 Tryd.underlying22 hi hz0 hz1 hz2 rfl (by decide) v xs.length (xs.map (Value.int .i64)) hs (hown.1.alloc _)
    ⟨w0.heap.size, 0, none⟩ 1 1 [.int .i64 y] hx rfl (cell_one_new _ _ _) (by intro u hu; simp at hu; subst hu; rfl) (by unfold maxLen; omega) (by omega) (by have := e.size; simp; omega) ?_
  intro v' w' ho' hg _
  refine h v' w' ⟨?_, ?_⟩ ?_
  · simpa using ho'
  · intro z hz
    rcases List.mem_append.1 hz with hz | hz
    · exact hown.2 z hz
    · simp at hz; subst hz; exact hy
  · exact (e.alloc _).grown hg (fun k hk => (hown.1.lt k hk).1)

theorem copied (xs : List Int) (n k : Nat) (hx : xs.length = n) (hk : k < n) :
    ((xs.take k).map (Value.int .i64) ++ List.replicate (n - k) (Value.int .i64 0)).set k (.int .i64 (xs.getD k 0)) = (xs.take (k + 1)).map (Value.int .i64) ++ List.replicate (n - (k + 1)) (Value.int .i64 0) := by
  have h1 : ((xs.take k).map (Value.int .i64)).length = k := by simp; omega
  have h2 : n - k = (n - (k + 1)) + 1 := by omega
  rw [List.set_append_right _ _ (by omega), h1, Nat.sub_self, h2, List.replicate_succ, List.set_cons_zero, List.take_succ_eq_append_getElem (by omega), List.map_append, List.append_assoc]
  congr 1
  simp [List.getD_eq_getElem?_getD, List.getElem?_eq_getElem (show k < xs.length by omega)]

set_option maxHeartbeats 400000 in
theorem l_toInt64S (ao : Option Addr) (n c : Nat) (xs : List Int) (w : World) (hx : Ints w ao n xs) (hn : n ≤ 1048576) :
    Calls Tryd.prog 31 #[.slice ao n c] w (RetInts xs w) := by
  obtain ⟨i0, hi, hz0, hz1, hz2⟩ := info_parts info_i64
  have hxl := hx.1
  go_enter Tryd.func31, Tryd.ntmps31
  go_wp2_with (at_make; refine wpList_make_full _ rfl _ _ 22 rfl w.heap.size 2 i0 (.int .i64 0) 1 Tryd.underlying22 hi hz0 hz1 _ _ _ _ n rfl rfl rfl rfl ?b2 ?b3 ?b4 ?_)
  case b2 => rw [hz2]; omega
  case b3 => unfold maxLen; omega
  case b4 => exact Nat.le_refl _
  intro w1 hown hgrow
  have e1 : Ext w w1 := Ext.grown (Ext.refl w) hgrow (by intro k h; cases h)
  rw [toList_madeCells_one] at hown
  clear hgrow
  go_wp2
  go_loopw [4] (fun i wr => ∃ k : Nat, k ≤ n ∧ i = .int .i64 k ∧ wr.ownsRow w.heap.size 2 1 (.slice (some ⟨w.heap.size, 0, none⟩) n n) n ((xs.take k).map (Value.int .i64) ++ List.replicate (n - k) (Value.int .i64 0)) ∧ Ext w wr) (fun i _ => n - (intOf i).toNat)
  case atStart => exact ⟨0, Nat.zero_le _, rfl, by simpa using hown, e1⟩
  case round =>
    obtain ⟨k, hk, rfl, ho, er⟩ := hrel
    clear hown e1
    by_cases hlt : k < n
    · obtain ⟨b, off, rfl, hc⟩ := (hx.ext er).2.2.1 k hlt
      have hcell := ho.cellAt k (by omega)
      have hfr := ho.frozenAt k
      obtain ⟨u0, hu0⟩ : ∃ u0, ((xs.take k).map (Value.int .i64) ++ List.replicate (n - k) (Value.int .i64 0))[k]? = some u0 := ⟨_, List.getElem?_eq_getElem (by simp; omega)⟩
      rw [hu0] at hcell
      clear hu0
      have hst := ho.stored k (.int .i64 (xs.getD k 0))
      have es := er.setCell (p := ⟨w.heap.size, k, none⟩) (Nat.le_refl _) (.int .i64 (xs.getD k 0))
      rw [copied xs n k hxl hlt] at hst
      go_wp2
      go_roundw
      case rel =>
        have hkx : k < xs.length := by omega
        exact ⟨k + 1, by omega, by go_num, by simpa [hkx] using hst.1, by simpa [hkx] using es⟩
      case measure => simp [intOf]; omega
    · go_wp2
      go_ret
      obtain rfl : k = n := by omega
      refine ⟨_, _, ret_slice hxl.symm, ⟨?_, hx.2.2.2⟩, er⟩
      rw [hxl]
      simpa [List.take_of_length_le (show xs.length ≤ k by omega)] using ho
set_option maxHeartbeats 400000 in
theorem l_eqInt64S (ao bo : Option Addr) (n m c d : Nat) (xs ys : List Int) (w : World) (hx : Ints w ao n xs) (hy : Ints w bo m ys) :
    Calls Tryd.prog 35 #[.slice ao n c, .slice bo m d] w (RetE (.bool (xs == ys)) w) := by
  obtain ⟨hxl, hxm, hxc, hxi⟩ := hx
  obtain ⟨hyl, hym, hyc, hyi⟩ := hy
  by_cases hnm : (n : Int) = m
  · have hnm2 : n = m := by omega
    go_enter Tryd.func35, Tryd.ntmps35
    go_wp2
    go_loopw [5] (fun i wr => ∃ k : Nat, k ≤ n ∧ i = .int .i64 k ∧ xs.take k = ys.take k ∧ Ext w wr) (fun i _ => n - (intOf i).toNat)
    case atStart => exact ⟨0, Nat.zero_le _, rfl, by simp, Ext.refl _⟩
    case round =>
      obtain ⟨k, hk, rfl, htk, er⟩ := hrel
      have HT := Lib.hid htk; clear htk
      by_cases hlt : k < n
      · obtain ⟨b, off, rfl, hc⟩ := hxc k hlt
        obtain ⟨b', off', rfl, hc'⟩ := hyc k (by omega)
        obtain ⟨x, hxk⟩ : ∃ x, xs.getD k 0 = x := ⟨_, rfl⟩
        obtain ⟨y, hyk⟩ : ∃ y, ys.getD k 0 = y := ⟨_, rfl⟩
        have g1 := er.cell hc
        have g2 := er.cell hc'
        rw [hxk] at g1
        rw [hyk] at g2
        have hltm : (k : Int) < m := by omega
        have hkx : k < xs.length := by omega
        have hky : k < ys.length := by omega
        rw [List.getD_eq_getElem?_getD, List.getElem?_eq_getElem hkx, Option.getD_some] at hxk
        rw [List.getD_eq_getElem?_getD, List.getElem?_eq_getElem hky, Option.getD_some] at hyk
        have HX := Lib.hid hxk
        have HY := Lib.hid hyk
        clear hc hc' hxc hyc hxk hyk
        by_cases he : x = y
        · subst he
          go_wp2
          go_quiet (fail)
          go_wp2
          go_roundw
          case rel =>
            refine ⟨k + 1, by omega, by go_num, ?_, er.drewN _⟩
            rw [List.take_succ_eq_append_getElem hkx, List.take_succ_eq_append_getElem hky, HT.out, HX.out, HY.out]
          case measure => simp [intOf]; omega
        · have t2 : ((x : Int) != y) = true := by simp [he]
          have hne : (xs == ys) = false := by
            rw [beq_eq_false_iff_ne]; intro h; subst h; exact he (HX.out.symm.trans HY.out)
          have HN := Lib.hid hne
          clear hne
          go_wp2
          go_quiet (fail)
          go_wp2
          go_ret
          exact RetE.mk (bool_eq HN.out.symm) (er.drewN _)
      · go_wp2
        go_ret
        have h := HT.out
        rw [List.take_of_length_le (by omega), List.take_of_length_le (by omega)] at h
        exact RetE.mk (bool_eq (by rw [h]; simp)) er
  · have hne : (xs == ys) = false := by
      rw [beq_eq_false_iff_ne]; intro h; subst h; omega
    have HN := Lib.hid hne
    clear hne
    go_enter Tryd.func35, Tryd.ntmps35
    go_wp2
    go_ret
    exact RetE.mk (bool_eq HN.out.symm) (Ext.refl _)
/-- the marks k, k+1, .. -/
def marks (k : Int) : Nat → List Int
  | 0 => []
  | n + 1 => k :: marks (k + 1) n
theorem marks_length (n : Nat) : ∀ k, (marks k n).length = n := by induction n with | zero => intro k; rfl | succ n ih => intro k; simp [marks, ih]
theorem marks_get (n : Nat) : ∀ (k : Int) (i : Nat), i < n → (marks k n)[i]? = some (k + i) := by
  induction n with
  | zero => intro k i h; omega
  | succ n ih =>
    intro k i h
    cases i with
    | zero => simp [marks]
    | succ i => simp only [marks, List.getElem?_cons_succ]; rw [ih _ _ (by omega)]; congr 1; omega
theorem marks_mem {n : Nat} {k x : Int} (h : x ∈ marks k n) : k ≤ x ∧ x < k + n := by
  obtain ⟨i, hi, rfl⟩ := List.mem_iff_getElem.1 h
  rw [marks_length] at hi
  have := marks_get n k i hi
  rw [List.getElem?_eq_getElem (by rw [marks_length]; exact hi)] at this
  have := Option.some.inj this
  omega
theorem marked (k : Int) (xs : List Int) (n j : Nat) (hx : xs.length = n) (hj : j < n) :
    ((marks k j).map (Value.int .i64) ++ (xs.drop j).map (Value.int .i64)).set j (.int .i64 (k + j)) = (marks k (j + 1)).map (Value.int .i64) ++ (xs.drop (j + 1)).map (Value.int .i64) := by
  apply List.ext_getElem?
  intro i
  have hl : ((marks k j).map (Value.int .i64)).length = j := by simp [marks_length]
  have hl2 : ((marks k (j + 1)).map (Value.int .i64)).length = j + 1 := by simp [marks_length]
  rcases Nat.lt_trichotomy i j with h | h | h
  · rw [List.getElem?_set_ne (by omega), List.getElem?_append_left (by omega), List.getElem?_append_left (by omega), List.getElem?_map, List.getElem?_map, marks_get _ _ _ h, marks_get _ _ _ (by omega)]
  · subst h
    rw [List.getElem?_set_self (by simp [marks_length]; omega), List.getElem?_append_left (by omega), List.getElem?_map, marks_get _ _ _ (by omega)]
    rfl
  · rw [List.getElem?_set_ne (by omega), List.getElem?_append_right (by omega), List.getElem?_append_right (by omega), hl, hl2, List.getElem?_map, List.getElem?_map, List.getElem?_drop, List.getElem?_drop]
    congr 2
    omega

/-- Marks have been written into the row v of the call's own, and nothing else has changed. -/
def RetMark (base : Nat) (v : Value) (k : Int) (n : Nat) (w : World) (e : Ending) (w' : World) : Prop :=
  e = .returned (.int .i64 (k + n)) ∧ OwnInts 2 w' base v (marks k n) ∧ w.grownBy w' v.ownBlock
set_option maxHeartbeats 400000 in
theorem l_markInt64S (base : Nat) (ao : Option Addr) (n c : Nat) (k : Int) (xs : List Int) (w : World) (hl : xs.length = n) (hx : OwnInts 2 w base (.slice ao n c) xs) (hn : n ≤ 1000000000) (k1 : 0 ≤ k) (k2 : k ≤ 1000000000) :
    Calls Tryd.prog 40 #[.slice ao n c, .int .i64 k] w (RetMark base (.slice ao n c) k n w) := by
  subst hl
  have hxl : xs.length = xs.length := rfl
  generalize hn' : xs.length = n at *
  go_enter Tryd.func40, Tryd.ntmps40
  go_wp2
  go_loopw [1, 5] (fun q i wr => ∃ j : Nat, j ≤ n ∧ i = .int .i64 j ∧ q = .int .i64 (k + j) ∧ wr.ownsRow base 2 1 (.slice ao n c) n ((marks k j).map (Value.int .i64) ++ (xs.drop j).map (Value.int .i64)) ∧ w.grownBy wr (Value.slice ao n c).ownBlock) (fun _ i _ => n - (intOf i).toNat)
  case atStart => exact ⟨0, Nat.zero_le _, rfl, by simp, by simpa [marks, hn'] using hx.1, World.grownBy.refl _ _⟩
  case round =>
    obtain ⟨j, hj, rfl, rfl, ho, hg⟩ := hrel
    by_cases hlt : j < n
    · obtain ⟨g, rfl⟩ : ∃ g, ao = some ⟨g, 0, none⟩ := by
        rcases ho.2 with ⟨h, _⟩ | ⟨g, cap, cur, h, _⟩
        · simp at h; omega
        · simp at h; exact ⟨g, h.1⟩
      have hcell := ho.cellAt j (by omega)
      have hfr := ho.frozenAt j
      obtain ⟨u0, hu0⟩ : ∃ u0, ((marks k j).map (Value.int .i64) ++ (xs.drop j).map (Value.int .i64))[j]? = some u0 := ⟨_, List.getElem?_eq_getElem (by simp [marks_length]; omega)⟩
      rw [hu0] at hcell
      clear hu0
      have hst := ho.stored j (.int .i64 (k + j))
      rw [marked k xs n j hn' hlt] at hst
      have hgg : w.grownBy (wr.setCell ⟨g, j, none⟩ (.int .i64 (k + j))) (some g) := by
        have hg' : w.grownBy wr (some g) := hg
        exact ⟨hst.2.os.trans hg'.os, hst.2.tape.trans hg'.tape, hst.2.output.trans hg'.output, Nat.le_trans hg'.size hst.2.size, fun i hi hne => (hst.2.block i (Nat.lt_of_lt_of_le hi hg'.size) hne).trans (hg'.block i hi hne)⟩
      go_wp2
      go_roundw
      case rel => exact ⟨j + 1, by omega, by go_num, by go_num, hst.1, hgg⟩
      case measure => simp [intOf]; omega
    · go_wp2
      go_ret
      obtain rfl : j = n := by omega
      refine ⟨rfl, ⟨?_, fun x hx => ?_⟩, hg⟩
      · rw [marks_length]
        simpa [List.drop_of_length_le (show xs.length ≤ j by omega)] using ho
      · have := marks_mem hx
        unfold IsI64; omega
set_option maxHeartbeats 400000 in
theorem l_heldInt64S (ao : Option Addr) (n c : Nat) (k : Int) (w : World) (hx : Ints w ao n (marks k n)) (hn : n ≤ 1000000000) (k1 : 0 ≤ k) (k2 : k ≤ 1000000000) :
    Calls Tryd.prog 41 #[.slice ao n c, .int .i64 k] w (RetV (.int .i64 (k + n)) w) := by
  obtain ⟨hxl, hxm, hxc, hxi⟩ := hx
  go_enter Tryd.func41, Tryd.ntmps41
  go_wp2
  go_loop [1, 5] (fun q i => ∃ j : Nat, j ≤ n ∧ i = .int .i64 j ∧ q = .int .i64 (k + j)) (fun _ i => n - (intOf i).toNat)
  case atStart => exact ⟨0, Nat.zero_le _, rfl, by simp⟩
  case round =>
    obtain ⟨j, hj, rfl, rfl⟩ := hrel
    by_cases hlt : j < n
    · obtain ⟨b, off, rfl, hc⟩ := hxc j hlt
      rw [List.getD_eq_getElem?_getD, marks_get n k j hlt, Option.getD_some] at hc
      go_wp2
      go_round
      case rel => exact ⟨j + 1, by omega, by go_num, by go_num⟩
      case measure => simp [intOf]; omega
    · go_wp2
      go_ret
      obtain rfl : j = n := by omega
      exact RetV.mk rfl
theorem l_szInt64S (ao : Option Addr) (n c : Nat) (k : Int) (w : World) (hn : n ≤ 9223372036854775807) (k1 : 0 ≤ k) (k2 : k ≤ 1000000000) :
    Calls Tryd.prog 28 #[.slice ao n c, .int .i64 k] w (RetV (.int .i64 (sel (decide ((n : Int) ≤ k)) (k - n) (-1))) w) := by
  by_cases h : (n : Int) ≤ k
  all_goals
    go_enter Tryd.func28, Tryd.ntmps28
    go_wp2
    go_ret
    exact RetV.mk (int_eq (by simp only [sel, decide_eq_true_eq]; split <;> omega))
end Go.Proofs.YtaokeaiehjgbnaaDoor
