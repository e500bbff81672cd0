/- A group of texts, one behind the other: Runs, RunsI. -/
import Derived.Test.YtaokeaiehjgbnaaGreatDoorDec2
import Derived.Test.YtaokeaiehjgbnaaGreatDoorGaDm
import Derived.Test.YtaokeaiehjgbnaaGreatDoorGaStrs
import Derived.Test.YtaokeaiehjgbnaaGreatDoorCourse
import Derived.Test.YtaokeaiehjgbnaaGreatDoorCls
/- Contracts of the short text of a course, on both sides. -/
namespace Go.Proofs.YtaokeaiehjgbnaaGreatDoor
open Go.RowKit
set_option linter.unusedSimpArgs false
set_option linter.unusedVariables false
set_option linter.unnecessarySimpa false

theorem blk_oldR {w : World} {o x : Obj} {k : Nat} (h : w.heap[k]? = some x) : (w.alloc o).heap[k]? = some x := by rw [heap_alloc_old w o (lt_of_block h)]; exact h
/-- a text is appended, as one step of a region -/
theorem step_append_str {W w0 w : World} {ops : Array Oper} {o : Oper} {a : Act} {K : Act → World → Prop} {Q : Exit → Act → World → Prop} {E : Prop} (hgd : o.guard = none) (s x : Operand)
    (ho : o.op = .call { callee := .builtin .append, args := #[s, x], argTypes := #[59, 59] })
    (v : Value) (l : List ByteArray) (b : ByteArray) (hs : a.eval s = v) (hw : w = w0.alloc (.cells #[.string b] 9)) (hx : a.eval x = .slice (some ⟨w0.heap.size, 0, none⟩) 1 1)
    (hown : OwnStrs w0 W.heap.size v l) (e : Ext W w0) (hb : b.size ≤ 9223372036854775807) (hlen : l.length ≤ 10000000)
    (h : ∀ v' w', OwnStrs w' W.heap.size v' (l ++ [b]) → Ext W w' → (∀ k o', w0.heap[k]? = some o' → v.ownBlock ≠ some k → w'.heap[k]? = some o') → K (a.put o.dst v') w') :
    if Region.wanted o (yielded ops a.tmps) = true then Oper.wp Tryz.prog o a w K Q else E := by
  have hw' : Region.wanted o (yielded ops a.tmps) = true := by simp [Region.wanted, hgd]
  rw [if_pos hw']
  obtain ⟨i0, hi, hz0, hz1, hz2⟩ := info_parts info_str
  subst hw
  refine wp_append_own _ s x 59 ho W.heap.size 9 i0 (.string ByteArray.empty) 1 16 Tryz.underlying59 hi hz0 hz1 hz2 rfl (by decide) v l.length (l.map Value.string) hs (World.ownsRow.alloc hown.1 _)
    ⟨w0.heap.size, 0, none⟩ 1 1 [.string b] hx rfl (cells_new _ _ _) (by intro u hu; simp at hu; subst hu; rfl) (by unfold maxLen; omega) (by omega) (by have := e.size; simp; omega) ?_
  intro v' w' ho' hg _
  refine h v' w' ⟨by simpa using ho', fun z hz => ?_⟩ ((e.alloc _).grown hg (fun k hk => (hown.1.lt k hk).1)) (fun k o' hk hne => ?_)
  · rcases List.mem_append.1 hz with hz | hz
    · exact hown.2 z hz
    · simp at hz; subst hz; exact hb
  · exact (hg.block k (by have := lt_of_block hk; simp; omega) (fun e => hne (by simpa using e.symm))).trans (blk_oldR hk)
/-- the short text of a course -/
def crun (l : List UInt8) : List UInt8 := if validC l then Lib.join (runs l) [32] else []
theorem decS_len {n : Nat} (h : n ≤ 200) : (Lib.itoa (n : Int)).length ≤ 20 := by
  rw [itoa_natP]
  split
  · simp
  · exact decP_len (by omega)
theorem itoa_pos (d : Nat) : 0 < (Lib.itoa (d : Int)).length := by
  rw [itoa_natP]
  split
  · decide
  · exact List.length_pos_iff.2 (decP_ne (by omega))
def EW (w W : World) : Prop := Ext w W
theorem EW.mk0 (w : World) : EW w w.drew := (Ext.refl w).drew
theorem EW.mk1 (w : World) (n : Nat) : EW w (w.drewN n).drew := ((Ext.refl w).drewN n).drew
theorem keepEW {w W W' : World} (h : EW w W) (e : Ext W W') : EW w W' := Ext.trans h e
theorem str_isE {l : List UInt8} : (mkS l).toList.isEmpty = l.isEmpty := by rw [ByteArray.toList_eq]; rfl
theorem str_nilE {l : List UInt8} : (mkS l).toList = l := by rw [ByteArray.toList_eq]; rfl
theorem join_ne {ws : List (List UInt8)} (h : ws ≠ []) (h2 : ∀ x ∈ ws, 1 ≤ x.length) : Lib.join ws [32] ≠ [] := by
  cases ws with
  | nil => exact absurd rfl h
  | cons x r =>
    have h1 := h2 x (by simp)
    intro e
    have hl := congrArg List.length e
    unfold Lib.join at hl
    cases r with
    | nil => simp at hl; subst hl; simp at h1
    | cons y r =>
      rw [List.intercalate_cons_cons, List.length_append] at hl
      simp at hl
/-- the loop over equal letters: what it knows -/
theorem run_more (s : ByteArray) (k j : Nat) (hj : j < s.size) (hk : k < s.size) (hkj : k ≤ j) (h : (bts s).drop k = List.replicate (j - k) s[k] ++ (bts s).drop j) (he : s[j] = s[k]) :
    (bts s).drop k = List.replicate (j + 1 - k) s[k] ++ (bts s).drop (j + 1) := by
  obtain ⟨h1, h2⟩ := byte_at s j hj
  have e := List.drop_eq_getElem_cons h1
  rw [h2] at e
  have e2 : (bts s).drop j = s[j]'hj :: (bts s).drop (j + 1) := e
  rw [he] at e2
  rw [h, e2, show j + 1 - k = (j - k) + 1 by omega, List.replicate_succ', List.append_assoc]
  rfl
/-- .. and what follows behind it -/
theorem run_done (s : ByteArray) (k j : Nat) (hk : k < s.size) (hkj : k < j) (hjs : j ≤ s.size) (h : (bts s).drop k = List.replicate (j - k) s[k] ++ (bts s).drop j) (hne : ∀ h : j < s.size, s[j] ≠ s[k]) :
    runs ((bts s).drop k) = (Lib.itoa ((j - k : Nat) : Int) ++ [s[k]]) :: runs ((bts s).drop j) := by
  obtain ⟨m, hm⟩ : ∃ m, j - k = m + 1 := ⟨j - k - 1, by omega⟩
  rw [h, hm, runs_rep]
  intro e
  rw [List.head?_drop] at e
  obtain ⟨h1, h2⟩ := List.getElem?_eq_some_iff.1 e
  rw [bts_length] at h1
  refine hne h1 ?_
  obtain ⟨h3, h4⟩ := byte_at s j h1
  exact h4.symm.trans h2
theorem ext_one (s : ByteArray) (k : Nat) (hk : k < s.size) : s.extract k (k + 1) = mkS [s[k]] := by
  rw [← mkS_bts (s.extract k (k + 1))]
  congr 1
  rw [show bts (s.extract k (k + 1)) = ((bts s).take (k + 1)).drop k by unfold bts; rw [ByteArray.data_extract, Array.toList_extract, List.extract_eq_take_drop, List.drop_take], take_snoc s k hk, List.drop_left' (by rw [List.length_take, bts_length]; omega)]
end Go.Proofs.YtaokeaiehjgbnaaGreatDoor

/- Contracts of the short text of a course: the program's, and the reference's whole function. -/
namespace Go.Proofs.YtaokeaiehjgbnaaGreatDoor
open Go.RowKit
set_option linter.unusedSimpArgs false
set_option linter.unusedVariables false
set_option linter.unnecessarySimpa false

/-- the words that the call made, joined -/
theorem OwnStrs.join {w : World} {base n cap : Nat} {ao : Option Addr} {xs : List ByteArray} (h : OwnStrs w base (.slice ao n cap) xs) (hne : xs ≠ []) (sep : ByteArray) (hl : (Lib.join (xs.map bts) (bts sep)).length ≤ 140737488355328) (hxl : xs.length ≤ 140737488355328) :
    Calls Tryz.prog 40 #[.slice ao n cap, .string sep] w (RetE (.string (mkS (Lib.join (xs.map bts) (bts sep)))) w) := by
  have hn : n = xs.length := by
    obtain ⟨a, c, hv, _⟩ := h.shape
    simp only [Value.slice.injEq] at hv
    exact hv.2.1
  subst hn
  have hrow := h.1
  rcases h.1.2 with ⟨hv, h0⟩ | ⟨g, cap', cur, hv, hg, hh, hc, hm, hcur, htake⟩
  · exact absurd (List.eq_nil_of_length_eq_zero h0) hne
  · simp only [Value.slice.injEq] at hv
    obtain ⟨rfl, _, rfl⟩ := hv
    refine Calls.mono (Tryz.strings_Join g 0 cap xs sep w (fun j x hx => ?_) (lt_of_block hh) hxl hc hl) ?_
    · rw [Nat.zero_add, hrow.cellAt j (by have := (List.getElem?_eq_some_iff.1 hx).1; omega), List.getElem?_map, hx]; rfl
    · rintro e w' ⟨rfl, e1⟩
      exact ⟨rfl, e1⟩
theorem EW.mk2 {w wr : World} (h : Ext w wr) (n : Nat) : EW w (wr.drewN n).drew := (h.drewN n).drew
theorem wrap_in (x : Int) (h1 : -9223372036854775808 ≤ x) (h2 : x ≤ 9223372036854775807) : IntKind.i64.wrap x = x := by
  unfold IntKind.wrap
  simp [IntKind.signed, IntKind.bits]
  omega
theorem crun_t {l : List UInt8} (h : validC l = true) : crun l = Lib.join (runs l) [32] := if_pos h
theorem crun_f {l : List UInt8} (h : ¬ validC l = true) : crun l = [] := if_neg h
end Go.Proofs.YtaokeaiehjgbnaaGreatDoor
