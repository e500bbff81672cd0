/- A group of texts, one behind the other: RowAdd, Strs, Strs2. -/
import Derived.Test.YtdedamamjkpcpaaGreatDoorBytes
import Derived.Deep.RegionHeld3
/- Rows of the call's own, of whatever element: appending one element; rows of bytes. -/
namespace Go.Proofs.YtdedamamjkpcpaaGreatDoor
open Go.RowKit
set_option linter.unusedSimpArgs false
set_option linter.unusedVariables false
set_option linter.unnecessarySimpa false

theorem cells_new (w : World) (news : List Value) (E : TypeId) : ∀ j u, news[j]? = some u → (w.alloc (.cells news.toArray E)).cell? ((⟨w.heap.size, 0, none⟩ : Addr).add j) = some u := by
  intro j u hu
  rw [Addr.add_lit, Nat.zero_add, World.cell?_alloc_new]
  simpa using hu

/-- one element is appended to a row of the call's own -/
theorem wpList_append_gen {P : Program} {W w0 w : World} {ops : Array Oper} {rest : List Oper} {o : Oper} {a : Act} {Q : Exit → Act → World → Prop} (T E : TypeId) (z : Value) (size bytes : Nat)
    (hT : P.underlying T = some (.slice E)) (hinfo : (P.info? E).map (fun i => (i.zero, i.size, i.bytes)) = some (some z, size, bytes)) (hzs : z.cells.size = size) (hsz : 0 < size) (hby : bytes ≤ 1000)
    (hgd : o.guard = none) (s x : Operand) (ho : o.op = .call { callee := .builtin .append, args := #[s, x], argTypes := #[T, T] })
    (v : Value) (n : Nat) (xs news : List Value) (hs : a.eval s = v) (hw : w = w0.alloc (.cells news.toArray E)) (hx : a.eval x = .slice (some ⟨w0.heap.size, 0, none⟩) 1 1)
    (hl : news.length = size) (h1 : ∀ u ∈ news, u.oneCell' = true)
    (hown : w0.ownsRow W.heap.size E size v n xs) (e : Ext W w0) (hlen : n ≤ 10000000)
    (h : ∀ v' w', w'.ownsRow W.heap.size E size v' (n + 1) (xs ++ news) → Ext W w' → wpList P ops Q rest (a.put o.dst v') w') : wpList P ops Q (o :: rest) a w := by
  obtain ⟨i0, hi, hz0, hz1, hz2⟩ := info_parts hinfo
  subst hw
  refine wpList_append_own _ hgd s x T ho W.heap.size E i0 z size bytes hT hi hz0 hz1 hz2 hzs hsz v n xs hs (hown.alloc _)
    ⟨w0.heap.size, 0, none⟩ 1 1 news hx (by rw [hl, Nat.one_mul]) (cells_new _ _ _) h1 (by unfold maxLen; omega) (by have : (n + 1) * bytes ≤ 10000001 * 1000 := Nat.mul_le_mul (by omega) hby; omega) (by have := e.size; simp; omega) ?_
  intro v' w' ho' hg _
  exact h v' w' ho' ((e.alloc _).grown hg (fun k hk => (hown.lt k hk).1))

/-- A row of the call's own that holds these bytes. -/
def OwnB (w : World) (base : Nat) (v : Value) (l : List UInt8) : Prop := w.ownsRow base 5 1 v l.length (l.map u8V)
theorem OwnB.ext {w w' : World} {base : Nat} {v : Value} {l : List UInt8} (h : OwnB w base v l) (e : Ext w w') : OwnB w' base v l := ownsRow_ext h e
theorem OwnB.empty {W w : World} (e : Ext W w) : OwnB (w.alloc (.cells #[] 5)) W.heap.size (.slice (some ⟨w.heap.size, 0, none⟩) 0 0) [] :=
  World.ownsRow_made w #[] 0 e.size (by unfold maxLen; omega) rfl
theorem info_u8 : (Tryz.prog.info? 5).map (fun i => (i.zero, i.size, i.bytes)) = some (some (.int .u8 0), 1, 1) := by kernel_rfl
theorem wpList_append_u8 {W w0 w : World} {ops : Array Oper} {rest : List Oper} {o : Oper} {a : Act} {Q : Exit → Act → World → Prop} (hgd : o.guard = none) (s x : Operand)
    (ho : o.op = .call { callee := .builtin .append, args := #[s, x], argTypes := #[22, 22] })
    (v : Value) (l : List UInt8) (b : UInt8) (hs : a.eval s = v) (hw : w = w0.alloc (.cells #[.int .u8 (b.toNat : Int)] 5)) (hx : a.eval x = .slice (some ⟨w0.heap.size, 0, none⟩) 1 1)
    (hown : OwnB w0 W.heap.size v l) (e : Ext W w0) (hlen : l.length ≤ 10000000)
    (h : ∀ v' w', OwnB w' W.heap.size v' (l ++ [b]) → Ext W w' → wpList Tryz.prog ops Q rest (a.put o.dst v') w') : wpList Tryz.prog ops Q (o :: rest) a w := by
  refine wpList_append_gen 22 5 (.int .u8 0) 1 1 Tryz.underlying22 info_u8 rfl (by decide) (by decide) hgd s x ho v l.length (l.map u8V) [.int .u8 (b.toNat : Int)] hs hw hx rfl (by intro u hu; simp at hu; subst hu; rfl) hown e hlen ?_
  intro v' w' ho' e'
  refine h v' w' ?_ e'
  unfold OwnB
  simpa [u8V] using ho'
/-- a row of bytes, turned into a text -/
theorem OwnB.text {w : World} {base : Nat} {v : Value} {l : List UInt8} (h : OwnB w base v l) (hne : l ≠ []) : (convert 22 9 v).run Tryz.prog w = .ok (.string (mkS l)) w := by
  have h' : w.ownsRow base 5 1 v l.length (l.map u8V) := h
  rcases h.2 with ⟨rfl, h0⟩ | ⟨g, cap, cur, rfl, _⟩
  · exact absurd (List.eq_nil_of_length_eq_zero h0) hne
  · refine run_convert_bytes_back (P := Tryz.prog) w 22 9 5 ⟨g, 0, none⟩ cap l Tryz.underlying22 Tryz.underlying5 Tryz.underlying9 (fun j hj => ?_)
    rw [Addr.add_lit, Nat.zero_add, h'.cellAt j (by omega), List.getElem?_map, List.getElem?_eq_getElem hj]
    rfl
end Go.Proofs.YtdedamamjkpcpaaGreatDoor

/- Rows of texts: what is read, what the call made; contracts of the laws' helpers over them. -/
namespace Go.Proofs.YtdedamamjkpcpaaGreatDoor
open Go.RowKit
set_option linter.unusedSimpArgs false
set_option linter.unusedVariables false
set_option linter.unnecessarySimpa false

/-- The slice of n texts at ao reads, in w, as ss. -/
def Strs (w : World) (ao : Option Addr) (n : Nat) (ss : List ByteArray) : Prop :=
  ss.length = n ∧ n ≤ 9223372036854775807 ∧ (∀ i, i < n → ∃ b off, ao = some ⟨b, off, none⟩ ∧ w.cell? ⟨b, off + i, none⟩ = some (.string (ss.getD i ByteArray.empty))) ∧ ∀ s ∈ ss, s.size ≤ 9223372036854775807
theorem Strs.ext {w w' : World} {ao : Option Addr} {n : Nat} {ss : List ByteArray} (h : Strs w ao n ss) (e : Ext w w') : Strs w' ao n ss :=
  ⟨h.1, h.2.1, fun i hi => let ⟨b, off, h1, h2⟩ := h.2.2.1 i hi; ⟨b, off, h1, e.cell h2⟩, h.2.2.2⟩
theorem Strs.at {w : World} {ao : Option Addr} {n : Nat} {ss : List ByteArray} (h : Strs w ao n ss) {i : Nat} (hi : i < n) : (ss.getD i ByteArray.empty).size ≤ 9223372036854775807 := by
  rw [List.getD_eq_getElem?_getD, List.getElem?_eq_getElem (by rw [h.1]; exact hi)]
  exact h.2.2.2 _ (List.getElem_mem _)
/-- The slice v is one that the call made (from block base on), it may be written, and it holds the texts ss. -/
def OwnStrs (w : World) (base : Nat) (v : Value) (ss : List ByteArray) : Prop :=
  w.ownsRow base 9 1 v ss.length (ss.map Value.string) ∧ ∀ s ∈ ss, s.size ≤ 9223372036854775807
theorem OwnStrs.ext {w w' : World} {base : Nat} {v : Value} {ss : List ByteArray} (h : OwnStrs w base v ss) (e : Ext w w') : OwnStrs w' base v ss := ⟨ownsRow_ext h.1 e, h.2⟩
theorem OwnStrs.mono {w : World} {base base' : Nat} {v : Value} {xs : List ByteArray} (h : OwnStrs w base v xs) (hb : base' ≤ base) : OwnStrs w base' v xs := by
  obtain ⟨⟨h1, h2⟩, h3⟩ := h
  refine ⟨⟨h1, ?_⟩, h3⟩
  rcases h2 with h2 | ⟨g, cap, cur, hv, hg, r⟩
  · exact .inl h2
  · exact .inr ⟨g, cap, cur, hv, by omega, r⟩
theorem OwnStrs.kept {w w' : World} {base : Nat} {v : Value} {xs : List ByteArray} {row : Option Nat} (h : OwnStrs w base v xs) (hg : w.grownBy w' row) (hne : ∀ k, row = some k → k < base) : OwnStrs w' base v xs := by
  refine ⟨h.1.kept hg ?_, h.2⟩
  cases hr : row with
  | none => cases hv : v.ownBlock <;> simp
  | some k =>
    right
    intro e
    have := h.1.lt k e
    have := hne k hr
    omega
theorem OwnStrs.apart {w w' : World} {base : Nat} {v : Value} {xs : List ByteArray} {row : Option Nat} (h : OwnStrs w base v xs) (hg : w.grownBy w' row) (hne : ∀ k k', v.ownBlock = some k → row = some k' → k ≠ k') : OwnStrs w' base v xs := by
  refine ⟨h.1.kept hg ?_, h.2⟩
  cases hv : v.ownBlock with
  | none => exact .inl rfl
  | some k =>
    right
    cases hr : row with
    | none => simp
    | some k' => exact fun e => hne k k' hv hr (Option.some.inj e)
theorem OwnStrs.setBelow {w : World} {base : Nat} {v : Value} {xs : List ByteArray} (h : OwnStrs w base v xs) {a : Addr} (ha : a.block < base) (u : Value) : OwnStrs (w.setCell a u) base v xs := ⟨ownsRow_setCell_below h.1 ha u, h.2⟩
theorem OwnStrs.shape {w : World} {base : Nat} {v : Value} {xs : List ByteArray} (h : OwnStrs w base v xs) :
    ∃ ao cap, v = .slice ao xs.length cap ∧ Strs w ao xs.length xs ∧ (∀ a, ao = some a → v.ownBlock = some a.block ∧ base ≤ a.block ∧ a.block < w.heap.size) := by
  obtain ⟨hrow, hi⟩ := h
  have hrow' := hrow
  obtain ⟨h1, h2⟩ := hrow
  rcases h2 with ⟨rfl, h0⟩ | ⟨g, cap, cur, rfl, hg, hh, hc, hm, hcur, htake⟩
  · have hx : xs = [] := List.eq_nil_of_length_eq_zero h0
    subst hx
    exact ⟨none, 0, rfl, ⟨rfl, by omega, fun i hi => by omega, by simp⟩, by simp⟩
  · refine ⟨some ⟨g, 0, none⟩, cap, rfl, ⟨rfl, by have := hm; unfold maxLen at this; omega, fun i hi' => ⟨g, 0, rfl, ?_⟩, hi⟩, ?_⟩
    · rw [Nat.zero_add, hrow'.cellAt i (by omega), List.getElem?_map, List.getElem?_eq_getElem hi', List.getD_eq_getElem?_getD, List.getElem?_eq_getElem hi']
      rfl
    · intro a ha
      obtain rfl := Option.some.inj ha
      exact ⟨rfl, hg, lt_of_block hh⟩
theorem OwnStrs.strs {w : World} {base n cap : Nat} {ao : Option Addr} {xs : List ByteArray} (h : OwnStrs w base (.slice ao n cap) xs) : Strs w ao n xs := by
  obtain ⟨a, c, hv, hi, _⟩ := h.shape
  simp only [Value.slice.injEq] at hv
  obtain ⟨rfl, rfl, rfl⟩ := hv
  exact hi
theorem OwnStrs.blk {w : World} {base n cap : Nat} {ao : Option Addr} {xs : List ByteArray} (h : OwnStrs w base (.slice ao n cap) xs) :
    ∀ k, (Value.slice ao n cap).ownBlock = some k → base ≤ k ∧ k < w.heap.size := h.1.lt
theorem OwnStrs.nilv (w : World) (base : Nat) : OwnStrs w base (.slice none 0 0) [] := ⟨World.ownsRow_nil _ _ _ _, by simp⟩
theorem OwnStrs.empty {W w : World} (e : Ext W w) : OwnStrs (w.alloc (.cells #[] 9)) W.heap.size (.slice (some ⟨w.heap.size, 0, none⟩) 0 0) [] :=
  ⟨World.ownsRow_made w #[] 0 e.size (by unfold maxLen; omega) rfl, by simp⟩

theorem info_str : (Tryz.prog.info? 9).map (fun i => (i.zero, i.size, i.bytes)) = some (some (.string ByteArray.empty), 1, 16) := by kernel_rfl
theorem wpList_append_str {W w0 w : World} {ops : Array Oper} {rest : List Oper} {o : Oper} {a : Act} {Q : Exit → Act → World → Prop} (hgd : o.guard = none) (s x : Operand)
    (ho : o.op = .call { callee := .builtin .append, args := #[s, x], argTypes := #[78, 78] })
    (v : Value) (l : List ByteArray) (b : ByteArray) (hs : a.eval s = v) (hw : w = w0.alloc (.cells #[.string b] 9)) (hx : a.eval x = .slice (some ⟨w0.heap.size, 0, none⟩) 1 1)
    (hown : OwnStrs w0 W.heap.size v l) (e : Ext W w0) (hb : b.size ≤ 9223372036854775807) (hlen : l.length ≤ 10000000)
    (h : ∀ v' w', OwnStrs w' W.heap.size v' (l ++ [b]) → Ext W w' → wpList Tryz.prog ops Q rest (a.put o.dst v') w') : wpList Tryz.prog ops Q (o :: rest) a w := by
  refine wpList_append_gen 78 9 (.string ByteArray.empty) 1 16 Tryz.underlying78 info_str rfl (by decide) (by decide) hgd s x ho v l.length (l.map Value.string) [.string b] hs hw hx rfl (by intro u hu; simp at hu; subst hu; rfl) hown.1 e hlen ?_
  intro v' w' ho' e'
  refine h v' w' ⟨by simpa using ho', ?_⟩ e'
  intro z hz
  rcases List.mem_append.1 hz with hz | hz
  · exact hown.2 z hz
  · simp at hz; subst hz; exact hb

/-- a slice of texts that the call made is handed back -/
def RetStrs (xs : List ByteArray) (w : World) (e : Ending) (w' : World) : Prop := ∃ ao cap, e = .returned (.slice ao xs.length cap) ∧ OwnStrs w' w.heap.size (.slice ao xs.length cap) xs ∧ Ext w w'
/-- a slice of texts and a code are handed back -/
def RetStrsC (xs : List ByteArray) (c : Int) (w : World) (e : Ending) (w' : World) : Prop := ∃ ao cap, e = .returned (.tuple #[.slice ao xs.length cap, .int .i64 c]) ∧ OwnStrs w' w.heap.size (.slice ao xs.length cap) xs ∧ Ext w w'
theorem RetStrsC.of_own {xs : List ByteArray} {c c' : Int} {w w' : World} {v : Value} (h : OwnStrs w' w.heap.size v xs) (e : Ext w w') (hc : c' = c) : RetStrsC xs c w (.returned (.tuple #[v, .int .i64 c'])) w' := by
  obtain ⟨ao, cap, rfl, _, _⟩ := h.shape
  exact ⟨ao, cap, by rw [hc], h, e⟩
theorem copiedS (xs : List ByteArray) (n k : Nat) (hx : xs.length = n) (hk : k < n) :
    ((xs.take k).map Value.string ++ List.replicate (n - k) (Value.string ByteArray.empty)).set k (.string (xs.getD k ByteArray.empty)) = (xs.take (k + 1)).map Value.string ++ List.replicate (n - (k + 1)) (Value.string ByteArray.empty) := by
  have h1 : ((xs.take k).map Value.string).length = k := by simp; omega
  have h2 : n - k = (n - (k + 1)) + 1 := by omega
  rw [List.set_append_right _ _ (by omega), h1, Nat.sub_self, h2, List.replicate_succ, List.set_cons_zero, List.take_succ_eq_append_getElem (by omega), List.map_append, List.append_assoc]
  congr 1
  simp [List.getD_eq_getElem?_getD, List.getElem?_eq_getElem (show k < xs.length by omega)]

/-- the digits of a number, ahead of some bytes -/
def mdig (k : Nat) (acc : List UInt8) : List UInt8 := if h : k = 0 then acc else mdig (k / 10) (UInt8.ofNat (48 + k % 10) :: acc)
termination_by k
decreasing_by omega
/-- the text of a mark -/
def mtx (k : Int) : ByteArray := if k ≤ 0 then mkS [109, 48] else mkS (109 :: mdig k.toNat [])
theorem mkS_app (a b : List UInt8) : mkS a ++ mkS b = mkS (a ++ b) := by unfold mkS; rw [ByteArray.mk_append_mk]
theorem one_text (x : Int) (b : UInt8) (hx : x = (b.toNat : Int)) (w : World) : (convert 22 9 (.slice (some ⟨w.heap.size, 0, none⟩) 1 1)).run Tryz.prog (w.alloc (.cells #[.int .u8 x] 5)) = .ok (.string (mkS [b])) (w.alloc (.cells #[.int .u8 x] 5)) := by
  subst hx
  refine run_convert_bytes_back (P := Tryz.prog) _ 22 9 5 ⟨w.heap.size, 0, none⟩ 1 [b] Tryz.underlying22 Tryz.underlying5 Tryz.underlying9 (fun j hj => ?_)
  obtain rfl : j = 0 := by simp at hj; exact hj
  rw [Addr.add_lit, Nat.zero_add, World.cell?_alloc_new]
  rfl
end Go.Proofs.YtdedamamjkpcpaaGreatDoor

/- The laws' marks over rows of texts, and the count of what came in. -/
namespace Go.Proofs.YtdedamamjkpcpaaGreatDoor
open Go.RowKit
set_option linter.unusedSimpArgs false
set_option linter.unusedVariables false
set_option linter.unnecessarySimpa false

/-- the texts of the marks k, k+1, .. -/
def markSs (k : Int) (n : Nat) : List ByteArray := (marks k n).map mtx
theorem markSs_length (k : Int) (n : Nat) : (markSs k n).length = n := by simp [markSs, marks_length]
theorem markSs_get (k : Int) (n i : Nat) (h : i < n) : (markSs k n)[i]? = some (mtx (k + i)) := by simp [markSs, marks_get n k i h]
theorem mdig_len (k : Nat) : ∀ (acc : List UInt8), (mdig k acc).length ≤ k + acc.length := by
  induction k using Nat.strongRecOn with
  | ind k ih =>
    intro acc
    rw [mdig]
    split
    · omega
    · have := ih (k / 10) (by omega) (UInt8.ofNat (48 + k % 10) :: acc)
      simp only [List.length_cons] at this
      omega
theorem mtx_size (k : Int) (h : k ≤ 4000000000) : (mtx k).size ≤ 9223372036854775807 := by
  unfold mtx
  split
  · rw [mkS_size]; decide
  · rw [mkS_size]
    have := mdig_len k.toNat []
    simp at this ⊢
    omega
theorem markedS (k : Int) (xs : List ByteArray) (n j : Nat) (hx : xs.length = n) (hj : j < n) :
    ((markSs k j).map Value.string ++ (xs.drop j).map Value.string).set j (.string (mtx (k + j))) = (markSs k (j + 1)).map Value.string ++ (xs.drop (j + 1)).map Value.string := by
  apply List.ext_getElem?
  intro i
  have hl : ((markSs k j).map Value.string).length = j := by simp [markSs_length]
  have hl2 : ((markSs k (j + 1)).map Value.string).length = j + 1 := by simp [markSs_length]
  rcases Nat.lt_trichotomy i j with h | h | h
  · rw [List.getElem?_set_ne (by omega), List.getElem?_append_left (by omega), List.getElem?_append_left (by omega), List.getElem?_map, List.getElem?_map, markSs_get _ _ _ h, markSs_get _ _ _ (by omega)]
  · subst h
    rw [List.getElem?_set_self (by simp [markSs_length]; omega), List.getElem?_append_left (by omega), List.getElem?_map, markSs_get _ _ _ (by omega)]
    rfl
  · rw [List.getElem?_set_ne (by omega), List.getElem?_append_right (by omega), List.getElem?_append_right (by omega), hl, hl2, List.getElem?_map, List.getElem?_map, List.getElem?_drop, List.getElem?_drop]
    congr 2
    omega
/-- Marks have been written into the row v of the call's own, and nothing else that was there has changed. -/
def RetMarkS (base : Nat) (v : Value) (k : Int) (n : Nat) (w : World) (e : Ending) (w' : World) : Prop :=
  e = .returned (.int .i64 (k + n)) ∧ OwnStrs w' base v (markSs k n) ∧ w.grownBy w' v.ownBlock
theorem grown_ext_by {a b c : World} {row : Option Nat} (h : a.grownBy b row) (e : Ext b c) : a.grownBy c row :=
  ⟨e.os.trans h.os, e.tape.trans h.tape, e.output.trans h.output, Nat.le_trans h.size e.size, fun i hi hne => (Below.block e i (Nat.lt_of_lt_of_le hi h.size)).trans (h.block i hi hne)⟩
theorem grown_set_by {w wr : World} {g j : Nat} (h : w.grownBy wr (some g)) (v : Value) : w.grownBy (wr.setCell ⟨g, j, none⟩ v) (some g) :=
  ⟨h.os, h.tape, h.output, Nat.le_trans h.size (by simp [World.setCell]), fun i hi hne => (Below.heap_setCell _ _ _ _ (fun e => hne (by rw [e]))).trans (h.block i hi hne)⟩
end Go.Proofs.YtdedamamjkpcpaaGreatDoor
