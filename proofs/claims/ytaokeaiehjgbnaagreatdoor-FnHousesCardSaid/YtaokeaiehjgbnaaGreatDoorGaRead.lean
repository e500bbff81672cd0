/- A group of texts, one behind the other: ReadR, ReadH, ReadOwn. -/
import Derived.Test.YtaokeaiehjgbnaaGreatDoorGaSm
import Derived.Test.YtaokeaiehjgbnaaGreatDoorGaRuns
import Derived.Test.YtaokeaiehjgbnaaGreatDoorWords
import Derived.Test.YtaokeaiehjgbnaaGreatDoorDoor
import Derived.Test.YtaokeaiehjgbnaaGreatDoorHText
import Derived.Deep.RegionHeld3
import Derived.Deep.RegionLaw
import Derived.Deep.DeepCutAuto
/- Contracts of the reading of a course's short text, on both sides. -/
namespace Go.Proofs.YtaokeaiehjgbnaaGreatDoor
open Go.RowKit
set_option linter.unusedSimpArgs false
set_option linter.unusedVariables false
set_option linter.unnecessarySimpa false

def rrV (o : Option (List UInt8)) : Value := .tuple #[.string (mkS (o.getD [])), .bool o.isSome]
theorem rrV_none {o : Option (List UInt8)} (h : o = none) : rrV o = .tuple #[.string ⟨#[]⟩, .bool false] := by rw [h]; rfl
theorem rrV_some {o : Option (List UInt8)} {l : List UInt8} (h : o = some l) : rrV o = .tuple #[.string (mkS l), .bool true] := by rw [h]; rfl
theorem ext_init {z : ByteArray} {y : List UInt8} {c : UInt8} (h : bts z = y ++ [c]) {m : Nat} (hm : z.size = m + 1) : bts (z.extract 0 m) = y := by
  have hl := congrArg List.length h
  rw [bts_length, List.length_append, List.length_singleton] at hl
  have e : bts (z.extract 0 m) = (bts z).take m := by unfold bts; rw [ByteArray.data_extract, Array.toList_extract, List.extract_eq_take_drop]; rfl
  rw [e, h, List.take_left' (by omega)]
theorem at_last {z : ByteArray} {y : List UInt8} {c : UInt8} (h : bts z = y ++ [c]) {m : Nat} (hm : z.size = m + 1) (hi : m < z.size) : z[m] = c := by
  obtain ⟨h1, h2⟩ := byte_at z m hi
  have hl := congrArg List.length h
  rw [bts_length, List.length_append, List.length_singleton] at hl
  refine h2.symm.trans ?_
  have : (bts z)[m]? = some c := by rw [h, List.getElem?_append_right (by omega), show m - y.length = 0 by omega]; rfl
  rw [List.getElem?_eq_getElem h1] at this
  exact Option.some.inj this
theorem ext_last {z : ByteArray} {y : List UInt8} {c : UInt8} (h : bts z = y ++ [c]) {m : Nat} (hm : z.size = m + 1) : z.extract m z.size = mkS [c] := by
  have hl := congrArg List.length h
  rw [bts_length, List.length_append, List.length_singleton] at hl
  rw [← mkS_bts (z.extract m z.size)]
  congr 1
  have e : bts (z.extract m z.size) = ((bts z).take z.size).drop m := by unfold bts; rw [ByteArray.data_extract, Array.toList_extract, List.extract_eq_take_drop, List.drop_take]
  rw [e, List.take_of_length_le (by rw [bts_length]; exact Nat.le_refl _), h, List.drop_left' (by omega)]
theorem word_at {XS : List (List UInt8)} {k : Nat} (hk : k < XS.length) : bts ((XS.map mkS).getD k ByteArray.empty) = XS.getD k [] := by
  rw [List.getD_eq_getElem?_getD, List.getElem?_map, List.getElem?_eq_getElem hk, List.getD_eq_getElem?_getD, List.getElem?_eq_getElem hk]
  exact bts_mkS _
theorem okW_split {x : List UInt8} (h : x ≠ []) : x = x.dropLast ++ [lastW x] := (word_parts h).symm
theorem rdB_nil : rdB [] = false := by rw [← Bool.not_eq_true, rdB_iff]; intro h; exact absurd h.1 (by simp [magL])
end Go.Proofs.YtaokeaiehjgbnaaGreatDoor

/- What the text of a plan is read back as; contracts of its reading, on both sides. -/
namespace Go.Proofs.YtaokeaiehjgbnaaGreatDoor
open Go.RowKit
set_option linter.unusedSimpArgs false
set_option linter.unusedVariables false
set_option linter.unnecessarySimpa false

def rhS (l : List UInt8) : List Int := (splL 32 l).map valW
def rhL (l : List UInt8) : List UInt8 := (splL 32 l).map lastW
/-- whether the text is a plan's -/
def rhB (l : List UInt8) : Bool := (splL 32 l).all okW && validH (rhS l) (rhL l)
def rhX (l : List UInt8) : List Int := if rhB l = true then rhS l else []
def rhT (l : List UInt8) : ByteArray := if rhB l = true then mkS (rhL l) else ⟨#[]⟩
/-- a plan and a flag are handed back -/
def RetHouseB (xs : List Int) (t : ByteArray) (b : Bool) (w : World) (e : Ending) (w' : World) : Prop := ∃ ao cap, e = .returned (.tuple #[.agg #[.slice ao xs.length cap, .string t], .bool b]) ∧ OwnInts 2 w' w.heap.size (.slice ao xs.length cap) xs ∧ Ext w w'
theorem RetHouseB.bad {w w' : World} {l : List UInt8} (h : rhB l = false) (e : Ext w w') : RetHouseB (rhX l) (rhT l) (rhB l) w (.returned (.tuple #[.agg #[.slice none 0 0, .string ⟨#[]⟩], .bool false])) w' := by
  unfold rhX rhT
  rw [h, if_neg (by decide), if_neg (by decide)]
  exact ⟨none, 0, rfl, OwnInts.nilv _ _ _, e⟩
theorem RetHouseB.good {w w' : World} {l : List UInt8} {n cap : Nat} {ao : Option Addr} (h : rhB l = true) (hn : (rhS l).length = n) (o : OwnInts 2 w' w.heap.size (.slice ao n cap) (rhS l)) (e : Ext w w') : RetHouseB (rhX l) (rhT l) (rhB l) w (.returned (.tuple #[.agg #[.slice ao n cap, .string (mkS (rhL l))], .bool true])) w' := by
  subst hn
  unfold rhX rhT
  rw [h, if_pos rfl, if_pos rfl]
  exact ⟨ao, cap, rfl, o, e⟩
theorem rhB_bad {l : List UInt8} {w : List UInt8} (h : w ∈ splL 32 l) (hw : okW w = false) : rhB l = false := by
  unfold rhB
  rw [show (splL 32 l).all okW = false by rw [List.all_eq_false]; exact ⟨w, h, by simp [hw]⟩, Bool.false_and]
/-! ### rows and a box of a plan in memory -/
theorem row_neR {E : TypeId} {k : Nat} {w : World} {base n : Nat} {v : Value} {l : List Value} (h : w.ownsRow base E k v n l) {b : Nat} {cs : Array Value} {T : TypeId} {m : Nat × Nat} (hb : w.heap[b]? = some (.cells cs T m)) (hT : T ≠ E) : ∀ j, v.ownBlock = some j → b ≠ j := by
  intro j hj e
  subst e
  rcases h.2 with ⟨rfl, _⟩ | ⟨g, cap, cur, rfl, _, hh, _⟩
  · simp [Value.ownBlock] at hj
  · have e : g = b := by simpa [Value.ownBlock] using hj
    subst e
    rw [hh] at hb
    simp only [Option.some.injEq, Obj.cells.injEq] at hb
    exact hT hb.2.1.symm
theorem rows_neR {E F : TypeId} {k k' : Nat} {w : World} {base base' n n' : Nat} {v v' : Value} {l l' : List Value} (h : w.ownsRow base E k v n l) (h' : w.ownsRow base' F k' v' n' l') (hT : F ≠ E) : v'.ownBlock = none ∨ v'.ownBlock ≠ v.ownBlock := by
  rcases h'.2 with ⟨rfl, _⟩ | ⟨g, cap, cur, rfl, _, hh, _⟩
  · exact .inl rfl
  · right
    intro e
    exact row_neR h hh hT g (e.symm.trans (by simp [Value.ownBlock])) rfl
theorem blkR_grown {w w' : World} {row : Option Nat} {b : Nat} {o : Obj} (h : w.heap[b]? = some o) (g : w.grownBy w' row) (hne : some b ≠ row) : w'.heap[b]? = some o := (g.block b (lt_of_block h) hne).trans h
theorem heapR_set (W : World) (b i : Nat) (x : Value) {cs : Array Value} {T : TypeId} {m : Nat × Nat} (h : W.heap[b]? = some (.cells cs T m)) : (W.setCell ⟨b, i, none⟩ x).heap[b]? = some (.cells (cs.setIfInBounds i x) T m) := by
  show (W.heap.modify b _)[b]? = _
  rw [Array.getElem?_modify, if_pos rfl, h]
  rfl
structure RHm (w1 : World) (pb : Nat) (v : Value) (t : ByteArray) (xs : List Int) (W : World) : Prop where
  box : W.heap[pb]? = some (.cells #[v, .string t] 26 (0, 0))
  own : OwnInts 2 W w1.heap.size v xs
  ex : Ext w1 W
  ge : w1.heap.size ≤ pb
theorem RHm.ext {w1 W W' : World} {pb : Nat} {v : Value} {t : ByteArray} {xs : List Int} (h : RHm w1 pb v t xs W) (e : Ext W W') : RHm w1 pb v t xs W' := ⟨e.block h.box, h.own.ext e, h.ex.trans e, h.ge⟩
theorem RHm.app {w1 W W' : World} {pb : Nat} {v v' : Value} {t : ByteArray} {xs ys : List Int} (h : RHm w1 pb v t xs W) (hg : W.grownBy W' v.ownBlock) (o : OwnInts 2 W' w1.heap.size v' ys) :
    W'.heap[pb]? = some (.cells #[v, .string t] 26 (0, 0)) ∧ RHm w1 pb v' t ys (W'.setCell ⟨pb, 0, none⟩ v') := by
  have hb := blkR_grown h.box hg (fun e => row_neR h.own.1 h.box (by decide) pb e.symm rfl)
  refine ⟨hb, heapR_set _ pb 0 v' hb, ⟨ownsRow_setCell_other o.1 (row_neR o.1 hb (by decide)) v', o.2⟩, (h.ex.grown hg (fun j hj => (h.own.1.lt j hj).1)).setCell h.ge _, h.ge⟩
theorem RHm.putT {w1 W : World} {pb : Nat} {v : Value} {t : ByteArray} {xs : List Int} (h : RHm w1 pb v t xs W) (t' : ByteArray) : RHm w1 pb v t' xs (W.setCell ⟨pb, 1, none⟩ (.string t')) :=
  ⟨heapR_set _ pb 1 _ h.box, ⟨ownsRow_setCell_other h.own.1 (row_neR h.own.1 h.box (by decide)) _, h.own.2⟩, h.ex.setCell h.ge _, h.ge⟩
theorem RHm.u8 {w1 W W' : World} {pb : Nat} {v bv : Value} {t : ByteArray} {xs : List Int} {ts : List UInt8} (h : RHm w1 pb v t xs W) (ob : OwnN W w1.heap.size bv ts) (hg : W.grownBy W' bv.ownBlock) : RHm w1 pb v t xs W' :=
  ⟨blkR_grown h.box hg (fun e => row_neR (show W.ownsRow w1.heap.size 5 1 bv ts.length (ts.map u8V) from ob.1) h.box (by decide) pb e.symm rfl), ⟨h.own.1.kept hg (rows_neR (show W.ownsRow w1.heap.size 5 1 bv ts.length (ts.map u8V) from ob.1) h.own.1 (by decide)), h.own.2⟩, h.ex.grown hg (fun j hj => (World.ownsRow.lt (show W.ownsRow w1.heap.size 5 1 bv ts.length (ts.map u8V) from ob.1) j hj).1), h.ge⟩
theorem OwnN.keptI {base : Nat} {W W' : World} {v bv : Value} {xs : List Int} {ts : List UInt8} (ob : OwnN W base bv ts) (o : OwnInts 2 W base v xs) (hg : W.grownBy W' v.ownBlock) : OwnN W' base bv ts :=
  ⟨World.ownsRow.kept (show W.ownsRow base 5 1 bv ts.length (ts.map u8V) from ob.1) hg (rows_neR o.1 (show W.ownsRow base 5 1 bv ts.length (ts.map u8V) from ob.1) (by decide)), ob.2⟩
theorem OwnN.setB {base : Nat} {W : World} {bv : Value} {ts : List UInt8} (ob : OwnN W base bv ts) {pb : Nat} {cs : Array Value} {m : Nat × Nat} (hb : W.heap[pb]? = some (.cells cs 26 m)) (i : Nat) (x : Value) : OwnN (W.setCell ⟨pb, i, none⟩ x) base bv ts :=
  ⟨ownsRow_setCell_other (show W.ownsRow base 5 1 bv ts.length (ts.map u8V) from ob.1) (row_neR (show W.ownsRow base 5 1 bv ts.length (ts.map u8V) from ob.1) hb (by decide)) x, ob.2⟩
/-- one integer is appended; the rest is as it was -/
theorem wpList_append_intH {w0 w : World} {ops : Array Oper} {rest : List Oper} {o : Oper} {a : Act} {Q : Exit → Act → World → Prop} (hgd : o.guard = none) (s x : Operand)
    (ho : o.op = .call { callee := .builtin .append, args := #[s, x], argTypes := #[24, 24] })
    (base : Nat) (v : Value) (xs : List Int) (y : Int) (hs : a.eval s = v) (hw : w = w0.alloc (.cells #[.int .i64 y] 2)) (hx : a.eval x = .slice (some ⟨w0.heap.size, 0, none⟩) 1 1)
    (hown : OwnInts 2 w0 base v xs) (hb : base ≤ w0.heap.size) (hy : IsI64 y) (hlen : xs.length ≤ 1000000000)
    (h : ∀ v' w', OwnInts 2 w' base v' (xs ++ [y]) → w0.grownBy w' v.ownBlock → wpList Tryz.prog ops Q rest (a.put o.dst v') w') : wpList Tryz.prog ops Q (o :: rest) a w := by
  obtain ⟨i0, hi, hz0, hz1, hz2⟩ := info_parts info_i64
  subst hw
  refine wpList_append_own _ hgd s x 24 ho base 2 i0 (.int .i64 0) 1 8 Tryz.underlying24 hi hz0 hz1 hz2 rfl (by decide) v xs.length (xs.map (Value.int .i64)) hs (hown.1.alloc _)
    ⟨w0.heap.size, 0, none⟩ 1 1 [.int .i64 y] hx rfl (cell_one_new _ _ _) (by intro u hu; simp at hu; subst hu; rfl) (by unfold maxLen; omega) (by omega) (by simp; omega) ?_
  intro v' w' ho' hg _
  refine h v' w' ⟨?_, ?_⟩ ((World.grownBy_alloc w0 _ _).trans hg)
  · simpa using ho'
  · intro z hz
    rcases List.mem_append.1 hz with hz | hz
    · exact hown.2 z hz
    · simp at hz; subst hz; exact hy
/-- one byte is appended; the rest is as it was -/
theorem wpList_append_u8H {w0 w : World} {ops : Array Oper} {rest : List Oper} {o : Oper} {a : Act} {Q : Exit → Act → World → Prop} (hgd : o.guard = none) (s x : Operand)
    (ho : o.op = .call { callee := .builtin .append, args := #[s, x], argTypes := #[22, 22] })
    (base : Nat) (v : Value) (l : List UInt8) (b : UInt8) (hs : a.eval s = v) (hw : w = w0.alloc (.cells #[.int .u8 (b.toNat : Int)] 5)) (hx : a.eval x = .slice (some ⟨w0.heap.size, 0, none⟩) 1 1)
    (hown : OwnN w0 base v l) (hb : base ≤ w0.heap.size) (hlen : l.length ≤ 10000000)
    (h : ∀ v' w', OwnN w' base v' (l ++ [b]) → w0.grownBy w' v.ownBlock → wpList Tryz.prog ops Q rest (a.put o.dst v') w') : wpList Tryz.prog ops Q (o :: rest) a w := by
  obtain ⟨i0, hi, hz0, hz1, hz2⟩ := info_parts info_u8
  subst hw
  refine wpList_append_own _ hgd s x 22 ho base 5 i0 (.int .u8 0) 1 1 Tryz.underlying22 hi hz0 hz1 hz2 rfl (by decide) v l.length (l.map u8V) hs (World.ownsRow.alloc (show w0.ownsRow base 5 1 v l.length (l.map u8V) from hown.1) _)
    ⟨w0.heap.size, 0, none⟩ 1 1 [.int .u8 (b.toNat : Int)] hx rfl (cells_new _ _ _) (by intro u hu; simp at hu; subst hu; rfl) (by unfold maxLen; omega) (by omega) (by simp; omega) ?_
  intro v' w' ho' hg _
  refine h v' w' (OwnN.of (by unfold OwnB; simpa [u8V] using ho') (by simp)) ((World.grownBy_alloc w0 _ _).trans hg)
theorem heap_size_one (w : World) (o : Obj) : (w.alloc o).heap.size = w.heap.size + 1 := by simp
set_option maxRecDepth 40000 in
set_option maxHeartbeats 2000000 in
theorem s_ReadHouse (s : ByteArray) (hs : s.size ≤ 2000000) (w : World) : Calls Tryz.prog 19 #[.string s] w (RetHouseB (rhX (bts s)) (rhT (bts s)) (rhB (bts s)) w) := by
  have hSP := fun W => s_l01Split s 32 32 rfl hs W
  have hne := splL_ne 32 (bts s)
  have hMem := splL_mem 32 (bts s)
  unfold splS at hSP
  have hLen := splL_len 32 (bts s)
  have hBW := fun x h1 h2 => rhB_bad (l := bts s) (w := x) h1 h2
  have hRB : rhB (bts s) = ((splL 32 (bts s)).all okW && validH (rhS (bts s)) (rhL (bts s))) := rfl
  have hRS : rhS (bts s) = (splL 32 (bts s)).map valW := rfl
  have hRL : rhL (bts s) = (splL 32 (bts s)).map lastW := rfl
  obtain ⟨XS, hXS⟩ : ∃ XS, splL 32 (bts s) = XS := ⟨_, rfl⟩
  rw [hXS] at hSP hne hMem hLen hBW hRB hRS hRL
  have HBW := Lib.hid hBW
  have HRB := Lib.hid hRB
  have HRS := Lib.hid hRS
  have HRL := Lib.hid hRL
  rw [bts_length] at hMem hLen
  have HMem := Lib.hid hMem
  obtain ⟨n, hn⟩ : ∃ n, (XS.map mkS).length = n := ⟨_, rfl⟩
  have HL : Hid (XS.length = n) := Lib.hid (by rw [← hn, List.length_map])
  have hn0 : 1 ≤ n ∧ n ≤ 2000001 := by have := List.length_pos_iff.2 hne; have := HL.out; omega
  clear hMem hne hXS hLen hBW hRB hRS hRL
  have HR0 := Lib.hid (blk_at w (.cells #[.slice none 0 0, .string ⟨#[]⟩] 26) _ rfl)
  have HE0 : Hid (Ext w (w.alloc (.cells #[.slice none 0 0, .string ⟨#[]⟩] 26))) := Lib.hid ((Ext.refl w).alloc _)
  go_enter Tryz.func19, Tryz.ntmps19
  go_wp2_with (go_at_call 48; refine (hSP _).mono ?_; rintro e w1 ⟨ao, cap, rfl, ho, e1⟩; rw [hn] at ho ⊢; have HS := Lib.hid ho.strs; have HE1 := Lib.hid e1; clear ho e1 hSP hn)
  go_loopw [6, 7] (fun q i wr => ∃ (k : Nat) (v : Value) (ts : List UInt8) (g cp : Nat), k ≤ n ∧ i = .int .i64 k ∧ q = .slice (some ⟨g, 0, none⟩) ts.length cp ∧ Hid (ts = (XS.take k).map lastW ∧ (XS.take k).all okW = true) ∧ Hid (OwnN wr w1.heap.size q ts) ∧ Hid (RHm w1 (w1.heap.size + 1) v ⟨#[]⟩ ((XS.take k).map valW) wr)) (fun _ i _ => n - (intOf i).toNat)
  case atStart =>
    refine ⟨0, .slice (some ⟨w1.heap.size, 0, none⟩) 0 0, [], w1.heap.size + 1 + 1, 0, Nat.zero_le _, rfl, rfl, Lib.hid ⟨rfl, rfl⟩, Lib.hid ?_, Lib.hid ⟨?_, ?_, (((Ext.refl w1).alloc _).alloc _).alloc _, Nat.le_succ _⟩⟩
    · have h := OwnN.empty (((Ext.refl w1).alloc (.cells #[] 2)).alloc (.cells #[.slice (some ⟨w1.heap.size, 0, none⟩) 0 0, .string ⟨#[]⟩] 26))
      simpa using h
    · exact blk_old (blk_at _ _ _ (by simp))
    · exact ((OwnInts.empty (Ext.refl w1)).ext (((Ext.refl _).alloc _).alloc _))
  case round =>
    obtain ⟨k, v, ts, g, cp, hk, rfl, rfl, HT, HO, HM⟩ := hrel
    by_cases hlt : k < n
    · have hki : (k : Int) < (n : Int) := by omega
      have hkx : k < XS.length := by rw [HL.out]; exact hlt
      obtain ⟨b, off, rfl, hc⟩ := HS.out.2.2.1 k hlt
      have HC1 := hc
      have hzx := word_at (XS := XS) (k := k) hkx
      obtain ⟨z, hz⟩ : ∃ z, (XS.map mkS).getD k ByteArray.empty = z := ⟨_, rfl⟩
      rw [hz] at HC1 hc hzx
      have HC1 := Lib.hid HC1
      have hc := HM.out.ex.cell hc
      obtain ⟨x, hx⟩ : ∃ x, XS.getD k [] = x := ⟨_, rfl⟩
      have hxk : XS[k] = x := by rw [← hx, List.getD_eq_getElem?_getD, List.getElem?_eq_getElem hkx]; rfl
      rw [hx] at hzx
      have hxi : x ∈ XS := by rw [← hxk]; exact List.getElem_mem _
      have hxm := HMem.out x hxi
      have HBX := Lib.hid (fun h => HBW.out x hxi h)
      have HT1 : Hid ((XS.take (k + 1)).map valW = (XS.take k).map valW ++ [valW x] ∧ (XS.take (k + 1)).map lastW = (XS.take k).map lastW ++ [lastW x] ∧ (XS.take (k + 1)).all okW = ((XS.take k).all okW && okW x)) := Lib.hid (by
        rw [List.take_succ_eq_append_getElem hkx, hxk, List.map_append, List.map_append, List.all_append]; simp)
      have hzs : z.size = x.length := by rw [← hzx, bts_length]
      have hzb : z.size ≤ 2000000 := by omega
      clear hx hz hkx hxi hxm hxk
      have hbr : okW x = rdB x.dropLast := rfl
      by_cases hx0 : x = []
      · subst hx0
        have hF : okW [] = false := by rw [← Bool.not_eq_true]; exact fun h => okW_ne h rfl
        have HN := HBX.out hF
        have hz0 : (z.size : Int) = 0 := by rw [hzs]; rfl
        have r := two_cells (((HE1.out.block HR0.out) |> HM.out.ex.block))
        obtain ⟨r0, r1, r2, r3, r4⟩ := r
        have EW0 := Lib.hid ((HE0.out.trans HE1.out).trans HM.out.ex)
        have HN := Lib.hid HN
        clear hF hzs hzx HBX hbr
        go_wp2
        refine bodyPost_ret (v := .tuple #[.agg #[.slice none 0 0, .string ⟨#[]⟩], .bool false]) (by simp [results, Tryz.results19, go_sem, r0, r1]) rfl ?_
        refine RetHouseB.bad HN.out ?_
        repeat' (first | exact EW0.out | (dsimp only; omega) | refine Ext.setCell ?_ ?_ _)
      · have hxl : 0 < x.length := List.length_pos_iff.2 hx0
        obtain ⟨m, hm⟩ : ∃ m, z.size = m + 1 := ⟨z.size - 1, by omega⟩
        have hzy := hzx.trans (okW_split hx0)
        have hmm : z.size - 1 = m := by omega
        have HZY : Hid (bts (z.extract 0 (z.size - 1)) = x.dropLast) := Lib.hid (by rw [hmm]; exact ext_init hzy hm)
        have HZL : Hid (∀ h : z.size - 1 < z.size, z[z.size - 1]'h = lastW x) := Lib.hid (by intro h; have := at_last hzy hm (by omega); rw [← this]; congr 1)
        have hz0 : ¬ (z.size : Int) = 0 := by omega
        have hz1 : 1 ≤ z.size := by omega
        have HNum := Lib.hid (s_l01Number (z.extract 0 (z.size - 1)) (by rw [ByteArray.size_extract]; omega) wr)
        clear hzs hm hmm hzx hzy hx0 hxl
        go_wp2_with fail
        refine HNum.out.mono ?_
        rintro e w2 ⟨rfl, e2⟩
        rw [HZY.out]
        have HM2 := Lib.hid (HM.out.ext e2)
        have HO2 := Lib.hid (HO.out.ext e2)
        have hc := e2.cell hc
        clear e2 HNum HZY HO HM
        cases hb : rdB x.dropLast with
        | false =>
          have HN := Lib.hid (HBX.out (hbr.trans hb))
          obtain ⟨r0, r1, r2, r3, r4⟩ := two_cells (HM2.out.ex.block (HE1.out.block HR0.out))
          have EW0 := Lib.hid ((HE0.out.trans HE1.out).trans HM2.out.ex)
          clear hb hbr
          go_wp2
          refine bodyPost_ret (v := .tuple #[.agg #[.slice none 0 0, .string ⟨#[]⟩], .bool false]) (by simp [results, Tryz.results19, go_sem, r0, r1]) rfl ?_
          refine RetHouseB.bad HN.out ?_
          repeat' (first | exact EW0.out | (dsimp only; omega) | refine Ext.setCell ?_ ?_ _)
        | true =>
          obtain ⟨y, hv⟩ : ∃ v, rdN x.dropLast = v := ⟨_, rfl⟩
          have HVW : Hid (valW x = y) := Lib.hid (by rw [← hv, rdN_t hb]; rfl)
          have hyI : IsI64 y := by
            have h1 := rdB_iff.1 hb
            have h2 := rdV_bd h1.2.1 h1.2.2.1
            rw [← hv, rdN_t hb]
            unfold IsI64; omega
          have HOX : Hid (okW x = true) := Lib.hid (hbr.trans hb)
          rw [hv]
          have HYI := Lib.hid hyI
          clear hb hbr hv hyI
          obtain ⟨p0, p1, p2, p3, p4⟩ := two_cells HM2.out.box
          have HLX : Hid (((XS.take k).map valW).length ≤ 1000000000) := Lib.hid (by rw [List.length_map, List.length_take, HL.out]; omega)
          have HLK : Hid (((XS.take k).map valW ++ [y]).length = k + 1) := Lib.hid (by rw [List.length_append, List.length_map, List.length_take, HL.out, List.length_singleton, Nat.min_eq_left (by omega)])
          have HLT : Hid (ts.length ≤ 10000000) := Lib.hid (by rw [HT.out.1, List.length_map, List.length_take, HL.out]; omega)
          go_upto_region 14 with (at_builtin; refine wpList_append_intH rfl _ _ rfl w1.heap.size v ((XS.take k).map valW) y rfl rfl rfl HM2.out.own HM2.out.ex.size HYI.out HLX.out ?_; intro v' w4 ho4 g4; obtain ⟨a4, c4, rfl, _⟩ := ho4.shape; rw [HLK.out] at ho4 ⊢; have HA := Lib.hid (HM2.out.app g4 ho4); have HON := Lib.hid (HO2.out.keptI HM2.out.own g4); obtain ⟨q0, q1, q2, q3, q4⟩ := two_cells HA.out.1; clear ho4 g4)
          have HM4 := Lib.hid HA.out.2
          have HO4 := Lib.hid (HON.out.setB HA.out.1 0 (.slice a4 (k + 1) c4))
          clear q0 q1 q2 q3 q4 HA HON hc
          obtain ⟨w5, hw5⟩ : ∃ W, w4.setCell ⟨w1.heap.size + 1, 0, none⟩ (.slice a4 (k + 1) c4) = W := ⟨_, rfl⟩
          rw [hw5] at HM4 HO4 ⊢
          clear hw5
          have hc := HM4.out.ex.cell HC1.out
          go_wp2_with (at_builtin; refine wpList_append_u8H rfl _ _ rfl w1.heap.size _ ts (lastW x) rfl (by rw [← HZL.out (by omega)]) rfl HO4.out HM4.out.ex.size HLT.out ?_; intro v6 w6 ho6 g6; have HO6 := Lib.hid ho6; have HM6 := Lib.hid (HM4.out.u8 HO4.out g6); clear ho6 g6)
          obtain ⟨g7, cp7, rfl⟩ := HO6.out.2
          go_roundw
          case rel => exact ⟨k + 1, .slice a4 (k + 1) c4, ts ++ [lastW x], g7, cp7, by omega, by go_num, rfl, Lib.hid ⟨by rw [HT1.out.2.1, HT.out.1], by rw [HT1.out.2.2, HT.out.2, HOX.out]; rfl⟩, HO6, Lib.hid (by rw [HT1.out.1, HVW.out]; exact HM6.out)⟩
          case measure => simp [intOf]; omega
    · have hta : XS.take k = XS := List.take_of_length_le (by rw [HL.out]; omega)
      rw [hta] at HT HM
      have HTS : Hid (ts = rhL (bts s)) := Lib.hid (by rw [HT.out.1, HRL.out])
      have hxs : XS.map valW = rhS (bts s) := HRS.out.symm
      rw [hxs] at HM
      have hRB2 : rhB (bts s) = validH (rhS (bts s)) (rhL (bts s)) := by rw [HRB.out, HT.out.2, Bool.true_and]
      have hsl : (rhS (bts s)).length = n := by rw [HRS.out, List.length_map, HL.out]
      have hki : ¬ (k : Int) < (n : Int) := by omega
      have htn : ts ≠ [] := by
        intro e
        have := congrArg List.length HTS.out
        rw [e, HRL.out, List.length_map, HL.out] at this
        simp at this
        omega
      have htl : (mkS ts).size ≤ 9223372036854775807 := by rw [mkS_size, HTS.out, HRL.out, List.length_map, HL.out]; omega
      have htx := HO.out.text htn
      have HBT : Hid (bts (mkS ts) = rhL (bts s)) := Lib.hid (by rw [bts_mkS, HTS.out])
      have HMT : Hid (mkS ts = mkS (rhL (bts s))) := Lib.hid (by rw [HTS.out])
      obtain ⟨tl, htle⟩ : ∃ x, ts.length = x := ⟨_, rfl⟩
      rw [htle] at htx ⊢
      obtain ⟨T, hTe⟩ : ∃ T, mkS ts = T := ⟨_, rfl⟩
      rw [hTe] at htx htl HBT HMT
      have HTl := Lib.hid htl
      obtain ⟨av, cv, rfl, _⟩ := HM.out.own.shape
      rw [hsl] at HM
      have HSL := Lib.hid hsl
      obtain ⟨p0, p1, p2, p3, p4⟩ := two_cells HM.out.box
      clear hta hxs hsl htn htle hTe htl
      go_upto_region 16 with fail
      have HM5 := Lib.hid (HM.out.putT T)
      clear p0 p1 p2 p3 p4 htx
      obtain ⟨w5, hw5⟩ : ∃ W, wr.setCell ⟨w1.heap.size + 1, 1, none⟩ (.string T) = W := ⟨_, rfl⟩
      rw [hw5] at HM5 ⊢
      clear hw5 HM HO
      have HOk := Lib.hid (s_l07Ok (w1.heap.size + 1) av n cv (rhS (bts s)) T w5 (Two.of HM5.out.box) HM5.out.own.ints HTl.out)
      rw [HBT.out, ← hRB2] at HOk
      by_cases hv : rhB (bts s) = true
      case neg =>
        rw [Bool.not_eq_true] at hv
        rw [hv] at HOk
        have HVV := Lib.hid hv
        clear hRB2 hv
        go_wp2_with (go_at_call 30; refine HOk.out.mono ?_; rintro e w7 ⟨rfl, e7⟩; have HM7 := Lib.hid (HM5.out.ext e7); obtain ⟨r0, r1, r2, r3, r4⟩ := two_cells (HM7.out.ex.block (HE1.out.block HR0.out)); have EW0 := Lib.hid ((HE0.out.trans HE1.out).trans HM7.out.ex); clear e7)
        refine bodyPost_ret (v := .tuple #[.agg #[.slice none 0 0, .string ⟨#[]⟩], .bool false]) (by simp [results, Tryz.results19, go_sem, r0, r1]) rfl ?_
        refine RetHouseB.bad HVV.out ?_
        repeat' (first | exact EW0.out | (dsimp only; omega) | refine Ext.setCell ?_ ?_ _)
      case pos =>
        rw [hv] at HOk
        have HVV := Lib.hid hv
        clear hRB2 hv
        go_wp2_with (go_at_call 30; refine HOk.out.mono ?_; rintro e w7 ⟨rfl, e7⟩; have HM7 := Lib.hid (HM5.out.ext e7); obtain ⟨r0, r1, r2, r3, r4⟩ := two_cells (HM7.out.ex.block (HE1.out.block HR0.out)); obtain ⟨p0, p1, p2, p3, p4⟩ := two_cells HM7.out.box; have EW0 := Lib.hid ((HE0.out.trans HE1.out).trans HM7.out.ex); clear e7)
        refine bodyPost_ret (v := .tuple #[.agg #[.slice av n cv, .string T], .bool true]) (by simp [results, Tryz.results19, go_sem, r0, r1]) rfl ?_
        rw [HMT.out]
        refine RetHouseB.good HVV.out HSL.out ?_ ?_
        · have Z := HE1.out.size
          rw [heap_size_one] at Z
          have Z1 : w.heap.size < w1.heap.size := by omega
          exact OwnInts.mono (OwnInts.setBelow (OwnInts.setBelow HM7.out.own Z1 _) Z1 _) (Nat.le_of_lt Z1)
        · repeat' (first | exact EW0.out | (dsimp only; omega) | refine Ext.setCell ?_ ?_ _)
theorem rhB_long {l : List UInt8} (h : 12 < (splL 32 l).length) : rhB l = false := by
  rw [← Bool.not_eq_true]
  intro h2
  unfold rhB at h2
  simp only [Bool.and_eq_true] at h2
  have := validH_bd h2.2
  unfold rhS at this
  rw [List.length_map] at this
  omega
theorem wordsN_pos (l : List UInt8) : 1 ≤ (wordsN l).length := by
  rcases Nat.lt_or_ge 13 (splL 32 l).length with h1 | h1
  · rw [wordsN_many h1]; decide
  · rw [wordsN_few h1]; exact List.length_pos_iff.2 (splL_ne 32 l)
theorem rhB_badN {l : List UInt8} {w : List UInt8} (h : w ∈ wordsN l) (hw : okW w = false) : rhB l = false := by
  rcases Nat.lt_or_ge 13 (splL 32 l).length with h1 | h1
  · exact rhB_long (by omega)
  · rw [wordsN_few h1] at h; exact rhB_bad h hw
theorem rh_text {l : List UInt8} (h : (wordsN l).all okW = true) : (rhB l = true → rhS l = (wordsN l).map valW ∧ rhL l = (wordsN l).map lastW ∧ hTxt ((wordsN l).map valW) ((wordsN l).map lastW) = l) ∧ (rhB l = false → hTxt ((wordsN l).map valW) ((wordsN l).map lastW) ≠ l) := by
  have hne : l ≠ [] := by
    rintro rfl
    have : okW [] = true := by
      have h2 := List.all_eq_true.1 h [] (by rw [wordsN_few (by decide)]; decide)
      exact h2
    exact okW_ne this rfl
  rcases Nat.lt_or_ge 13 (splL 32 l).length with h1 | h1
  · have hb := rhB_long (l := l) (by omega)
    refine ⟨fun h2 => absurd (hb.symm.trans h2) (by decide), fun _ e => hne ?_⟩
    rw [hTxt_f (fun h2 => by have h3 := validH_bd h2; rw [List.length_map, wordsN_many h1] at h3; omega)] at e
    exact e.symm
  · rw [wordsN_few h1] at h ⊢
    have hb : rhB l = validH (rhS l) (rhL l) := by unfold rhB; rw [h, Bool.true_and]
    refine ⟨fun h2 => ⟨rfl, rfl, ?_⟩, fun h2 e => hne ?_⟩
    · rw [hb] at h2
      have h3 := hTxt_t h2
      refine h3.trans ?_
      exact (run_read h).trans (join_splL 32 l)
    · rw [hb] at h2
      have h3 := hTxt_f (xs := rhS l) (ts := rhL l) (by rw [h2]; decide)
      exact e.symm.trans h3
structure RHi (wA w1 : World) (pb gb : Nat) (v : Value) (t : ByteArray) (xs : List Int) (W : World) : Prop where
  box : W.heap[pb]? = some (.cells #[v, .string t] 26 (0, 0))
  own : OwnInts 2 W w1.heap.size v xs
  ex : Ext wA W
  wd : W.heap[gb]? = w1.heap[gb]?
  sz : w1.heap.size ≤ W.heap.size
  gl : gb < w1.heap.size
  pl : wA.heap.size ≤ pb
  al : wA.heap.size ≤ w1.heap.size
  ng : pb ≠ gb
theorem RHi.ext {wA w1 W W' : World} {pb gb : Nat} {v : Value} {t : ByteArray} {xs : List Int} (h : RHi wA w1 pb gb v t xs W) (e : Ext W W') : RHi wA w1 pb gb v t xs W' := by
  refine ⟨e.block h.box, h.own.ext e, h.ex.trans e, ?_, Nat.le_trans h.sz e.size, h.gl, h.pl, h.al, h.ng⟩
  rw [Array.getElem?_eq_getElem h.gl]
  have := h.wd
  rw [Array.getElem?_eq_getElem h.gl] at this
  exact e.block this
theorem RHi.cell {wA w1 W : World} {pb gb : Nat} {v : Value} {t : ByteArray} {xs : List Int} (h : RHi wA w1 pb gb v t xs W) {k : Nat} {x : Value} (hc : w1.cell? ⟨gb, k, none⟩ = some x) : W.cell? ⟨gb, k, none⟩ = some x := by
  rw [← hc]
  simp [World.cell?, h.wd]
theorem heapR_other (W : World) (b i k : Nat) (x : Value) (h : b ≠ k) : (W.setCell ⟨b, i, none⟩ x).heap[k]? = W.heap[k]? := by
  show (W.heap.modify b _)[k]? = _
  rw [Array.getElem?_modify, if_neg h]
theorem sizeR_set (W : World) (b i : Nat) (x : Value) : (W.setCell ⟨b, i, none⟩ x).heap.size = W.heap.size := by simp [World.setCell]
theorem RHi.app {wA w1 W W' : World} {pb gb : Nat} {v v' : Value} {t : ByteArray} {xs ys : List Int} (h : RHi wA w1 pb gb v t xs W) (hg : W.grownBy W' v.ownBlock) (o : OwnInts 2 W' w1.heap.size v' ys) :
    W'.heap[pb]? = some (.cells #[v, .string t] 26 (0, 0)) ∧ RHi wA w1 pb gb v' t ys (W'.setCell ⟨pb, 0, none⟩ v') := by
  have hb := blkR_grown h.box hg (fun e => row_neR h.own.1 h.box (by decide) pb e.symm rfl)
  refine ⟨hb, heapR_set _ pb 0 v' hb, ⟨ownsRow_setCell_other o.1 (row_neR o.1 hb (by decide)) v', o.2⟩, (h.ex.grown hg (fun j hj => Nat.le_trans h.al (h.own.1.lt j hj).1)).setCell h.pl _, ?_, ?_, h.gl, h.pl, h.al, h.ng⟩
  · rw [heapR_other _ _ _ _ _ h.ng, hg.block gb (Nat.lt_of_lt_of_le h.gl h.sz) (fun e => by have := (h.own.1.lt gb e.symm).1; have := h.gl; omega)]
    exact h.wd
  · rw [sizeR_set]; exact Nat.le_trans h.sz hg.size
theorem RHi.putT {wA w1 W : World} {pb gb : Nat} {v : Value} {t : ByteArray} {xs : List Int} (h : RHi wA w1 pb gb v t xs W) (t' : ByteArray) : RHi wA w1 pb gb v t' xs (W.setCell ⟨pb, 1, none⟩ (.string t')) :=
  ⟨heapR_set _ pb 1 _ h.box, ⟨ownsRow_setCell_other h.own.1 (row_neR h.own.1 h.box (by decide)) _, h.own.2⟩, h.ex.setCell h.pl _, by rw [heapR_other _ _ _ _ _ h.ng]; exact h.wd, by rw [sizeR_set]; exact h.sz, h.gl, h.pl, h.al, h.ng⟩
/-- one integer is appended, as one step of a region -/
theorem step_append_intH {w0 w : World} {ops : Array Oper} {o : Oper} {a : Act} {K : Act → World → Prop} {Q : Exit → Act → World → Prop} {E : Prop} (hgd : o.guard = none) (s x : Operand)
    (ho : o.op = .call { callee := .builtin .append, args := #[s, x], argTypes := #[24, 24] })
    (base : Nat) (v : Value) (xs : List Int) (y : Int) (hs : a.eval s = v) (hw : w = w0.alloc (.cells #[.int .i64 y] 2)) (hx : a.eval x = .slice (some ⟨w0.heap.size, 0, none⟩) 1 1)
    (hown : OwnInts 2 w0 base v xs) (hb : base ≤ w0.heap.size) (hy : IsI64 y) (hlen : xs.length ≤ 1000000000)
    (h : ∀ v' w', OwnInts 2 w' base v' (xs ++ [y]) → w0.grownBy w' v.ownBlock → K (a.put o.dst v') w') :
    if Region.wanted o (yielded ops a.tmps) = true then Oper.wp Tryz.prog o a w K Q else E := by
  have hw' : Region.wanted o (yielded ops a.tmps) = true := by simp [Region.wanted, hgd]
  rw [if_pos hw']
  obtain ⟨i0, hi, hz0, hz1, hz2⟩ := info_parts info_i64
  subst hw
  refine wp_append_own _ s x 24 ho base 2 i0 (.int .i64 0) 1 8 Tryz.underlying24 hi hz0 hz1 hz2 rfl (by decide) v xs.length (xs.map (Value.int .i64)) hs (hown.1.alloc _)
    ⟨w0.heap.size, 0, none⟩ 1 1 [.int .i64 y] hx rfl (cell_one_new _ _ _) (by intro u hu; simp at hu; subst hu; rfl) (by unfold maxLen; omega) (by omega) (by simp; omega) ?_
  intro v' w' ho' hg _
  refine h v' w' ⟨?_, ?_⟩ ((World.grownBy_alloc w0 _ _).trans hg)
  · simpa using ho'
  · intro z hz
    rcases List.mem_append.1 hz with hz | hz
    · exact hown.2 z hz
    · simp at hz; subst hz; exact hy
set_option maxRecDepth 40000 in
set_option maxHeartbeats 2000000 in
theorem i_ReadHouse (s : ByteArray) (hs : s.size ≤ 2000000) (w : World) (hT : TabP w) (hE : ErrP w) (hMx : MaxP w) : Calls Tryz.prog 17 #[.string s] w (RetHouseB (rhX (bts s)) (rhT (bts s)) (rhB (bts s)) w) := by
  have eA : Ext w (w.alloc (.cells #[.slice none 0 0, .string ⟨#[]⟩] 26)) := (Ext.refl w).alloc _
  have eB : Ext w ((w.alloc (.cells #[.slice none 0 0, .string ⟨#[]⟩] 26)).alloc (.cells #[.slice none 0 0, .string ⟨#[]⟩] 26)) := eA.alloc _
  have HR0 := Lib.hid (blk_at w (.cells #[.slice none 0 0, .string ⟨#[]⟩] 26) _ rfl)
  have hSP := f_SplitN s hs _ (hMx.ext eB)
  have HH0 := Lib.hid (blk_at (w.alloc (.cells #[.slice none 0 0, .string ⟨#[]⟩] 26)) (.cells #[.slice none 0 0, .string ⟨#[]⟩] 26) (w.heap.size + 1) (by simp))
  have hZA : (w.alloc (.cells #[.slice none 0 0, .string ⟨#[]⟩] 26)).heap.size = w.heap.size + 1 := by simp
  have hZB : ((w.alloc (.cells #[.slice none 0 0, .string ⟨#[]⟩] 26)).alloc (.cells #[.slice none 0 0, .string ⟨#[]⟩] 26)).heap.size = w.heap.size + 1 + 1 := by simp
  have hBW := fun x h1 h2 => rhB_badN (l := bts s) (w := x) h1 h2
  have hRT := rh_text (l := bts s)
  have hLen := wordsN_len (bts s)
  have hMem : ∀ x ∈ wordsN (bts s), x.length ≤ s.size := fun x hx => by have := splitK_mem 32 _ (bts s) x hx; rwa [bts_length] at this
  have hPos := wordsN_pos (bts s)
  obtain ⟨WN, hWN⟩ : ∃ WN, wordsN (bts s) = WN := ⟨_, rfl⟩
  rw [hWN] at hSP hBW hRT hLen hMem hPos
  obtain ⟨n, hn⟩ : ∃ n, (WN.map mkS).length = n := ⟨_, rfl⟩
  have HL : Hid (WN.length = n) := Lib.hid (by rw [← hn, List.length_map])
  have hn13 : n ≤ 13 ∧ 1 ≤ n := by have := HL.out; omega
  have HBW := Lib.hid hBW
  have HRT := Lib.hid hRT
  have HMem := Lib.hid hMem
  have HTb := Lib.hid hT
  have HEr := Lib.hid hE
  have HZB := Lib.hid hZB
  obtain ⟨wA, hwA⟩ : ∃ x, w.alloc (.cells #[.slice none 0 0, .string ⟨#[]⟩] 26) = x := ⟨_, rfl⟩
  have HWA := Lib.hid hwA
  have HZA : Hid (wA.heap.size = w.heap.size + 1) := Lib.hid (by rw [← hwA]; exact hZA)
  have HEA : Hid (Ext w wA) := Lib.hid (by rw [← hwA]; exact eA)
  rw [hwA] at HR0
  clear hBW hRT hMem hPos hWN hLen hT hE hMx eA eB hZA hZB hwA
  go_enter Tryz.func17, Tryz.ntmps17
  go_wp2_with (go_at_call 41; refine hSP.mono ?_; rintro e w1 ⟨gb, cap, hgb, rfl, ho, e1⟩; rw [hn] at ho ⊢; have HS := Lib.hid ho; have HG := Lib.hid hgb; have HE1 := Lib.hid e1; clear ho e1 hSP hn hgb)
  have HM1 : Hid (RHi wA w1 (w.heap.size + 1) gb (.slice none 0 0) ⟨#[]⟩ [] w1) := Lib.hid (by
    have h1 := HG.out
    have h2 := HE1.out.size
    rw [HZB.out] at h1 h2
    have h3 := HZA.out
    obtain ⟨b', o', he, hc⟩ := HS.out.2.2.1 0 (by omega)
    simp only [Option.some.injEq, Addr.mk.injEq, and_true] at he
    obtain ⟨rfl, rfl⟩ := he
    refine ⟨HE1.out.block HH0.out, OwnInts.nilv _ _ _, ?_, rfl, Nat.le_refl _, block_lt_of_cell hc, by omega, by omega, by omega⟩
    rw [← HWA.out]
    exact ((Ext.refl _).alloc _).trans HE1.out)
  clear HG HE1 HH0
  go_loopw [14] (fun i wr => ∃ (k : Nat) (v : Value) (ts : List UInt8), k ≤ n ∧ i = .int .i64 k ∧ Hid (ts = (WN.take k).map lastW ∧ (WN.take k).all okW = true) ∧ Hid (RHi wA w1 (w.heap.size + 1) gb v (mkS ts) ((WN.take k).map valW) wr)) (fun i _ => n - (intOf i).toNat)
  case atStart => exact ⟨0, .slice none 0 0, [], Nat.zero_le _, rfl, Lib.hid ⟨rfl, rfl⟩, HM1⟩
  case round =>
    obtain ⟨k, v, ts, hk, rfl, HT, HM⟩ := hrel
    by_cases hlt : k < n
    · have hki : (k : Int) < (n : Int) := by omega
      have hkx : k < WN.length := by rw [HL.out]; exact hlt
      obtain ⟨b, off, hbo1, hc⟩ := HS.out.2.2.1 k hlt
      simp only [Option.some.injEq, Addr.mk.injEq, and_true] at hbo1
      obtain ⟨rfl, rfl⟩ := hbo1
      rw [Nat.zero_add] at hc
      have hc := HM.out.cell hc
      have hzx := word_at (XS := WN) (k := k) hkx
      obtain ⟨z, hz⟩ : ∃ z, (WN.map mkS).getD k ByteArray.empty = z := ⟨_, rfl⟩
      rw [hz] at hc hzx
      obtain ⟨x, hx⟩ : ∃ x, WN.getD k [] = x := ⟨_, rfl⟩
      have hxk : WN[k] = x := by rw [← hx, List.getD_eq_getElem?_getD, List.getElem?_eq_getElem hkx]; rfl
      rw [hx] at hzx
      have hxi : x ∈ WN := by rw [← hxk]; exact List.getElem_mem _
      have hxm := HMem.out x hxi
      have HBX := Lib.hid (fun h => HBW.out x hxi h)
      have HT1 : Hid ((WN.take (k + 1)).map valW = (WN.take k).map valW ++ [valW x] ∧ (WN.take (k + 1)).map lastW = (WN.take k).map lastW ++ [lastW x] ∧ (WN.take (k + 1)).all okW = ((WN.take k).all okW && okW x)) := Lib.hid (by
        rw [List.take_succ_eq_append_getElem hkx, hxk, List.map_append, List.map_append, List.all_append]; simp)
      have hzs : z.size = x.length := by rw [← hzx, bts_length]
      have hzb : z.size ≤ 2000000 := by omega
      clear hx hz hkx hxi hxm hxk
      have hbr : okW x = rdB x.dropLast := rfl
      have HNum := Lib.hid (fun t (ht : bts t = x.dropLast) (hl : t.size ≤ 9223372036854775807) => by have := i_ReadDecimal t hl wr (HTb.out.ext (HEA.out.trans HM.out.ex)) (HEr.out.ext (HEA.out.trans HM.out.ex)); unfold RetNum at this; rw [ht] at this; exact this)
      obtain ⟨r0, r1, r2, r3, r4⟩ := two_cells (HM.out.ex.block HR0.out)
      by_cases hx0 : x = []
      · subst hx0
        have hF : okW [] = false := by rw [← Bool.not_eq_true]; exact fun h => okW_ne h rfl
        have HN := Lib.hid (HBX.out hF)
        have hz0 : z = ⟨#[]⟩ := by have := congrArg mkS hzx; rwa [mkS_bts] at this
        subst hz0
        have HNum2 := Lib.hid (fun t (ht : bts t = []) hl => by have := HNum.out t ht hl; rwa [show ([] : List UInt8).dropLast = [] from rfl, rdB_nil] at this)
        clear hF hzs hzx HNum hzb HBX hbr
        go_wp2_with (go_at_call 42; refine (HNum2.out _ (by first | rfl | decide) (by first | decide | simp)).mono ?_; rintro e w2 ⟨rfl, e2⟩; obtain ⟨s0, s1, s2, s3, s4⟩ := two_cells ((HM.out.ex.trans e2).block HR0.out); have EW0 := Lib.hid (HEA.out.trans (HM.out.ex.trans e2)); clear e2)
        refine bodyPost_ret (v := .tuple #[.agg #[.slice none 0 0, .string ⟨#[]⟩], .bool false]) (by simp [results, Tryz.results17, go_sem, s0, s1]) rfl ?_
        refine RetHouseB.bad HN.out ?_
        repeat' (first | exact EW0.out | (dsimp only; omega) | refine Ext.setCell ?_ ?_ _)
      · have hxl : 0 < x.length := List.length_pos_iff.2 hx0
        obtain ⟨m, hm⟩ : ∃ m, z.size = m + 1 := ⟨z.size - 1, by omega⟩
        have hzy := hzx.trans (okW_split hx0)
        have HZY := Lib.hid (ext_init hzy hm)
        have HZL := Lib.hid (ext_last hzy hm)
        have hmx : max ((z.size : Int) - 1) 0 = (m : Int) := by omega
        have HMz := Lib.hid hm
        have hm0 : (0 : Int) ≤ (m : Int) := by omega
        have hmz : (m : Int) ≤ (z.size : Int) := by omega
        have hmz2 : m ≤ z.size := by omega
        have hwz : IntKind.i64.wrap ((z.size : Int) - 1) = (z.size : Int) - 1 := wrap_in _ (by omega) (by omega)
        have hz1 : z.size - m = 1 := by omega
        have HTS := mkS_size ts
        have HTL : ts.length = k := by rw [HT.out.1, List.length_map, List.length_take, HL.out]; omega
        have HAP := Lib.hid (mkS_app ts [lastW x])
        obtain ⟨zt, hzt⟩ : ∃ zt, mkS ts = zt := ⟨_, rfl⟩
        rw [hzt] at HTS HAP HM
        have hs1 : ¬ (9223372036854775807 < zt.size + 1) := by omega
        clear hzs hm hzx hzy hx0 hxl HTS HTL hzt
        go_wp2_with fail
        refine (HNum.out _ HZY.out (by rw [ByteArray.size_extract]; omega)).mono ?_
        rintro e w2 ⟨rfl, e2⟩
        have HM2 := Lib.hid (HM.out.ext e2)
        have hc := e2.cell hc
        clear e2 HNum HZY HM hmx hwz r0 r1 r2 r3 r4
        obtain ⟨r0, r1, r2, r3, r4⟩ := two_cells (HM2.out.ex.block HR0.out)
        cases hb : rdB x.dropLast with
        | false =>
          have HN := Lib.hid (HBX.out (hbr.trans hb))
          have EW0 := Lib.hid (HEA.out.trans HM2.out.ex)
          clear hb hbr
          go_wp2
          refine bodyPost_ret (v := .tuple #[.agg #[.slice none 0 0, .string ⟨#[]⟩], .bool false]) (by simp [results, Tryz.results17, go_sem, r0, r1]) rfl ?_
          refine RetHouseB.bad HN.out ?_
          repeat' (first | exact EW0.out | (dsimp only; omega) | refine Ext.setCell ?_ ?_ _)
        | true =>
          obtain ⟨y, hv⟩ : ∃ v, rdN x.dropLast = v := ⟨_, rfl⟩
          have HVW : Hid (valW x = y) := Lib.hid (by rw [← hv, rdN_t hb]; rfl)
          have hyI : IsI64 y := by
            have h1 := rdB_iff.1 hb
            have h2 := rdV_bd h1.2.1 h1.2.2.1
            rw [← hv, rdN_t hb]
            unfold IsI64; omega
          have HOX : Hid (okW x = true) := Lib.hid (hbr.trans hb)
          rw [hv]
          have HYI := Lib.hid hyI
          clear hb hbr hv hyI r0 r1 r2 r3 r4
          obtain ⟨p0, p1, p2, p3, p4⟩ := two_cells HM2.out.box
          have HLX : Hid (((WN.take k).map valW).length ≤ 1000000000) := Lib.hid (by rw [List.length_map, List.length_take, HL.out]; omega)
          have HLK : Hid (((WN.take k).map valW ++ [y]).length = k + 1) := Lib.hid (by rw [List.length_append, List.length_map, List.length_take, HL.out, List.length_singleton, Nat.min_eq_left (by omega)])
          have HM3 := Lib.hid (HM2.out.ext (Ext.refl w2).drew)
          go_upto_region 9 with fail
          go_region_law (refine step_append_intH (w0 := w2.drew) rfl _ _ rfl w1.heap.size v ((WN.take k).map valW) y rfl rfl rfl HM3.out.own HM3.out.sz HYI.out HLX.out ?_; intro v' w4 ho4 g4; obtain ⟨a4, c4, rfl, _⟩ := ho4.shape; rw [HLK.out] at ho4 ⊢; have HA := Lib.hid (HM3.out.app g4 ho4); obtain ⟨q0, q1, q2, q3, q4⟩ := two_cells HA.out.1; clear ho4 g4)
          all_goals
            have HM4 := Lib.hid (HA.out.2.putT (zt ++ z.extract m z.size))
            clear q0 q1 q2 q3 q4 p0 p1 p2 p3 p4 HA hc HM3
            obtain ⟨w5, hw5⟩ : ∃ W, (w4.setCell ⟨w.heap.size + 1, 0, none⟩ (.slice a4 (k + 1) c4)).setCell ⟨w.heap.size + 1, 1, none⟩ (.string (zt ++ z.extract m z.size)) = W := ⟨_, rfl⟩
            rw [hw5] at HM4 ⊢
            clear hw5
            go_wp2
            go_roundw
            case rel => exact ⟨k + 1, .slice a4 (k + 1) c4, ts ++ [lastW x], by omega, by go_num, Lib.hid ⟨by rw [HT1.out.2.1, HT.out.1], by rw [HT1.out.2.2, HT.out.2, HOX.out]; rfl⟩, Lib.hid (by rw [HT1.out.1, HVW.out, ← HAP.out, ← HZL.out]; exact HM4.out)⟩
            case measure => simp [intOf]; omega
    · have hta : WN.take k = WN := List.take_of_length_le (by rw [HL.out]; omega)
      rw [hta] at HT HM
      have hki : ¬ (k : Int) < (n : Int) := by omega
      have hR := HRT.out HT.out.2
      have hsl : (WN.map valW).length = n := by rw [List.length_map, HL.out]
      have htl : (mkS ts).size ≤ 9223372036854775807 := by rw [mkS_size, HT.out.1, List.length_map, HL.out]; omega
      have hbt : bts (mkS ts) = WN.map lastW := by rw [bts_mkS, HT.out.1]
      have HMT : Hid (rhB (bts s) = true → mkS ts = mkS (rhL (bts s))) := Lib.hid (fun h => by rw [(hR.1 h).2.1, HT.out.1])
      have HRS : Hid (rhB (bts s) = true → WN.map valW = rhS (bts s)) := Lib.hid (fun h => (hR.1 h).1.symm)
      obtain ⟨T, hTe⟩ : ∃ T, mkS ts = T := ⟨_, rfl⟩
      rw [hTe] at htl hbt HMT HM
      obtain ⟨av, cv, rfl, _⟩ := HM.out.own.shape
      rw [hsl] at HM
      have hHT := i_HouseText av n cv (WN.map valW) T wr HM.out.own.ints htl (HTb.out.ext (HEA.out.trans HM.out.ex))
      rw [hbt] at hHT
      obtain ⟨p0, p1, p2, p3, p4⟩ := two_cells HM.out.box
      have HSL := Lib.hid hsl
      by_cases hv : rhB (bts s) = true
      case pos =>
        have hes : mkS (hTxt (WN.map valW) (WN.map lastW)) = s := by rw [(hR.1 hv).2.2, mkS_bts]
        rw [hes] at hHT
        have HHT := Lib.hid hHT
        have HVV := Lib.hid hv
        have HMT2 := Lib.hid (HMT.out hv)
        have HRS2 := Lib.hid (HRS.out hv)
        clear hes hHT hv hR hsl htl hbt hTe hta
        go_wp2_with (go_at_call 16; refine HHT.out.mono ?_; rintro e w7 ⟨rfl, e7⟩; have HM7 := Lib.hid (HM.out.ext e7); obtain ⟨r0, r1, r2, r3, r4⟩ := two_cells (HM7.out.ex.block HR0.out); obtain ⟨s0, s1, s2, s3, s4⟩ := two_cells HM7.out.box; have EW0 := Lib.hid (HEA.out.trans HM7.out.ex); clear e7)
        refine bodyPost_ret (v := .tuple #[.agg #[.slice av n cv, .string T], .bool true]) (by simp [results, Tryz.results17, go_sem, r0, r1]) rfl ?_
        rw [HMT2.out]
        refine RetHouseB.good HVV.out (by rw [← HRS2.out]; exact HSL.out) ?_ ?_
        · rw [← HRS2.out]
          have Z1 : w.heap.size < w1.heap.size := by have := HM7.out.al; rw [HZA.out] at this; omega
          exact OwnInts.mono (OwnInts.setBelow (OwnInts.setBelow HM7.out.own Z1 _) Z1 _) (Nat.le_of_lt Z1)
        · repeat' (first | exact EW0.out | (dsimp only; omega) | refine Ext.setCell ?_ ?_ _)
      case neg =>
        rw [Bool.not_eq_true] at hv
        obtain ⟨t, ht⟩ : ∃ t, mkS (hTxt (WN.map valW) (WN.map lastW)) = t := ⟨_, rfl⟩
        have hne : (t.toList == s.toList) = false := toList_ne (fun e => hR.2 hv (by rw [← e, ← ht, bts_mkS]))
        rw [ht] at hHT
        have HHT := Lib.hid hHT
        have HVV := Lib.hid hv
        clear hHT hv hR hsl htl hbt hTe hta ht
        go_wp2_with (go_at_call 16; refine HHT.out.mono ?_; rintro e w7 ⟨rfl, e7⟩; have HM7 := Lib.hid (HM.out.ext e7); obtain ⟨r0, r1, r2, r3, r4⟩ := two_cells (HM7.out.ex.block HR0.out); have EW0 := Lib.hid (HEA.out.trans HM7.out.ex); clear e7)
        refine bodyPost_ret (v := .tuple #[.agg #[.slice none 0 0, .string ⟨#[]⟩], .bool false]) (by simp [results, Tryz.results17, go_sem, r0, r1]) rfl ?_
        refine RetHouseB.bad HVV.out ?_
        repeat' (first | exact EW0.out | (dsimp only; omega) | refine Ext.setCell ?_ ?_ _)
end Go.Proofs.YtaokeaiehjgbnaaGreatDoor

/- A plan is read back from its own text: plain laws. Nothing here speaks of the program. -/
namespace Go.Proofs.YtaokeaiehjgbnaaGreatDoor
open Go.Lib
set_option linter.unusedSimpArgs false
set_option linter.unusedVariables false
set_option linter.unnecessarySimpa false

theorem runW_free : ∀ (xs : List Int) (ts : List UInt8), (∀ x ∈ xs, 0 ≤ x) → ts.all lrB = true → ∀ z ∈ runW xs ts, ∀ c ∈ z, c ≠ 32
  | [], ts, _, _, z, hz, _, _ => by simp [runW] at hz
  | x :: xs, [], _, _, z, hz, _, _ => by simp [runW] at hz
  | x :: xs, t :: ts, h1, h2, z, hz, c, hc => by
    simp only [List.all_cons, Bool.and_eq_true] at h2
    have hz' : z ∈ (itoa x ++ [t]) :: runW xs ts := hz
    rcases List.mem_cons.1 hz' with rfl | hz'
    · rcases List.mem_append.1 hc with hc | hc
      · obtain ⟨u, rfl⟩ := Int.eq_ofNat_of_zero_le (h1 x (by simp))
        exact itoa_free u c hc
      · rw [List.mem_singleton.1 hc]
        rintro rfl
        exact absurd h2.1 (by decide)
    · exact runW_free xs ts (fun y hy => h1 y (List.mem_cons_of_mem _ hy)) h2.2 z hz' c hc
theorem runW_back : ∀ (xs : List Int) (ts : List UInt8), ts.length = xs.length → (∀ x ∈ xs, 0 ≤ x ∧ x ≤ 200) → (runW xs ts).all okW = true ∧ (runW xs ts).map valW = xs ∧ (runW xs ts).map lastW = ts
  | [], [], _, _ => ⟨rfl, rfl, rfl⟩
  | [], t :: ts, h, _ => by simp at h
  | x :: xs, [], h, _ => by simp at h
  | x :: xs, t :: ts, h, hb => by
    obtain ⟨i1, i2, i3⟩ := runW_back xs ts (by simpa using h) (fun y hy => hb y (List.mem_cons_of_mem _ hy))
    have hx := hb x (by simp)
    obtain ⟨r1, r2⟩ := rd_itoa (n := x) (by omega) (by omega)
    have e : runW (x :: xs) (t :: ts) = (itoa x ++ [t]) :: runW xs ts := rfl
    have hv : valW (itoa x ++ [t]) = x := by unfold valW; rw [dropLast_snoc1, r2]
    have ho : okW (itoa x ++ [t]) = true := by unfold okW; rw [dropLast_snoc1, r1]
    rw [e, List.all_cons, List.map_cons, List.map_cons, hv, ho, lastW_snoc, i1, i2, i3]
    exact ⟨rfl, rfl, rfl⟩
theorem rh_own {xs : List Int} {ts : List UInt8} (h : validH xs ts = true) : rhB (hTxt xs ts) = true ∧ rhX (hTxt xs ts) = xs ∧ rhT (hTxt xs ts) = mkS ts ∧ hTxt xs ts ≠ [] := by
  obtain ⟨h4, h12, hb, hl, hlr⟩ := validH_bd h
  have hb2 : ∀ x ∈ xs, 0 ≤ x ∧ x ≤ 200 := fun x hx => by have := hb x hx; omega
  have hne : runW xs ts ≠ [] := fun e => by have := congrArg List.length e; rw [runW_len hl, List.length_nil] at this; omega
  obtain ⟨k1, k2, k3⟩ := runW_back xs ts hl hb2
  have hs : splL 32 (hTxt xs ts) = runW xs ts := by
    rw [hTxt_t h, runT_eq]
    exact splL_free 32 _ hne (runW_free xs ts (fun x hx => (hb2 x hx).1) hlr)
  have hB : rhB (hTxt xs ts) = true := by
    unfold rhB rhS rhL
    rw [hs, k1, k2, k3, h]; rfl
  refine ⟨hB, ?_, ?_, ?_⟩
  · unfold rhX rhS; rw [if_pos hB, hs, k2]
  · unfold rhT rhL; rw [if_pos hB, hs, k3]
  · intro e
    rw [e] at hB
    exact absurd hB (by unfold rhB; rw [show splL 32 ([] : List UInt8) = [[]] from rfl, show [([] : List UInt8)].all okW = false by rw [List.all_cons, show okW [] = false by rw [← Bool.not_eq_true]; exact fun h => okW_ne h rfl]; rfl]; simp)
theorem rh_none {xs : List Int} {ts : List UInt8} (h : ¬ validH xs ts = true) : rhB (hTxt xs ts) = false ∧ hTxt xs ts = [] := by
  have e := hTxt_f h
  refine ⟨?_, e⟩
  rw [e, ← Bool.not_eq_true]
  intro hB
  exact absurd hB (by unfold rhB; rw [show splL 32 ([] : List UInt8) = [[]] from rfl, show [([] : List UInt8)].all okW = false by rw [List.all_cons, show okW [] = false by rw [← Bool.not_eq_true]; exact fun h => okW_ne h rfl]; rfl]; simp)
theorem hTxt_len (xs : List Int) (ts : List UInt8) : (hTxt xs ts).length ≤ 400 := by
  by_cases h : validH xs ts = true
  · obtain ⟨h4, h12, hb, hl, hlr⟩ := validH_bd h
    rw [hTxt_t h, runT_eq]
    have hw := runW_bd (ts := ts) (xs := xs) (fun x hx => by have := hb x hx; omega)
    have := join_len [32] 21 (runW xs ts) (fun z hz => (hw z hz).2)
    have h3 := runW_len hl
    simp only [List.length_singleton] at this
    omega
  · rw [hTxt_f h]; exact Nat.zero_le _
end Go.Proofs.YtaokeaiehjgbnaaGreatDoor
