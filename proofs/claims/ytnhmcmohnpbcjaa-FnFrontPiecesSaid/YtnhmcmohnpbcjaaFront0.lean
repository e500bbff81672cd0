/- Contracts of the laws' helpers over fronts and their openings. -/
import Derived.Test.YtnhmcmohnpbcjaaHouse0
import Derived.Deep.RegionHeld3
import Derived.Deep.DeepCutAuto
namespace Go.Proofs.Ytnhmcmohnpbcjaa
open Go.RowKit
set_option linter.unusedSimpArgs false
set_option linter.unusedVariables false
set_option linter.unnecessarySimpa false

/-- an opening as four numbers -/
structure Opn where
  fr : Int
  en : Int
  lo : Int
  hi : Int
  deriving DecidableEq
instance : Inhabited Opn := ⟨⟨0, 0, 0, 0⟩⟩
def opnC (o : Opn) : List Value := [.int .i64 o.fr, .int .i64 o.en, .int .i64 o.lo, .int .i64 o.hi]
def Opn.ok (o : Opn) : Prop := IsI64 o.fr ∧ IsI64 o.en ∧ IsI64 o.lo ∧ IsI64 o.hi
/-- The slice of n openings at ao reads, in w, as os. -/
def Opens (w : World) (ao : Option Addr) (n : Nat) (os : List Opn) : Prop :=
  os.length = n ∧ n ≤ 9223372036854775807 ∧ (∀ i, i < n → ∃ b off, ao = some ⟨b, off, none⟩ ∧ w.cell? ⟨b, off + i * 4, none⟩ = some (.int .i64 (os.getD i default).fr) ∧ w.cell? ⟨b, off + i * 4 + 1, none⟩ = some (.int .i64 (os.getD i default).en) ∧
    w.cell? ⟨b, off + i * 4 + 2, none⟩ = some (.int .i64 (os.getD i default).lo) ∧ w.cell? ⟨b, off + i * 4 + 3, none⟩ = some (.int .i64 (os.getD i default).hi)) ∧ ∀ o ∈ os, o.ok
theorem Opens.ext {w w' : World} {ao : Option Addr} {n : Nat} {os : List Opn} (h : Opens w ao n os) (e : Ext w w') : Opens w' ao n os :=
  ⟨h.1, h.2.1, fun i hi => let ⟨b, off, h1, h2, h3, h4, h5⟩ := h.2.2.1 i hi; ⟨b, off, h1, e.cell h2, e.cell h3, e.cell h4, e.cell h5⟩, h.2.2.2⟩
theorem l_toOpening (a b c d : Int) (w : World) : Calls Try.prog 13 #[.agg #[.int .i64 a, .int .i64 b, .int .i64 c, .int .i64 d]] w (RetE (.agg #[.int .i64 a, .int .i64 b, .int .i64 c, .int .i64 d]) w) := by
  go_enter Try.func13, Try.ntmps13
  go_wp2
  refine bodyPost_ret (v := .agg #[.int .i64 a, .int .i64 b, .int .i64 c, .int .i64 d]) (by simp [results, Try.results13, go_sem]) rfl (RetE.mk rfl ?_)
  repeat' (first | exact Ext.refl _ | (dsimp only; omega) | refine Ext.setCell ?_ ?_ _ | refine Ext.alloc ?_ _)
theorem l_eqOpening (a b c d e f g h : Int) (w : World) : Calls Try.prog 94 #[.agg #[.int .i64 a, .int .i64 b, .int .i64 c, .int .i64 d], .agg #[.int .i64 e, .int .i64 f, .int .i64 g, .int .i64 h]] w (RetE (.bool (decide ((⟨a, b, c, d⟩ : Opn) = ⟨e, f, g, h⟩))) w) := by
  by_cases h1 : a = e
  · by_cases h2 : b = f
    · by_cases h3 : c = g
      · by_cases h4 : d = h
        · subst h1 h2 h3 h4
          go_enter Try.func94, Try.ntmps94
          go_wp2
          go_ret
          refine RetE.mk (bool_eq (by simp)) ?_
          repeat' (first | exact Ext.refl _ | refine Ext.alloc ?_ _)
        · subst h1 h2 h3
          have n4 : (d != h) = true := by simp [h4]
          go_enter Try.func94, Try.ntmps94
          go_wp2
          go_ret
          refine RetE.mk (bool_eq (by simp [h4])) ?_
          repeat' (first | exact Ext.refl _ | refine Ext.alloc ?_ _)
      · subst h1 h2
        have n4 : (c != g) = true := by simp [h3]
        go_enter Try.func94, Try.ntmps94
        go_wp2
        go_ret
        refine RetE.mk (bool_eq (by simp [h3])) ?_
        repeat' (first | exact Ext.refl _ | refine Ext.alloc ?_ _)
    · subst h1
      have n4 : (b != f) = true := by simp [h2]
      go_enter Try.func94, Try.ntmps94
      go_wp2
      go_ret
      refine RetE.mk (bool_eq (by simp [h2])) ?_
      repeat' (first | exact Ext.refl _ | refine Ext.alloc ?_ _)
  · have n4 : (a != e) = true := by simp [h1]
    go_enter Try.func94, Try.ntmps94
    go_wp2
    go_ret
    refine RetE.mk (bool_eq (by simp [h1])) ?_
    repeat' (first | exact Ext.refl _ | refine Ext.alloc ?_ _)
/-- four cells that hold an opening -/
abbrev Four (w : World) (b o : Nat) (x1 x2 x3 x4 : Int) : Prop := w.cell? ⟨b, o, none⟩ = some (.int .i64 x1) ∧ w.cell? ⟨b, o + 1, none⟩ = some (.int .i64 x2) ∧ w.cell? ⟨b, o + 2, none⟩ = some (.int .i64 x3) ∧ w.cell? ⟨b, o + 3, none⟩ = some (.int .i64 x4)
theorem Four.ext {w w' : World} {b o : Nat} {x1 x2 x3 x4 : Int} (h : Four w b o x1 x2 x3 x4) (e : Ext w w') : Four w' b o x1 x2 x3 x4 := ⟨e.cell h.1, e.cell h.2.1, e.cell h.2.2.1, e.cell h.2.2.2⟩
theorem keepFF {w2 W W' : World} {b o b' o' : Nat} {x1 x2 x3 x4 y1 y2 y3 y4 : Int} (h : Four W b o x1 x2 x3 x4 ∧ Four W b' o' y1 y2 y3 y4 ∧ Ext w2 W) (e : Ext W W') : Four W' b o x1 x2 x3 x4 ∧ Four W' b' o' y1 y2 y3 y4 ∧ Ext w2 W' := ⟨h.1.ext e, h.2.1.ext e, h.2.2.trans e⟩
theorem heldFF {w2 W : World} {b o b' o' : Nat} {x1 x2 x3 x4 y1 y2 y3 y4 : Int} (h : Four W b o x1 x2 x3 x4 ∧ Four W b' o' y1 y2 y3 y4 ∧ Ext w2 W) : Ext w2 W := h.2.2
theorem info_opn : (Try.prog.info? 34).map (fun i => (i.zero, i.size, i.bytes)) = some (some (.agg #[.int .i64 0, .int .i64 0, .int .i64 0, .int .i64 0]), 4, 32) := by kernel_rfl
/-- The slice v is one that the call made (from block base on), it may be written, and it holds the openings os. -/
def OwnOpens (w : World) (base : Nat) (v : Value) (os : List Opn) : Prop := w.ownsRow base 34 4 v os.length (os.flatMap opnC) ∧ ∀ o ∈ os, o.ok
def RetOpens (os : List Opn) (w : World) (e : Ending) (w' : World) : Prop := ∃ ao cap, e = .returned (.slice ao os.length cap) ∧ OwnOpens w' w.heap.size (.slice ao os.length cap) os ∧ Ext w w'
def copOpn (os : List Opn) (n k : Nat) : List Value := (os.take k).flatMap opnC ++ List.replicate ((n - k) * 4) (.int .i64 0)
theorem own_cell {w : World} {base : Nat} {E : TypeId} {size g n cap : Nat} {xs : List Value} (h : w.ownsRow base E size (.slice (some ⟨g, 0, none⟩) n cap) n xs) (j : Nat) (hj : j < n * size) :
    ∃ u, w.cell? ⟨g, j, none⟩ = some u ∧ w.frozen? ⟨g, j, none⟩ = false :=
  ⟨xs[j]'(by rw [h.1]; exact hj), by rw [h.cellAt j hj, List.getElem?_eq_getElem (by rw [h.1]; exact hj)], h.frozenAt j⟩
theorem flat_length (os : List Opn) : (os.flatMap opnC).length = os.length * 4 := by
  induction os with
  | nil => rfl
  | cons o os ih => rw [List.flatMap_cons, List.length_append, ih, List.length_cons, opnC]; simp; omega
theorem set4 (P R : List Value) (z a b c d : Value) : ((((P ++ z :: z :: z :: z :: R).set P.length a).set (P.length + 1) b).set (P.length + 2) c).set (P.length + 3) d = P ++ a :: b :: c :: d :: R := by
  simp [List.set_append_right]
theorem copOpn_succ (os : List Opn) (n k : Nat) (hl : os.length = n) (hk : k < n) :
    ((((copOpn os n k).set (k * 4) (.int .i64 (os.getD k default).fr)).set (k * 4 + 1) (.int .i64 (os.getD k default).en)).set (k * 4 + 2) (.int .i64 (os.getD k default).lo)).set (k * 4 + 3) (.int .i64 (os.getD k default).hi) = copOpn os n (k + 1) := by
  have hP : ((os.take k).flatMap opnC).length = k * 4 := by rw [flat_length, List.length_take]; congr 1; omega
  have hR : List.replicate ((n - k) * 4) (Value.int .i64 0) = .int .i64 0 :: .int .i64 0 :: .int .i64 0 :: .int .i64 0 :: List.replicate ((n - (k + 1)) * 4) (Value.int .i64 0) := by
    rw [show (n - k) * 4 = (n - (k + 1)) * 4 + 1 + 1 + 1 + 1 by omega]
    rfl
  unfold copOpn
  rw [hR, ← hP, set4, List.take_succ_eq_append_getElem (by omega), List.flatMap_append]
  simp [opnC, List.getD_eq_getElem?_getD, List.getElem?_eq_getElem (show k < os.length by omega)]
theorem madeOpn (n : Nat) : (madeCells #[Value.int IntKind.i64 0, Value.int IntKind.i64 0, Value.int IntKind.i64 0, Value.int IntKind.i64 0] (n * 4)).toList = List.replicate (n * 4) (.int .i64 0) := by
  generalize n * 4 = m
  apply List.ext_getElem?
  intro j
  by_cases hj : j < m
  · have h4 : j % 4 = 0 ∨ j % 4 = 1 ∨ j % 4 = 2 ∨ j % 4 = 3 := by omega
    rcases h4 with h | h | h | h <;> simp [madeCells, hj, h]
  · simp [madeCells, hj]
set_option maxHeartbeats 400000 in
theorem l_toOpeningS (ao : Option Addr) (n c : Nat) (os : List Opn) (w : World) (hx : Opens w ao n os) (hn : n ≤ 1048576) :
    Calls Try.prog 50 #[.slice ao n c] w (RetOpens os w) := by
  obtain ⟨i0, hi, hz0, hz1, hz2⟩ := info_parts info_opn
  have hxl := hx.1
  go_enter Try.func50, Try.ntmps50
  go_wp2_with (at_make; refine wpList_make_full _ rfl _ _ 28 rfl w.heap.size 34 i0 (.agg #[.int .i64 0, .int .i64 0, .int .i64 0, .int .i64 0]) 4 Try.underlying28 hi hz0 hz1 _ _ _ _ n rfl rfl rfl rfl ?b2 ?b3 ?b4 ?_)
  case b2 => rw [hz2]; omega
  case b3 => unfold maxLen; omega
  case b4 => exact Nat.le_refl _
  intro w1 hown hgrow
  have e1 : Ext w w1 := Ext.grown (Ext.refl w) hgrow (by intro k h; cases h)
  clear hgrow
  rw [madeOpn] at hown
  go_wp2
  go_loopw [4] (fun i wr => ∃ k : Nat, k ≤ n ∧ i = .int .i64 k ∧ wr.ownsRow w.heap.size 34 4 (.slice (some ⟨w.heap.size, 0, none⟩) n n) n (copOpn os n k) ∧ Ext w wr) (fun i _ => n - (intOf i).toNat)
  case atStart => exact ⟨0, Nat.zero_le _, rfl, by simpa [copOpn] using hown, e1⟩
  case round =>
    obtain ⟨k, hk, rfl, ho, er⟩ := hrel
    clear hown e1
    by_cases hlt : k < n
    · obtain ⟨b, off, rfl, c0, c1, c2, c3⟩ := (hx.ext er).2.2.1 k hlt
      obtain ⟨o, hok⟩ : ∃ o, os.getD k default = o := ⟨_, rfl⟩
      rw [hok] at c0 c1 c2 c3
      have HO := Lib.hid hok
      clear hok
      go_wp2_with (go_at_call 13; refine (l_toOpening _ _ _ _ _).mono ?_; rintro e w2 ⟨rfl, e2⟩; have ho2 := ownsRow_ext ho e2; obtain ⟨u0, d0, f0⟩ := own_cell ho2 (k * 4) (by omega); obtain ⟨u1, d1, f1⟩ := own_cell ho2 (k * 4 + 1) (by omega); obtain ⟨u2, d2, f2⟩ := own_cell ho2 (k * 4 + 2) (by omega); obtain ⟨u3, d3, f3⟩ := own_cell ho2 (k * 4 + 3) (by omega))
      go_roundw
      case rel =>
        have s1 := (ho2.stored (k * 4) (.int .i64 o.fr)).1
        have s2 := (s1.stored (k * 4 + 1) (.int .i64 o.en)).1
        have s3 := (s2.stored (k * 4 + 2) (.int .i64 o.lo)).1
        have s4 := (s3.stored (k * 4 + 3) (.int .i64 o.hi)).1
        have hc := copOpn_succ os n k hxl hlt
        rw [HO.out] at hc
        rw [hc] at s4
        refine ⟨k + 1, by omega, by go_num, s4, ?_⟩
        have er2 := er.trans e2
        repeat' (first | exact er2 | exact Nat.le_refl _ | refine Ext.setCell ?_ ?_ _)
      case measure => simp [intOf]; omega
    · go_wp2
      go_ret
      obtain rfl : k = n := by omega
      refine ⟨_, _, ret_slice hxl.symm, ⟨?_, hx.2.2.2⟩, er⟩
      rw [hxl]
      simpa [copOpn, List.take_of_length_le (show os.length ≤ k by omega)] using ho
theorem OwnOpens.opens {w : World} {base n cap : Nat} {ao : Option Addr} {os : List Opn} (h : OwnOpens w base (.slice ao n cap) os) : Opens w ao n os := by
  obtain ⟨hrow, hok⟩ := h
  have hrow' := hrow
  obtain ⟨h1, h2⟩ := hrow
  rcases h2 with ⟨hv, h0⟩ | ⟨g, cap', cur, hv, hg, hh, hc, hm, hcur, htake⟩
  · simp only [Value.slice.injEq] at hv
    obtain ⟨rfl, rfl, rfl⟩ := hv
    exact ⟨h0, by omega, fun i hi => by omega, hok⟩
  · simp only [Value.slice.injEq] at hv
    obtain ⟨rfl, rfl, rfl⟩ := hv
    refine ⟨rfl, by have := hm; unfold maxLen at this; omega, fun i hi => ⟨g, 0, rfl, ?_⟩, hok⟩
    have hget : ∀ j, j < 4 → (os.flatMap opnC)[i * 4 + j]? = (opnC (os.getD i default))[j]? := by
      intro j hj
      have : os = os.take i ++ os.getD i default :: os.drop (i + 1) := by
        rw [List.getD_eq_getElem?_getD, List.getElem?_eq_getElem hi, Option.getD_some, List.getElem_cons_drop, List.take_append_drop]
      have hP : ((os.take i).flatMap opnC).length = i * 4 := by rw [flat_length, List.length_take]; congr 1; omega
      conv => lhs; rw [this]
      rw [List.flatMap_append, List.flatMap_cons, List.getElem?_append_right (by omega), hP, show i * 4 + j - i * 4 = j by omega, List.getElem?_append_left (by unfold opnC; simp; omega)]
    rw [Nat.zero_add, hrow'.cellAt (i * 4) (by omega), hrow'.cellAt (i * 4 + 1) (by omega), hrow'.cellAt (i * 4 + 2) (by omega), hrow'.cellAt (i * 4 + 3) (by omega)]
    have g0 := hget 0 (by omega)
    rw [Nat.add_zero] at g0
    rw [g0, hget 1 (by omega), hget 2 (by omega), hget 3 (by omega)]
    exact ⟨rfl, rfl, rfl, rfl⟩
theorem OwnOpens.ext {w w' : World} {base : Nat} {v : Value} {os : List Opn} (h : OwnOpens w base v os) (e : Ext w w') : OwnOpens w' base v os := ⟨ownsRow_ext h.1 e, h.2⟩
theorem OwnOpens.mono {w : World} {base base' : Nat} {v : Value} {os : List Opn} (h : OwnOpens w base v os) (hb : base' ≤ base) : OwnOpens w base' v os := by
  obtain ⟨⟨h1, h2⟩, h3⟩ := h
  refine ⟨⟨h1, ?_⟩, h3⟩
  rcases h2 with h2 | ⟨g, cap, cur, hv, hg, r⟩
  · exact .inl h2
  · exact .inr ⟨g, cap, cur, hv, by omega, r⟩
theorem OwnOpens.setBelow {w : World} {base : Nat} {v : Value} {os : List Opn} (h : OwnOpens w base v os) {a : Addr} (ha : a.block < base) (u : Value) : OwnOpens (w.setCell a u) base v os := ⟨ownsRow_setCell_below h.1 ha u, h.2⟩
theorem l_szOpeningS (ao : Option Addr) (n c : Nat) (k : Int) (w : World) (hn : n ≤ 9223372036854775807) (k1 : 0 ≤ k) (k2 : k ≤ 1000000000) :
    Calls Try.prog 45 #[.slice ao n c, .int .i64 k] w (RetV (.int .i64 (sel (decide ((n : Int) ≤ k)) (k - n) (-1))) w) := by
  by_cases h : (n : Int) ≤ k
  all_goals
    go_enter Try.func45, Try.ntmps45
    go_wp2
    go_ret
    exact RetV.mk (int_eq (by simp only [sel, decide_eq_true_eq]; split <;> omega))
theorem l_szFront (a b : Int) (ao : Option Addr) (n c : Nat) (k : Int) (w : World) (hn : n ≤ 9223372036854775807) (k1 : 0 ≤ k) (k2 : k ≤ 1000000000) :
    Calls Try.prog 10 #[.agg #[.int .i64 a, .int .i64 b, .slice ao n c], .int .i64 k] w (RetE (.int .i64 (sel (decide ((n : Int) ≤ k)) (k - n) (-1))) w) := by
  by_cases h : (n : Int) ≤ k
  · have hv : Hid (sel (decide ((n : Int) ≤ k)) (k - n) (-1) = k - n) := Lib.hid (by simp [sel, h])
    go_enter Try.func10, Try.ntmps10
    go_wp2_with (go_at_call 45; refine (l_szOpeningS _ _ _ _ _ hn k1 k2).mono ?_; rw [hv.out]; rintro e w1 ⟨rfl, rfl⟩)
    go_ret
    exact RetE.mk (int_eq hv.out.symm) ((Ext.refl w).alloc _)
  · have hv : Hid (sel (decide ((n : Int) ≤ k)) (k - n) (-1) = -1) := Lib.hid (by simp [sel]; omega)
    go_enter Try.func10, Try.ntmps10
    go_wp2_with (go_at_call 45; refine (l_szOpeningS _ _ _ _ _ hn k1 k2).mono ?_; rw [hv.out]; rintro e w1 ⟨rfl, rfl⟩)
    go_ret
    exact RetE.mk (int_eq hv.out.symm) ((Ext.refl w).alloc _)
/-- a front is handed back, its openings in memory of the call's own -/
def RetFront (a b : Int) (os : List Opn) (w : World) (e : Ending) (w' : World) : Prop :=
  ∃ ao cap, e = .returned (.agg #[.int .i64 a, .int .i64 b, .slice ao os.length cap]) ∧ OwnOpens w' w.heap.size (.slice ao os.length cap) os ∧ Ext w w'
set_option maxHeartbeats 800000 in
theorem l_toFront (a b : Int) (ao : Option Addr) (n c : Nat) (os : List Opn) (w : World) (hx : Opens w ao n os) (hn : n ≤ 1048576) :
    Calls Try.prog 12 #[.agg #[.int .i64 a, .int .i64 b, .slice ao n c]] w (RetFront a b os w) := by
  have hC := fun W e => l_toOpeningS ao n c os W (hx.ext e) hn
  go_enter Try.func12, Try.ntmps12
  go_wp2_with (go_at_call 50; refine (hC _ ((((Ext.refl w).alloc _).alloc _).alloc _)).mono ?_; rintro e w1 ⟨a1, c1, rfl, o1, e1⟩; have p := Three.of (e1.block (blk_old (blk_old (blk_at w _ _ rfl)))); obtain ⟨q0, q1, q2, q3, q4, q5, _⟩ := three_cells (e1.block (blk_old (blk_at (w.alloc _) _ (w.heap.size + 1) (by simp)))); obtain ⟨r0, r1, r2, r3, r4, r5, _⟩ := three_cells (e1.block (blk_at ((w.alloc _).alloc _) _ (w.heap.size + 1 + 1) (by simp))))
  have e0 : Ext w w1 := ((((Ext.refl w).alloc _).alloc _).alloc _).trans e1
  have hsz : ∀ x y z, (((w.alloc x).alloc y).alloc z).heap.size = w.heap.size + 1 + 1 + 1 := by intro x y z; simp
  rw [hsz] at o1
  refine bodyPost_ret (v := .agg #[.int .i64 a, .int .i64 b, .slice a1 os.length c1]) (by simp [results, Try.results12, go_sem, q0, q1, q2, r0, r1, r2]) rfl ⟨a1, c1, rfl, ?_, ?_⟩
  · refine OwnOpens.mono (base := w.heap.size + 1 + 1 + 1) ?_ (by omega)
    repeat' (first | exact o1 | (dsimp only; omega) | refine OwnOpens.setBelow ?_ ?_ _)
  · repeat' (first | exact e0 | (dsimp only; omega) | refine Ext.setCell ?_ ?_ _)
/-- two lists of openings are compared, one after the other -/
theorem opn_ne {os ps : List Opn} {k : Nat} (hk : k < os.length) (hk2 : k < ps.length) (h : ¬ os[k] = ps[k]) : decide (os = ps) = false := by
  rw [decide_eq_false_iff_not]; intro e; subst e; exact h rfl
set_option maxHeartbeats 800000 in
theorem l_eqOpeningS (ao bo : Option Addr) (n m c d : Nat) (xs ys : List Opn) (w : World) (hx : Opens w ao n xs) (hy : Opens w bo m ys) :
    Calls Try.prog 60 #[.slice ao n c, .slice bo m d] w (RetE (.bool (decide (xs = ys))) w) := by
  obtain ⟨hxl, hxm, hxc, hxi⟩ := hx
  obtain ⟨hyl, hym, hyc, hyi⟩ := hy
  by_cases hnm : (n : Int) = m
  · have hnm2 : n = m := by omega
    clear hnm
    subst hnm2
    go_enter Try.func60, Try.ntmps60
    go_wp2
    go_loopw [5] (fun i wr => ∃ k : Nat, k ≤ n ∧ i = .int .i64 k ∧ xs.take k = ys.take k ∧ Ext w wr) (fun i _ => n - (intOf i).toNat)
    case atStart => exact ⟨0, Nat.zero_le _, rfl, by simp, Ext.refl _⟩
    case round =>
      obtain ⟨k, hk, rfl, htk, er⟩ := hrel
      have HT := Lib.hid htk; clear htk
      by_cases hlt : k < n
      · obtain ⟨b, off, rfl, c0, c1, c2, c3⟩ := hxc k hlt
        obtain ⟨b', off', rfl, d0, d1, d2, d3⟩ := hyc k (by omega)
        obtain ⟨x, hxk⟩ : ∃ x, xs.getD k default = x := ⟨_, rfl⟩
        obtain ⟨y, hyk⟩ : ∃ y, ys.getD k default = y := ⟨_, rfl⟩
        rw [hxk] at c0 c1 c2 c3
        rw [hyk] at d0 d1 d2 d3
        have hltm : (k : Int) < n := by omega
        have hkx : k < xs.length := by omega
        have hky : k < ys.length := by omega
        rw [List.getD_eq_getElem?_getD, List.getElem?_eq_getElem hkx, Option.getD_some] at hxk
        rw [List.getD_eq_getElem?_getD, List.getElem?_eq_getElem hky, Option.getD_some] at hyk
        have HX := Lib.hid hxk
        have HY := Lib.hid hyk
        obtain ⟨x1, x2, x3, x4⟩ := x
        obtain ⟨y1, y2, y3, y4⟩ := y
        have K : Four wr b (off + k * 4) x1 x2 x3 x4 := ⟨er.cell c0, er.cell c1, er.cell c2, er.cell c3⟩
        have L : Four wr b' (off' + k * 4) y1 y2 y3 y4 := ⟨er.cell d0, er.cell d1, er.cell d2, er.cell d3⟩
        clear c0 c1 c2 c3 d0 d1 d2 d3 hxc hyc hxk hyk
        have hE := fun W => l_eqOpening x1 x2 x3 x4 y1 y2 y3 y4 W
        by_cases he : (⟨x1, x2, x3, x4⟩ : Opn) = ⟨y1, y2, y3, y4⟩
        · have hd : decide ((⟨x1, x2, x3, x4⟩ : Opn) = ⟨y1, y2, y3, y4⟩) = true := by rw [decide_eq_true_eq]; exact he
          rw [hd] at hE
          have HE := Lib.hid hE
          have HEQ := Lib.hid he
          clear hE hd he
          go_wp2
          go_region_held3 (fun W => Four W b (off + k * 4) x1 x2 x3 x4 ∧ Four W b' (off' + k * 4) y1 y2 y3 y4 ∧ Ext wr W) (first | exact ⟨K.ext (Ext.refl _).drew, L.ext (Ext.refl _).drew, (Ext.refl _).drew⟩ | exact keepFF (by assumption) (by assumption)) (first | (go_at_call 94; refine (HE.out _).mono ?_; rintro e w' ⟨rfl, e'⟩))
          have hfin := er.trans (heldFF (by assumption))
          go_wp2
          go_roundw
          case rel =>
            have hT : xs.take (k + 1) = ys.take (k + 1) := by rw [List.take_succ_eq_append_getElem hkx, List.take_succ_eq_append_getElem hky, HT.out, HX.out, HY.out, HEQ.out]
            first | exact ⟨k + 1, by omega, by go_num, hT, hfin⟩ | ((repeat apply Exists.intro); exact ⟨⟨k + 1, by omega, by go_num, hT, hfin⟩, rfl⟩)
          case measure => simp [intOf]; omega
        · have hd : decide ((⟨x1, x2, x3, x4⟩ : Opn) = ⟨y1, y2, y3, y4⟩) = false := by rw [decide_eq_false_iff_not]; exact he
          rw [hd] at hE
          have HE := Lib.hid hE
          have hne : decide (xs = ys) = false := opn_ne hkx hky (by rw [HX.out, HY.out]; exact he)
          have HN := Lib.hid hne
          clear hE hd he hne
          go_wp2
          go_region_held3 (fun W => Four W b (off + k * 4) x1 x2 x3 x4 ∧ Four W b' (off' + k * 4) y1 y2 y3 y4 ∧ Ext wr W) (first | exact ⟨K.ext (Ext.refl _).drew, L.ext (Ext.refl _).drew, (Ext.refl _).drew⟩ | exact keepFF (by assumption) (by assumption)) (first | (go_at_call 94; refine (HE.out _).mono ?_; rintro e w' ⟨rfl, e'⟩))
          have hfin := er.trans (heldFF (by assumption))
          go_wp2
          go_ret
          exact RetE.mk (bool_eq HN.out.symm) hfin
      · go_wp2
        go_ret
        have h := HT.out
        rw [List.take_of_length_le (by omega), List.take_of_length_le (by omega)] at h
        exact RetE.mk (bool_eq (by simp [h])) er
  · have hne : decide (xs = ys) = false := by
      rw [decide_eq_false_iff_not]; intro h; subst h; omega
    have HN := Lib.hid hne
    clear hne
    go_enter Try.func60, Try.ntmps60
    go_wp2
    go_ret
    exact RetE.mk (bool_eq HN.out.symm) (Ext.refl _)
end Go.Proofs.Ytnhmcmohnpbcjaa
