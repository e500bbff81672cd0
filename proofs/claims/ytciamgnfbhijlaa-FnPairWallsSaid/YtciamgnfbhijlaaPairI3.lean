/- The program's search for the best pair of courses: the search as a whole, and a search that has just begun. -/
import Derived.Test.YtciamgnfbhijlaaPairI2
namespace Go.Proofs.Ytciamgnfbhijlaa
open Go.RowKit
set_option linter.unusedSimpArgs false
set_option linter.unusedVariables false
set_option linter.unnecessarySimpa false

theorem undone_le (d : Nat → Bool) : ∀ n, undone n d ≤ n
  | 0 => Nat.le_refl _
  | n + 1 => by
    have := undone_le d n
    unfold undone
    split <;> omega
theorem at_blkI (w : World) (o : Obj) (k : Nat) (h : w.heap.size = k) : (w.alloc o).heap[k]? = some o := by subst h; exact heap_alloc_new w o
theorem i_from {L lap : Int} {g bm bk bb : Nat} (hL : 1 ≤ L) (hL2 : L ≤ 80) (hl : 1 ≤ lap) : ∀ (K : Nat) (at_ lo hi : Int), L - at_ ≤ K → StP L lap at_ lo hi → ∀ dn w, PI L lap g bm bk bb dn w →
    Calls Try.prog 51 #[.pointer (some ⟨g, 0, none⟩), .agg #[.int .i64 at_, .int .i64 lo, .int .i64 hi]] w (RetFr L lap at_ lo hi g bm bk bb dn w) := by
  intro K
  induction K with
  | zero =>
    intro at_ lo hi hK S dn w hP
    have h1 := S.le
    obtain ⟨h2, h3⟩ := S.end_ (by omega)
    obtain rfl : at_ = L := by omega
    subst h2; subst h3
    exact i_from_end hL hL2 dn w hP
  | succ K ih =>
    intro at_ lo hi hK S dn w hP
    have h1 := S.le
    by_cases he : at_ = L
    · obtain ⟨h2, h3⟩ := S.end_ he
      subst he; subst h2; subst h3
      exact i_from_end hL hL2 dn w hP
    · have a0 : 0 ≤ at_ := by have := S.lo0; have := S.lo1; omega
      have l0 := S.lo0
      have l1 := S.lo1
      have y0 := S.hi0
      have y1 := S.hi1
      cases hd : dn (codeN at_ lo hi) with
      | true => exact i_from_known hL hL2 a0 (by omega) l0 (by omega) y0 (by omega) dn hd w hP
      | false => exact i_from_new hL hL2 hl K ih at_ lo hi hK S a0 (by omega) dn hd w hP
/-- a search that has just begun -/
theorem PI.first (L lap : Int) (w : World) : PI L lap (w.heap.size + 3) w.heap.size (w.heap.size + 1) (w.heap.size + 2) (fun _ => false) ((((w.alloc (.map #[] 0)).alloc (.map #[] 0)).alloc (.map #[] 0)).alloc (.cells #[.int .i64 L, .int .i64 lap, .map (some w.heap.size), .map (some (w.heap.size + 1)), .map (some (w.heap.size + 2))] 85)) := by
  have e1 : (w.alloc (.map #[] 0)).heap.size = w.heap.size + 1 := by simp
  have e2 : ((w.alloc (.map #[] 0)).alloc (.map #[] 0)).heap.size = w.heap.size + 2 := by simp
  have e3 : (((w.alloc (.map #[] 0)).alloc (.map #[] 0)).alloc (.map #[] 0)).heap.size = w.heap.size + 3 := by simp
  have m1 := MapIs.made w zPB
  have m2 := MapIs.made (w.alloc (.map #[] 0)) (.bool false)
  have m3 := MapIs.made ((w.alloc (.map #[] 0)).alloc (.map #[] 0)) (.bool false)
  rw [e1] at m2
  rw [e2] at m3
  refine ⟨at_blkI _ _ _ e3, ⟨0, _, _, _, m2.ext (((Ext.refl _).alloc _).alloc _), m3.ext ((Ext.refl _).alloc _), m1.ext ((((Ext.refl _).alloc _).alloc _).alloc _), by have := undone_le (fun _ => false) NS; omega, fun a b c _ _ _ _ _ _ => .inl ⟨rfl, rfl, rfl⟩⟩, by omega, by omega, by omega, by omega, by omega, by omega⟩
/-- a search has been made -/
def RetNew (L lap : Int) (w : World) (e : Ending) (w' : World) : Prop :=
  ∃ g bm bk bb, e = .returned (.pointer (some ⟨g, 0, none⟩)) ∧ PI L lap g bm bk bb (fun _ => false) w' ∧ Ext w w' ∧ ∀ i, TM bm bk bb i → w.heap.size ≤ i
set_option maxRecDepth 100000 in
theorem i_newPair (L lap : Int) (w : World) : Calls Try.prog 32 #[.int .i64 L, .int .i64 lap] w (RetNew L lap w) := by
  have hmm := @run_makeMap Try.prog
  go_enter Try.func32, Try.ntmps32
  go_wp2
  go_ret
  exact ⟨_, _, _, _, rfl, PI.first L lap w, ((((Ext.refl _).alloc _).alloc _).alloc _).alloc _, fun i hi => by unfold TM at hi; omega⟩
/-- what the whole search answers -/
def RetSe (L lap : Int) (S : Nat → Prop) (w : World) (e : Ending) (w' : World) : Prop :=
  ∃ o, IsBest (SetR L lap 0 0) o ∧ e = .returned (.tuple #[.agg #[.int .i64 (cutI0 o), .int .i64 (numO o), .string (lowO o), .string (highO o)], .bool o.isSome]) ∧ ChgS S w w'
set_option maxRecDepth 100000 in
set_option maxHeartbeats 2000000 in
theorem i_search {L lap : Int} {g bm bk bb : Nat} (hL : 1 ≤ L) (hL2 : L ≤ 80) (hl : 1 ≤ lap) (w : World) (hP : PI L lap g bm bk bb (fun _ => false) w) :
    Calls Try.prog 33 #[.pointer (some ⟨g, 0, none⟩)] w (RetSe L lap (TM bm bk bb) w) := by
  obtain ⟨hg, hbm, hbk, hbb⟩ := hP.lt
  have HF : Hid (∀ W, Ext w W → Calls Try.prog 51 #[.pointer (some ⟨g, 0, none⟩), .agg #[.int .i64 0, .int .i64 0, .int .i64 0]] W (RetSe L lap (TM bm bk bb) W)) := Lib.hid (fun W e => by
    refine (i_from hL hL2 hl L.toNat 0 0 0 (by omega) (st_00 hL) _ W (hP.ext e)).mono ?_
    rintro e w' ⟨o, dn', ho, he, _, hc, _⟩
    exact ⟨o, isBest_noB ho, he, hc⟩)
  clear hP
  go_enter Try.func33, Try.ntmps33
  go_wp2_with fail
  refine (HF.out _ ((Ext.refl _).alloc _)).mono ?_
  rintro e w' ⟨o, ho, rfl, ch⟩
  have hres := ch.blk (heap_alloc_new w _) (by unfold TM; omega)
  obtain ⟨r0, r1, r2, r3, y0, y1, y2, y3, r8⟩ := four_cells hres
  have HRR := Lib.hid (resP_four r0 r1 r2 r3)
  have HO := Lib.hid ho
  have HC := Lib.hid ((ChgS.of_ext (S := TM bm bk bb) ((Ext.refl w).alloc _)).trans ch)
  clear ho ch hres
  go_wp2
  have hr := HRR.out
  refine bodyPost_ret (v := .tuple #[.agg #[.int .i64 (cutI0 o), .int .i64 (numO o), .string (lowO o), .string (highO o)], .bool o.isSome]) (by simp [results, Try.results33, go_sem, hr]) rfl ?_
  exact ⟨o, HO.out, rfl, (((HC.out.set (.inr (Nat.le_refl _)) _).set (.inr (Nat.le_refl _)) _).set (.inr (Nat.le_refl _)) _).set (.inr (Nat.le_refl _)) _⟩
end Go.Proofs.Ytciamgnfbhijlaa
