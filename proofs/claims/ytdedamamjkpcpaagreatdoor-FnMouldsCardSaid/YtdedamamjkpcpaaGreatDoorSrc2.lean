/- The source of draws, told without its numbers: what is picked is within bounds. (For the seats without bonds; DrawC has the same under other names.) -/
import Derived.Test.YtdedamamjkpcpaaGreatDoorGaSrc
import Derived.Test.YtdedamamjkpcpaaGreatDoorLawInts
namespace Go.Proofs.YtdedamamjkpcpaaGreatDoor
open Go.RowKit
set_option linter.unusedSimpArgs false
set_option linter.unusedVariables false
set_option linter.unnecessarySimpa false

theorem grownQ_above {w W : World} {row : Option Nat} (h : w.grownBy W row) {p : Addr} (hp : w.heap.size ≤ p.block) (v : Value) : w.grownBy (W.setCell p v) row := by
  obtain ⟨b, i, x⟩ := p
  refine ⟨h.os, h.tape, h.output, Nat.le_trans h.size (by simp [World.setCell]), fun i hi hne => (Below.heap_setCell _ _ _ _ (fun e => ?_)).trans (h.block i hi hne)⟩
  dsimp only at hp e
  omega
theorem grownQ_then {a b c : World} {row row' : Option Nat} (h : a.grownBy b row) (k : b.grownBy c row') (hr : ∀ j, row' = some j → a.heap.size ≤ j) : a.grownBy c row := by
  refine ⟨k.os.trans h.os, k.tape.trans h.tape, k.output.trans h.output, Nat.le_trans h.size k.size, fun i hi hne => ?_⟩
  refine (k.block i (Nat.lt_of_lt_of_le hi h.size) (fun e => ?_)).trans (h.block i hi hne)
  have := hr i e.symm
  omega
theorem grownQ_ext {a b c : World} {row : Option Nat} (h : a.grownBy b row) (e : Ext b c) : a.grownBy c row :=
  ⟨e.os.trans h.os, e.tape.trans h.tape, e.output.trans h.output, Nat.le_trans h.size e.size, fun i hi hne => (Below.block e i (Nat.lt_of_lt_of_le hi h.size)).trans (h.block i hi hne)⟩
theorem blkQ_grown {w w' : World} {row : Option Nat} {b : Nat} {o : Obj} (h : w.heap[b]? = some o) (g : w.grownBy w' row) (hne : some b ≠ row) : w'.heap[b]? = some o := (g.block b (lt_of_block h) hne).trans h
theorem heapQ_setO {W : World} {b : Nat} {o : Obj} (k i : Nat) (x : Value) (h : W.heap[b]? = some o) (hne : b ≠ k) : (W.setCell ⟨k, i, none⟩ x).heap[b]? = some o :=
  (Below.heap_setCell _ _ _ _ (fun e => hne e)).trans h
theorem extQ_of_src {w w' : World} {g : Nat} (h : w.grownBy w' (some g)) {W : World} (e : Ext W w) (hg : W.heap.size ≤ g) : Ext W w' := e.grown h (fun k hk => by cases hk; exact hg)
theorem neQ_off {g i j : Nat} (h : i ≠ j) : (⟨g, i, none⟩ : Addr) ≠ ⟨g, j, none⟩ := fun e => h (by simpa using e)
theorem resQ_two {w1 : World} {b : Nat} {x y : Value} (u v : Value) (r0 : w1.cell? ⟨b, 0, none⟩ = some x) (r1 : w1.cell? ⟨b, 1, none⟩ = some y) :
    ((w1.setCell ⟨b, 0, none⟩ u).setCell ⟨b, 1, none⟩ v).cell? ⟨b, 0, none⟩ = some u ∧ ((w1.setCell ⟨b, 0, none⟩ u).setCell ⟨b, 1, none⟩ v).cell? ⟨b, 1, none⟩ = some v := by
  refine ⟨?_, ?_⟩
  · rw [World.cell?_setCell_other _ _ _ _ (neQ_off (by decide))]
    exact World.cell?_setCell_same _ _ _ r0
  · exact World.cell?_setCell_same _ _ _ ((World.cell?_setCell_other _ _ _ _ (neQ_off (by decide))).trans r1)
/-- a number is picked, and the source has gone on -/
def RetPickQ (g : Nat) (ao : Option Addr) (n c : Nat) (N : Int) (B : Nat) (w : World) (e : Ending) (w' : World) : Prop := ∃ q st', e = .returned (.int .i64 q) ∧ 0 ≤ q ∧ q < N ∧ st'.Ok B ∧ SrcAt w' g ao n c st' ∧ w.grownBy w' (some g)
def RetOneQ (g : Nat) (ao : Option Addr) (n c : Nat) (B : Nat) (w : World) (e : Ending) (w' : World) : Prop := ∃ b st', e = .returned (.bool b) ∧ st'.Ok B ∧ SrcAt w' g ao n c st' ∧ w.grownBy w' (some g)
theorem s_pickQ {g : Nat} {ao : Option Addr} {n c : Nat} {bs : List UInt8} (N : Int) (h1 : 1 ≤ N) (h2 : N ≤ 200) {W0 : World} (hbW : U8s W0 ao n bs) (hg : W0.heap.size ≤ g) (B : Nat) (hB : B ≤ 2900000000000000000) (st : Src) (ha : st.Ok B) (w : World) (h : SrcAt w g ao n c st) (e0 : Ext W0 w) :
    Calls Tryz.prog 40 #[.pointer (some ⟨g, 0, none⟩), .int .i64 N] w (RetPickQ g ao n c N (B + 2) w) := by
  refine (s_pick g ao n c bs st N w h (hbW.ext e0) W0 e0 hbW hg (ha.mono (by omega)) (by omega)).mono ?_
  rintro e w' ⟨rfl, s1, g1⟩
  have hb := pickV_bd bs st N
  exact ⟨_, _, rfl, hb.1, hb.2 h1, pickS_ok ha, s1, g1⟩
theorem s_oneQ {g : Nat} {ao : Option Addr} {n c : Nat} {bs : List UInt8} (N : Int) (h1 : 1 ≤ N) (h2 : N ≤ 200) {W0 : World} (hbW : U8s W0 ao n bs) (hg : W0.heap.size ≤ g) (B : Nat) (hB : B ≤ 2900000000000000000) (st : Src) (ha : st.Ok B) (w : World) (h : SrcAt w g ao n c st) (e0 : Ext W0 w) :
    Calls Tryz.prog 39 #[.pointer (some ⟨g, 0, none⟩), .int .i64 N] w (RetOneQ g ao n c (B + 2) w) := by
  refine (s_one g ao n c bs st N w h W0 e0 hbW hg (ha.mono (by omega)) (by omega)).mono ?_
  rintro e w' ⟨rfl, s1, g1⟩
  exact ⟨_, _, rfl, pickS_ok ha, s1, g1⟩
set_option maxHeartbeats 800000 in
/-- one of some numbers is drawn -/
theorem s_amongQ {g : Nat} {ao : Option Addr} {n c : Nat} {bs : List UInt8} {W0 : World} (hbW : U8s W0 ao n bs) (hg : W0.heap.size ≤ g) (B : Nat) (hB : B ≤ 2900000000000000000) (st : Src) (ha : st.Ok B) (w : World) (h : SrcAt w g ao n c st) (e0 : Ext W0 w) (lb m d : Nat) (xs : List Int) (hl : Ints w (some ⟨lb, 0, none⟩) m xs) (hne : lb ≠ g) (hm : 1 ≤ m) (hm2 : m ≤ 200) :
    Calls Tryz.prog 41 #[.pointer (some ⟨g, 0, none⟩), .slice (some ⟨lb, 0, none⟩) m d] w (fun e w' => ∃ x st', e = .returned (.int .i64 x) ∧ x ∈ xs ∧ st'.Ok (B + 2) ∧ SrcAt w' g ao n c st' ∧ w.grownBy w' (some g)) := by
  have H1 := Lib.hid (s_pickQ (m : Int) (by omega) (by omega) hbW hg B hB st ha w h e0)
  have HL := Lib.hid hl
  have HNE := Lib.hid hne
  clear h hbW ha hl hne hB
  go_enter Tryz.func41, Tryz.ntmps41
  go_wp2_with fail
  refine H1.out.mono ?_
  rintro e w1 ⟨q, st1, rfl, q1, q2, OK1, s1, g1⟩
  obtain ⟨j, rfl⟩ := Int.eq_ofNat_of_zero_le q1
  have hj : j < m := by omega
  obtain ⟨b, off, he, hc⟩ := HL.out.2.2.1 j hj
  simp only [Option.some.injEq, Addr.mk.injEq, and_true] at he
  obtain ⟨rfl, rfl⟩ := he
  have hmem : xs.getD j 0 ∈ xs := by rw [List.getD_eq_getElem?_getD, List.getElem?_eq_getElem (by rw [HL.out.1]; exact hj)]; exact List.getElem_mem _
  obtain ⟨z, hz⟩ : ∃ z, xs.getD j 0 = z := ⟨_, rfl⟩
  rw [hz] at hc hmem
  rw [Nat.zero_add] at hc
  have q0 := cell_grown hc g1 (fun e => HNE.out (by simpa using e))
  have HM := Lib.hid hmem
  have HS := Lib.hid s1
  have HG := Lib.hid g1
  have HOK := Lib.hid OK1
  clear hc hmem hz s1 g1 OK1
  go_wp2
  go_ret
  exact ⟨z, st1, rfl, HM.out, HOK.out, HS.out, HG.out⟩
end Go.Proofs.YtdedamamjkpcpaaGreatDoor
