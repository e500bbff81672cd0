/- A course that is drawn: the reference's drawing ends, and what it gives is a course of the length that was asked. -/
import Derived.Test.YtciamgnfbhijlaaDrawMath
import Derived.Test.YtciamgnfbhijlaaRowAdd
import Derived.Test.YtciamgnfbhijlaaCourse
namespace Go.Proofs.Ytciamgnfbhijlaa
open Go.RowKit
set_option linter.unusedSimpArgs false
set_option linter.unusedVariables false
set_option linter.unnecessarySimpa false

theorem grown_then {a b c : World} {row row' : Option Nat} (h : a.grownBy b row) (k : b.grownBy c row') (hr : ∀ j, row' = some j → a.heap.size ≤ j) : a.grownBy c row := by
  refine ⟨k.os.trans h.os, k.tape.trans h.tape, k.output.trans h.output, Nat.le_trans h.size k.size, fun i hi hne => ?_⟩
  refine (k.block i (Nat.lt_of_lt_of_le hi h.size) (fun e => ?_)).trans (h.block i hi hne)
  have := hr i e.symm
  omega
theorem blk_grownS {w w' : World} {row : Option Nat} {b : Nat} {o : Obj} (h : w.heap[b]? = some o) (g : w.grownBy w' row) (hne : some b ≠ row) : w'.heap[b]? = some o := (g.block b (lt_of_block h) hne).trans h
/-- a byte is appended; the rest is as it was -/
theorem wpList_append_u8h {w0 w : World} {base : Nat} {ops : Array Oper} {rest : List Oper} {o : Oper} {a : Act} {Q : Exit → Act → World → Prop} (hgd : o.guard = none) (s x : Operand)
    (ho : o.op = .call { callee := .builtin .append, args := #[s, x], argTypes := #[32, 32] })
    (v : Value) (l : List UInt8) (b : UInt8) (hs : a.eval s = v) (hw : w = w0.alloc (.cells #[.int .u8 (b.toNat : Int)] 5)) (hx : a.eval x = .slice (some ⟨w0.heap.size, 0, none⟩) 1 1)
    (hown : OwnB w0 base v l) (hbase : base ≤ w0.heap.size) (hlen : l.length ≤ 10000000)
    (h : ∀ v' w', OwnB w' base v' (l ++ [b]) → w0.grownBy w' v.ownBlock → wpList Try.prog ops Q rest (a.put o.dst v') w') : wpList Try.prog ops Q (o :: rest) a w := by
  obtain ⟨i0, hi, hz0, hz1, hz2⟩ := info_parts info_u8
  subst hw
  refine wpList_append_own _ hgd s x 32 ho base 5 i0 (.int .u8 0) 1 1 Try.underlying32 hi hz0 hz1 hz2 rfl (by decide) v l.length (l.map u8V) hs (World.ownsRow.alloc hown _)
    ⟨w0.heap.size, 0, none⟩ 1 1 [.int .u8 (b.toNat : Int)] hx rfl (cells_new _ _ _) (by intro u hu; simp at hu; subst hu; rfl) (by unfold maxLen; omega) (by omega) (by simp; omega) ?_
  intro v' w' ho' hg _
  refine h v' w' ?_ ((World.grownBy_alloc w0 _ _).trans hg)
  unfold OwnB; simpa [u8V] using ho'
theorem OwnB.blk {w : World} {base n cap : Nat} {ao : Option Addr} {l : List UInt8} (h : OwnB w base (.slice ao n cap) l) : ∀ k, (Value.slice ao n cap).ownBlock = some k → base ≤ k ∧ k < w.heap.size := World.ownsRow.lt h
theorem OwnB.kept {w w' : World} {base : Nat} {v : Value} {l : List UInt8} {row : Option Nat} (h : OwnB w base v l) (hg : w.grownBy w' row) (hne : ∀ k, row = some k → k < base) : OwnB w' base v l := by
  refine World.ownsRow.kept h hg ?_
  cases hr : row with
  | none => cases hv : v.ownBlock <;> simp
  | some k =>
    right
    intro e
    have := World.ownsRow.lt h k e
    have := hne k hr
    omega
/-- the source in a world -/
def srcOf (w : World) (g : Nat) : Src := ⟨(match w.cell? ⟨g, 1, none⟩ with | some (.int _ a) => a.toNat | _ => 0), (match w.cell? ⟨g, 2, none⟩ with | some (.int _ a) => a.toNat | _ => 0)⟩
theorem srcOf_at {w : World} {g : Nat} {ao : Option Addr} {n c : Nat} {st : Src} (h : SrcAt w g ao n c st) : srcOf w g = st := by
  have hc := h.cells
  unfold srcOf
  rw [hc.2.1, hc.2.2.1]
  simp
def ordS : ByteArray := ⟨#[83, 72, 84, 66, 67]⟩
theorem ordS_size : ordS.size = 5 := rfl
theorem ordS_at (j : Nat) (h : j < ordS.size) : ordS[j] = [83, 72, 84, 66, 67].getD j 0 := by
  obtain ⟨h1, h2⟩ := byte_at ordS j h
  have h3 : [83, 72, 84, 66, 67].getD j 0 = (bts ordS).getD j 0 := rfl
  rw [h3, List.getD_eq_getElem?_getD, List.getElem?_eq_getElem h1, Option.getD_some]
  exact h2.symm
theorem isPc_round (bs : List UInt8) (st : Src) : isPc (roundB bs st) = true := by
  rcases roundB_pc bs st with h | h | h | h | h <;> rw [h] <;> decide
theorem qB_round (bs : List UInt8) (st : Src) : 1 ≤ qB (roundB bs st) := by
  rcases roundB_pc bs st with h | h | h | h | h <;> rw [h] <;> decide
theorem draw_take {bs : List UInt8} (hl : bs.length ≤ 1000000000) {st : Src} {lf q : Nat} {K : Nat} (hq : 1 ≤ q) (hf : q ≤ lf) (hK : st.at_ + 3 * toDo bs st lf ≤ K) :
    toDo bs (roundS bs st) (lf - q) < toDo bs st lf ∧ (roundS bs st).at_ + 3 * toDo bs (roundS bs st) (lf - q) ≤ K := by
  have h1 := toDo_taken hl (st := st) (left := lf) (left' := lf - q) (by omega)
  have h2 := (roundS_at bs st).2
  exact ⟨h1, by omega⟩
theorem draw_skip {bs : List UInt8} {st : Src} {lf : Nat} {K : Nat} (h0 : 1 ≤ lf) (hf : ¬ qB (roundB bs st) ≤ (lf : Int)) (hK : st.at_ + 3 * toDo bs st lf ≤ K) :
    toDo bs (roundS bs st) lf < toDo bs st lf ∧ (roundS bs st).at_ + 3 * toDo bs (roundS bs st) lf ≤ K := by
  have h1 := toDo_less (bs := bs) (st := st) (left := lf) (fun hg => hf (by rw [gooD_B hg, show qB 67 = 1 by decide]; omega))
  have h2 := (roundS_at bs st).2
  exact ⟨h1, by omega⟩
theorem qSum_ge' {l : List UInt8} (h : l.all isPc = true) : (l.length : Int) ≤ qSum l := by
  induction l with
  | nil => simp [qSum_nil]
  | cons a l ih =>
    rw [List.all_cons, Bool.and_eq_true] at h
    have h1 := ih h.2
    have h2 : qB a ≠ 0 := by have := h.1; unfold isPc at this; simpa using this
    have := qB_bd a
    rw [qSum_cons, List.length_cons]
    omega
theorem s_l06OrderO (w : World) : Calls Try.prog 53 #[] w (RetV (.string ordS) w) := by
  go_enter Try.func53, Try.ntmps53
  go_wp2
  go_ret
  exact RetV.mk rfl
/-- a drawn course is handed back, and the source has gone on -/
def RetDrawn (g : Nat) (ao : Option Addr) (n c : Nat) (L : Nat) (B : Nat) (w : World) (e : Ending) (w' : World) : Prop :=
  ∃ l st', e = .returned (.string (mkS l)) ∧ l.all isPc = true ∧ qSum l = (L : Int) ∧ st'.Ok B ∧ SrcAt w' g ao n c st' ∧ w.grownBy w' (some g)
set_option maxRecDepth 100000 in
set_option maxHeartbeats 4000000 in
theorem s_l06Draw (g : Nat) (ao : Option Addr) (n c : Nat) (bs : List UInt8) (st0 : Src) (L : Nat) (w : World) (h : SrcAt w g ao n c st0) (W0 : World) (e0 : Ext W0 w) (hbW : U8s W0 ao n bs) (hg : W0.heap.size ≤ g) (B : Nat) (hB : B ≤ 2000000000000000000) (ha : st0.Ok B) (hL1 : 1 ≤ L) (hL2 : L ≤ 40) :
    Calls Try.prog 36 #[.pointer (some ⟨g, 0, none⟩), .int .i64 L] w (RetDrawn g ao n c L (B + 150000000000000000) w) := by
  have hlen : bs.length ≤ 1000000000 := by rw [hbW.1]; exact hbW.2.1
  have hK : st0.at_ + 3 * toDo bs st0 L ≤ B + 150000000000000000 := by have := toDo_bd hlen st0 hL2; have := ha.at_; omega
  have hgs : g < w.heap.size := h.cells.2.2.2.2.2
  have HGS : Hid (g < w.heap.size) := Lib.hid hgs
  have HH := Lib.hid h
  have HW0 := Lib.hid hbW
  have HG0 : Hid (W0.heap.size ≤ g) := Lib.hid hg
  have HE0 := Lib.hid e0
  have HLEN := Lib.hid hlen
  have HSD := Lib.hid ha.seed
  have HBB := Lib.hid hB
  have HK := Lib.hid hK
  clear h hbW ha e0 hK hlen hgs hg hB
  go_enter Try.func36, Try.ntmps36
  go_wp2
  go_loopw [5, 6] (fun v q wr => ∃ (st : Src) (l : List UInt8) (lf : Nat), q = .int .i64 lf ∧ lf ≤ L ∧ Hid (OwnB wr w.heap.size v l) ∧ Hid (l.all isPc = true) ∧ Hid (qSum l + lf = (L : Int)) ∧ Hid (SrcAt wr g ao n c st) ∧ Hid (st.at_ + 3 * toDo bs st lf ≤ B + 150000000000000000) ∧ Hid (st.seed < m64) ∧ Hid (w.grownBy wr (some g))) (fun _ q wr => toDo bs (srcOf wr g) (intOf q).toNat)
  case atStart => exact ⟨st0, [], L, rfl, Nat.le_refl _, Lib.hid (OwnB.empty (Ext.refl w)), Lib.hid rfl, Lib.hid (by rw [qSum_nil]; omega), Lib.hid (blk_grownS HH.out (World.grownBy_alloc w _ none) (by simp)), HK, HSD, Lib.hid (World.grownBy_alloc w _ _)⟩
  case round =>
    obtain ⟨st, l, lf, rfl, hlf, HO, HPC, HQS, HS, HKK, HSE, HGR⟩ := hrel
    have HE := Lib.hid (HE0.out.grown HGR.out (fun k hk => by cases hk; exact HG0.out))
    have hll := qSum_ge' (l := l) HPC.out
    have hqs := HQS.out
    have hl40 : l.length ≤ 40 := by omega
    clear hll hqs
    by_cases hpos : 0 < lf
    · have hposI : (0 : Int) < (lf : Int) := by omega
      have hok : st.Ok (B + 150000000000000000) := ⟨by have := HKK.out; omega, HSE.out⟩
      have hP1 := s_pick g ao n c bs st 5 wr HS.out (HW0.out.ext HE.out) W0 HE.out HW0.out HG0.out (hok.mono (by have := HBB.out; omega)) (by decide)
      rw [pick5, pickS5] at hP1
      have hO1 := fun W (hs : SrcAt W g ao n c (st.next bs)) (he : Ext W0 W) => s_one g ao n c bs (st.next bs) 2 W hs W0 he HW0.out HG0.out (hok.next.mono (by have := HBB.out; omega)) (by decide)
      rw [pickS2] at hO1
      have hP2 := fun W (hs : SrcAt W g ao n c ((st.next bs).next bs)) (he : Ext W0 W) => s_pick g ao n c bs ((st.next bs).next bs) 2 W hs (HW0.out.ext he) W0 he HW0.out HG0.out (hok.next.next.mono (by have := HBB.out; omega)) (by decide)
      rw [pickS2, pick2] at hP2
      obtain ⟨j, hj⟩ : ∃ j, st.out bs % 5 = j := ⟨_, rfl⟩
      have hj5 : j < ordS.size := by rw [ordS_size, ← hj]; exact Nat.mod_lt _ (by decide)
      have hrB : roundOne bs st ≠ 0 → roundB bs st = ordS[j] := fun h => by
        unfold roundB; rw [if_neg h, pick5, hj, ordS_at j hj5]; rfl
      have hrB0 : roundOne bs st = 0 → ((st.next bs).next bs).out bs % 2 = 0 → roundB bs st = 83 := fun h h2 => by
        unfold roundB; rw [if_pos h, pick2, h2]; rfl
      have hrB1 : roundOne bs st = 0 → ((st.next bs).next bs).out bs % 2 = 1 → roundB bs st = 72 := fun h h2 => by
        unfold roundB; rw [if_pos h, pick2, h2]; rfl
      have hrS : roundOne bs st ≠ 0 → roundS bs st = (st.next bs).next bs := fun h => by unfold roundS; rw [if_neg h]
      have hrS0 : roundOne bs st = 0 → roundS bs st = ((st.next bs).next bs).next bs := fun h => by unfold roundS; rw [if_pos h]
      have hTK := fun q => @draw_take bs HLEN.out st lf q (B + 150000000000000000)
      have hSK := @draw_skip bs st lf (B + 150000000000000000) (by omega)
      have hQ1 := qB_round bs st
      have hQ4 := qB_bd (roundB bs st)
      have hPCR := isPc_round bs st
      have HRSD := Lib.hid (roundS_seed bs st)
      have hroe : roundOne bs st = pickV bs (st.next bs) 2 := rfl
      rw [← hroe] at hO1
      obtain ⟨x2, hx2⟩ : ∃ x, ((st.next bs).next bs).out bs % 2 = x := ⟨_, rfl⟩
      have hx22 : x2 < 2 := by omega
      rw [hx2] at hP2 hrB0 hrB1
      rw [hj] at hP1
      have hjI : (j : Int) < (ordS.size : Int) := by omega
      obtain ⟨bb, hbb⟩ : ∃ bb, roundB bs st = bb := ⟨_, rfl⟩
      rw [hbb] at hrB hrB0 hrB1 hSK hQ1 hQ4 hPCR
      obtain ⟨q, hq⟩ := Int.eq_ofNat_of_zero_le (show 0 ≤ qB bb by omega)
      have HQB : Hid (qB bb = (q : Int)) := Lib.hid hq
      rw [hq] at hSK hQ1 hQ4
      have HTK := Lib.hid hTK
      have HSK := Lib.hid hSK
      have HP1 := Lib.hid hP1
      have HO1 := Lib.hid hO1
      have HP2 := Lib.hid hP2
      have HRB := Lib.hid hrB
      have HRB0 := Lib.hid hrB0
      have HRB1 := Lib.hid hrB1
      have HRS := Lib.hid hrS
      have HRS0 := Lib.hid hrS0
      have HPCR := Lib.hid hPCR
      clear hTK hSK hP1 hO1 hP2 hrB hrB0 hrB1 hrS hrS0 hq hbb hj hx2 hroe hok hPCR
      have HGr := HGR
      have HOWr := HO
      by_cases hr : roundOne bs st = 0
      · have hrb : (roundOne bs st == 0) = true := by simp [hr]
        have HR := Lib.hid (HRS0.out hr)
        rw [hrb] at HO1
        have hx01 : x2 = 0 ∨ x2 = 1 := by omega
        rcases hx01 with rfl | rfl
        · have HA : Hid (bb = 83) := Lib.hid (HRB0.out hr rfl)
          have HQC : Hid (∀ W, Calls Try.prog 55 #[.int .u8 (83 : Int)] W (RetV (.int .i64 q) W)) := Lib.hid (fun W => by have h := s_l02Quarters (83 : Int) W; rw [show qI (83 : Int) = (q : Int) from by rw [← HQB.out, HA.out]; rfl] at h; exact h)
          clear hr hrb
          by_cases hfit : q ≤ lf
          · have hfitI : (q : Int) ≤ (lf : Int) := by omega
            go_wp2_with (go_at_call 53; refine (s_l06OrderO _).mono ?_; rintro e w' ⟨rfl, rfl⟩)
            refine HP1.out.mono ?_
            rintro e w1 ⟨rfl, s1, g1⟩
            have HS1 := Lib.hid s1
            have HG1 := Lib.hid (HGr.out.trans g1)
            have HE1 := Lib.hid (HE0.out.grown HG1.out (fun k hk => by cases hk; exact HG0.out))
            have HOW1 := Lib.hid (HOWr.out.kept g1 (fun k hk => by cases hk; exact HGS.out))
            clear s1 g1
            go_wp2_with fail
            refine (HO1.out _ HS1.out HE1.out).mono ?_
            rintro e w2 ⟨rfl, s2, g2⟩
            have HS2 := Lib.hid s2
            have HG2 := Lib.hid (HG1.out.trans g2)
            have HE2 := Lib.hid (HE0.out.grown HG2.out (fun k hk => by cases hk; exact HG0.out))
            have HOW2 := Lib.hid (HOW1.out.kept g2 (fun k hk => by cases hk; exact HGS.out))
            clear s2 g2
            go_wp2_with fail
            refine (HP2.out _ HS2.out HE2.out).mono ?_
            rintro e w3 ⟨rfl, s3, g3⟩
            have HS3 := Lib.hid s3
            have HG3 := Lib.hid (HG2.out.trans g3)
            have HE3 := Lib.hid (HE0.out.grown HG3.out (fun k hk => by cases hk; exact HG0.out))
            have HOW3 := Lib.hid (HOW2.out.kept g3 (fun k hk => by cases hk; exact HGS.out))
            clear s3 g3
            go_wp2_with (first
              | (go_at_call 55; refine (HQC.out _).mono ?_; rintro e w' ⟨rfl, rfl⟩)
              | (at_builtin; refine wpList_append_u8h (base := w.heap.size) rfl _ _ rfl _ l 83 rfl rfl rfl HOW3.out HG3.out.size (by omega) ?_; intro v' w4 ho4 g4; have HO4 := Lib.hid ho4; have HS4 := Lib.hid (blk_grownS HS3.out g4 (fun e => by have h1 := (World.ownsRow.lt HOW3.out g e.symm).1; have h2 := HGS.out; omega)); have HG4 := Lib.hid (grown_then HG3.out g4 (fun k hk => (World.ownsRow.lt HOW3.out k hk).1)); clear ho4 g4))
            go_roundw
            case rel =>
              refine ⟨roundS bs st, l ++ [bb], lf - q, int_eq (by omega), by omega, Lib.hid (by rw [HA.out]; exact HO4.out), Lib.hid (by rw [List.all_append, HPC.out, List.all_cons, HPCR.out]; rfl), Lib.hid (by rw [qSum_snoc, HQB.out]; have := HQS.out; omega), Lib.hid (by rw [HR.out]; exact HS4.out), Lib.hid (HTK.out q (by omega) hfit HKK.out).2, HRSD, HG4⟩
            case measure =>
              have hm := (HTK.out q (by omega) hfit HKK.out).1
              rw [HR.out] at hm
              simp only [intOf]
              rw [srcOf_at HS4.out, srcOf_at HS.out, Int.toNat_natCast, show ((lf : Int) - (q : Int)).toNat = lf - q by omega]
              exact hm
          · have hfitI : ¬ (q : Int) ≤ (lf : Int) := by omega
            go_wp2_with (go_at_call 53; refine (s_l06OrderO _).mono ?_; rintro e w' ⟨rfl, rfl⟩)
            refine HP1.out.mono ?_
            rintro e w1 ⟨rfl, s1, g1⟩
            have HS1 := Lib.hid s1
            have HG1 := Lib.hid (HGr.out.trans g1)
            have HE1 := Lib.hid (HE0.out.grown HG1.out (fun k hk => by cases hk; exact HG0.out))
            have HOW1 := Lib.hid (HOWr.out.kept g1 (fun k hk => by cases hk; exact HGS.out))
            clear s1 g1
            go_wp2_with fail
            refine (HO1.out _ HS1.out HE1.out).mono ?_
            rintro e w2 ⟨rfl, s2, g2⟩
            have HS2 := Lib.hid s2
            have HG2 := Lib.hid (HG1.out.trans g2)
            have HE2 := Lib.hid (HE0.out.grown HG2.out (fun k hk => by cases hk; exact HG0.out))
            have HOW2 := Lib.hid (HOW1.out.kept g2 (fun k hk => by cases hk; exact HGS.out))
            clear s2 g2
            go_wp2_with fail
            refine (HP2.out _ HS2.out HE2.out).mono ?_
            rintro e w3 ⟨rfl, s3, g3⟩
            have HS3 := Lib.hid s3
            have HG3 := Lib.hid (HG2.out.trans g3)
            have HE3 := Lib.hid (HE0.out.grown HG3.out (fun k hk => by cases hk; exact HG0.out))
            have HOW3 := Lib.hid (HOW2.out.kept g3 (fun k hk => by cases hk; exact HGS.out))
            clear s3 g3
            go_wp2_with (first
              | (go_at_call 55; refine (HQC.out _).mono ?_; rintro e w' ⟨rfl, rfl⟩))
            go_roundw
            case rel =>
              refine ⟨roundS bs st, l, lf, rfl, hlf, HOW3, HPC, HQS, Lib.hid (by rw [HR.out]; exact HS3.out), Lib.hid (HSK.out hfitI HKK.out).2, HRSD, HG3⟩
            case measure =>
              have hm := (HSK.out hfitI HKK.out).1
              rw [HR.out] at hm
              simp only [intOf]
              rw [srcOf_at HS3.out, srcOf_at HS.out, Int.toNat_natCast]
              exact hm
        · have HA : Hid (bb = 72) := Lib.hid (HRB1.out hr rfl)
          have HQC : Hid (∀ W, Calls Try.prog 55 #[.int .u8 (72 : Int)] W (RetV (.int .i64 q) W)) := Lib.hid (fun W => by have h := s_l02Quarters (72 : Int) W; rw [show qI (72 : Int) = (q : Int) from by rw [← HQB.out, HA.out]; rfl] at h; exact h)
          clear hr hrb
          by_cases hfit : q ≤ lf
          · have hfitI : (q : Int) ≤ (lf : Int) := by omega
            go_wp2_with (go_at_call 53; refine (s_l06OrderO _).mono ?_; rintro e w' ⟨rfl, rfl⟩)
            refine HP1.out.mono ?_
            rintro e w1 ⟨rfl, s1, g1⟩
            have HS1 := Lib.hid s1
            have HG1 := Lib.hid (HGr.out.trans g1)
            have HE1 := Lib.hid (HE0.out.grown HG1.out (fun k hk => by cases hk; exact HG0.out))
            have HOW1 := Lib.hid (HOWr.out.kept g1 (fun k hk => by cases hk; exact HGS.out))
            clear s1 g1
            go_wp2_with fail
            refine (HO1.out _ HS1.out HE1.out).mono ?_
            rintro e w2 ⟨rfl, s2, g2⟩
            have HS2 := Lib.hid s2
            have HG2 := Lib.hid (HG1.out.trans g2)
            have HE2 := Lib.hid (HE0.out.grown HG2.out (fun k hk => by cases hk; exact HG0.out))
            have HOW2 := Lib.hid (HOW1.out.kept g2 (fun k hk => by cases hk; exact HGS.out))
            clear s2 g2
            go_wp2_with fail
            refine (HP2.out _ HS2.out HE2.out).mono ?_
            rintro e w3 ⟨rfl, s3, g3⟩
            have HS3 := Lib.hid s3
            have HG3 := Lib.hid (HG2.out.trans g3)
            have HE3 := Lib.hid (HE0.out.grown HG3.out (fun k hk => by cases hk; exact HG0.out))
            have HOW3 := Lib.hid (HOW2.out.kept g3 (fun k hk => by cases hk; exact HGS.out))
            clear s3 g3
            go_wp2_with (first
              | (go_at_call 55; refine (HQC.out _).mono ?_; rintro e w' ⟨rfl, rfl⟩)
              | (at_builtin; refine wpList_append_u8h (base := w.heap.size) rfl _ _ rfl _ l 72 rfl rfl rfl HOW3.out HG3.out.size (by omega) ?_; intro v' w4 ho4 g4; have HO4 := Lib.hid ho4; have HS4 := Lib.hid (blk_grownS HS3.out g4 (fun e => by have h1 := (World.ownsRow.lt HOW3.out g e.symm).1; have h2 := HGS.out; omega)); have HG4 := Lib.hid (grown_then HG3.out g4 (fun k hk => (World.ownsRow.lt HOW3.out k hk).1)); clear ho4 g4))
            go_roundw
            case rel =>
              refine ⟨roundS bs st, l ++ [bb], lf - q, int_eq (by omega), by omega, Lib.hid (by rw [HA.out]; exact HO4.out), Lib.hid (by rw [List.all_append, HPC.out, List.all_cons, HPCR.out]; rfl), Lib.hid (by rw [qSum_snoc, HQB.out]; have := HQS.out; omega), Lib.hid (by rw [HR.out]; exact HS4.out), Lib.hid (HTK.out q (by omega) hfit HKK.out).2, HRSD, HG4⟩
            case measure =>
              have hm := (HTK.out q (by omega) hfit HKK.out).1
              rw [HR.out] at hm
              simp only [intOf]
              rw [srcOf_at HS4.out, srcOf_at HS.out, Int.toNat_natCast, show ((lf : Int) - (q : Int)).toNat = lf - q by omega]
              exact hm
          · have hfitI : ¬ (q : Int) ≤ (lf : Int) := by omega
            go_wp2_with (go_at_call 53; refine (s_l06OrderO _).mono ?_; rintro e w' ⟨rfl, rfl⟩)
            refine HP1.out.mono ?_
            rintro e w1 ⟨rfl, s1, g1⟩
            have HS1 := Lib.hid s1
            have HG1 := Lib.hid (HGr.out.trans g1)
            have HE1 := Lib.hid (HE0.out.grown HG1.out (fun k hk => by cases hk; exact HG0.out))
            have HOW1 := Lib.hid (HOWr.out.kept g1 (fun k hk => by cases hk; exact HGS.out))
            clear s1 g1
            go_wp2_with fail
            refine (HO1.out _ HS1.out HE1.out).mono ?_
            rintro e w2 ⟨rfl, s2, g2⟩
            have HS2 := Lib.hid s2
            have HG2 := Lib.hid (HG1.out.trans g2)
            have HE2 := Lib.hid (HE0.out.grown HG2.out (fun k hk => by cases hk; exact HG0.out))
            have HOW2 := Lib.hid (HOW1.out.kept g2 (fun k hk => by cases hk; exact HGS.out))
            clear s2 g2
            go_wp2_with fail
            refine (HP2.out _ HS2.out HE2.out).mono ?_
            rintro e w3 ⟨rfl, s3, g3⟩
            have HS3 := Lib.hid s3
            have HG3 := Lib.hid (HG2.out.trans g3)
            have HE3 := Lib.hid (HE0.out.grown HG3.out (fun k hk => by cases hk; exact HG0.out))
            have HOW3 := Lib.hid (HOW2.out.kept g3 (fun k hk => by cases hk; exact HGS.out))
            clear s3 g3
            go_wp2_with (first
              | (go_at_call 55; refine (HQC.out _).mono ?_; rintro e w' ⟨rfl, rfl⟩))
            go_roundw
            case rel =>
              refine ⟨roundS bs st, l, lf, rfl, hlf, HOW3, HPC, HQS, Lib.hid (by rw [HR.out]; exact HS3.out), Lib.hid (HSK.out hfitI HKK.out).2, HRSD, HG3⟩
            case measure =>
              have hm := (HSK.out hfitI HKK.out).1
              rw [HR.out] at hm
              simp only [intOf]
              rw [srcOf_at HS3.out, srcOf_at HS.out, Int.toNat_natCast]
              exact hm
      · have hrb : (roundOne bs st == 0) = false := by simp [hr]
        have HA : Hid (bb = ordS[j]) := Lib.hid (HRB.out hr)
        have HR := Lib.hid (HRS.out hr)
        rw [hrb] at HO1
        have HQC : Hid (∀ W, Calls Try.prog 55 #[.int .u8 (ordS[j].toNat : Int)] W (RetV (.int .i64 q) W)) := Lib.hid (fun W => by have h := s_l02Quarters (ordS[j].toNat : Int) W; rw [show qI (ordS[j].toNat : Int) = (q : Int) from by rw [← HQB.out, HA.out]; rfl] at h; exact h)
        clear hr hrb
        by_cases hfit : q ≤ lf
        · have hfitI : (q : Int) ≤ (lf : Int) := by omega
          go_wp2_with (go_at_call 53; refine (s_l06OrderO _).mono ?_; rintro e w' ⟨rfl, rfl⟩)
          refine HP1.out.mono ?_
          rintro e w1 ⟨rfl, s1, g1⟩
          have HS1 := Lib.hid s1
          have HG1 := Lib.hid (HGr.out.trans g1)
          have HE1 := Lib.hid (HE0.out.grown HG1.out (fun k hk => by cases hk; exact HG0.out))
          have HOW1 := Lib.hid (HOWr.out.kept g1 (fun k hk => by cases hk; exact HGS.out))
          clear s1 g1
          go_wp2_with fail
          refine (HO1.out _ HS1.out HE1.out).mono ?_
          rintro e w2 ⟨rfl, s2, g2⟩
          have HS2 := Lib.hid s2
          have HG2 := Lib.hid (HG1.out.trans g2)
          have HE2 := Lib.hid (HE0.out.grown HG2.out (fun k hk => by cases hk; exact HG0.out))
          have HOW2 := Lib.hid (HOW1.out.kept g2 (fun k hk => by cases hk; exact HGS.out))
          clear s2 g2
          go_wp2_with (first
            | (go_at_call 55; refine (HQC.out _).mono ?_; rintro e w' ⟨rfl, rfl⟩)
            | (at_builtin; refine wpList_append_u8h (base := w.heap.size) rfl _ _ rfl _ l ordS[j] rfl rfl rfl HOW2.out HG2.out.size (by omega) ?_; intro v' w4 ho4 g4; have HO4 := Lib.hid ho4; have HS4 := Lib.hid (blk_grownS HS2.out g4 (fun e => by have h1 := (World.ownsRow.lt HOW2.out g e.symm).1; have h2 := HGS.out; omega)); have HG4 := Lib.hid (grown_then HG2.out g4 (fun k hk => (World.ownsRow.lt HOW2.out k hk).1)); clear ho4 g4))
          go_roundw
          case rel =>
            refine ⟨roundS bs st, l ++ [bb], lf - q, int_eq (by omega), by omega, Lib.hid (by rw [HA.out]; exact HO4.out), Lib.hid (by rw [List.all_append, HPC.out, List.all_cons, HPCR.out]; rfl), Lib.hid (by rw [qSum_snoc, HQB.out]; have := HQS.out; omega), Lib.hid (by rw [HR.out]; exact HS4.out), Lib.hid (HTK.out q (by omega) hfit HKK.out).2, HRSD, HG4⟩
          case measure =>
            have hm := (HTK.out q (by omega) hfit HKK.out).1
            rw [HR.out] at hm
            simp only [intOf]
            rw [srcOf_at HS4.out, srcOf_at HS.out, Int.toNat_natCast, show ((lf : Int) - (q : Int)).toNat = lf - q by omega]
            exact hm
        · have hfitI : ¬ (q : Int) ≤ (lf : Int) := by omega
          go_wp2_with (go_at_call 53; refine (s_l06OrderO _).mono ?_; rintro e w' ⟨rfl, rfl⟩)
          refine HP1.out.mono ?_
          rintro e w1 ⟨rfl, s1, g1⟩
          have HS1 := Lib.hid s1
          have HG1 := Lib.hid (HGr.out.trans g1)
          have HE1 := Lib.hid (HE0.out.grown HG1.out (fun k hk => by cases hk; exact HG0.out))
          have HOW1 := Lib.hid (HOWr.out.kept g1 (fun k hk => by cases hk; exact HGS.out))
          clear s1 g1
          go_wp2_with fail
          refine (HO1.out _ HS1.out HE1.out).mono ?_
          rintro e w2 ⟨rfl, s2, g2⟩
          have HS2 := Lib.hid s2
          have HG2 := Lib.hid (HG1.out.trans g2)
          have HE2 := Lib.hid (HE0.out.grown HG2.out (fun k hk => by cases hk; exact HG0.out))
          have HOW2 := Lib.hid (HOW1.out.kept g2 (fun k hk => by cases hk; exact HGS.out))
          clear s2 g2
          go_wp2_with (first
            | (go_at_call 55; refine (HQC.out _).mono ?_; rintro e w' ⟨rfl, rfl⟩))
          go_roundw
          case rel =>
            refine ⟨roundS bs st, l, lf, rfl, hlf, HOW2, HPC, HQS, Lib.hid (by rw [HR.out]; exact HS2.out), Lib.hid (HSK.out hfitI HKK.out).2, HRSD, HG2⟩
          case measure =>
            have hm := (HSK.out hfitI HKK.out).1
            rw [HR.out] at hm
            simp only [intOf]
            rw [srcOf_at HS2.out, srcOf_at HS.out, Int.toNat_natCast]
            exact hm
    · obtain rfl : lf = 0 := by omega
      have HNE : Hid (l ≠ []) := Lib.hid (fun h => by have := HQS.out; rw [h, qSum_nil] at this; omega)
      have htx := HO.out.text HNE.out
      go_wp2
      go_ret
      refine ⟨l, st, rfl, HPC.out, by have := HQS.out; omega, ⟨by have := HKK.out; omega, HSE.out⟩, HS.out, HGR.out⟩
end Go.Proofs.Ytciamgnfbhijlaa
