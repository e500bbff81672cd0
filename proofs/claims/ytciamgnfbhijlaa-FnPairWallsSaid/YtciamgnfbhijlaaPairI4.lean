/- The program's answers on pairs of courses: the cuts of the best pair, its courses, the lengths without cuts. -/
import Derived.Test.YtciamgnfbhijlaaPairI3
import Derived.Test.YtciamgnfbhijlaaPairS4
import Derived.Test.YtciamgnfbhijlaaBestI2
namespace Go.Proofs.Ytciamgnfbhijlaa
open Go.RowKit
set_option linter.unusedSimpArgs false
set_option linter.unusedVariables false
set_option linter.unnecessarySimpa false

theorem i_pairCode (L lap : Int) (w : World) : Calls Try.prog 31 #[.int .i64 L, .int .i64 lap] w (RetV (.int .i64 (sel (okP L lap) 0 2)) w) := by
  have H1 := Lib.hid (fun W => i_isPair L W)
  have H2 := Lib.hid (fun W => i_within lap 1 4 W)
  cases g1 : inB L 1 80 with
  | false =>
    have HV : Hid (sel (okP L lap) 0 2 = 2) := Lib.hid (by unfold okP; rw [g1]; rfl)
    rw [g1] at H1
    clear g1
    go_enter Try.func31, Try.ntmps31
    go_wp2_with (go_at_call 50; refine (H1.out _).mono ?_; rintro e w' ⟨rfl, rfl⟩)
    go_ret
    exact RetV.mk (int_eq HV.out.symm)
  | true =>
    cases g2 : inB lap 1 4 with
    | false =>
      have HV : Hid (sel (okP L lap) 0 2 = 2) := Lib.hid (by unfold okP; rw [g1, g2]; rfl)
      rw [g1] at H1
      rw [g2] at H2
      clear g1 g2
      go_enter Try.func31, Try.ntmps31
      go_wp2_with (first | (go_at_call 50; refine (H1.out _).mono ?_; rintro e w' ⟨rfl, rfl⟩) | (go_at_call 44; refine (H2.out _).mono ?_; rintro e w' ⟨rfl, rfl⟩))
      go_ret
      exact RetV.mk (int_eq HV.out.symm)
    | true =>
      have HV : Hid (sel (okP L lap) 0 2 = 0) := Lib.hid (by unfold okP; rw [g1, g2]; rfl)
      rw [g1] at H1
      rw [g2] at H2
      clear g1 g2
      go_enter Try.func31, Try.ntmps31
      go_wp2_with (first | (go_at_call 50; refine (H1.out _).mono ?_; rintro e w' ⟨rfl, rfl⟩) | (go_at_call 44; refine (H2.out _).mono ?_; rintro e w' ⟨rfl, rfl⟩))
      go_ret
      exact RetV.mk (int_eq HV.out.symm)
/-- a search that is made and run: what the best pair is -/
def SeV (o : Option PR) : Value := .tuple #[.agg #[.int .i64 (cutI0 o), .int .i64 (numO o), .string (lowO o), .string (highO o)], .bool o.isSome]
def RetSo (v : Value) (S : Nat → Prop) (w : World) (e : Ending) (w' : World) : Prop := e = .returned v ∧ ChgS S w w'
theorem i_searchO {L lap : Int} {g bm bk bb : Nat} (hL : 1 ≤ L) (hL2 : L ≤ 80) (hl : 1 ≤ lap) (w : World) (hP : PI L lap g bm bk bb (fun _ => false) w) :
    Calls Try.prog 33 #[.pointer (some ⟨g, 0, none⟩)] w (RetSo (SeV (pairO L lap)) (TM bm bk bb) w) := by
  refine (i_search hL hL2 hl w hP).mono ?_
  rintro e w' ⟨o, ho, he, hc⟩
  rw [pairO_of ho]
  exact ⟨he, hc⟩
set_option maxRecDepth 100000 in
set_option maxHeartbeats 1000000 in
theorem i_PairCuts (L lap : Int) (w : World) : Calls Try.prog 11 #[.int .i64 L, .int .i64 lap] w (PairE (pairN L lap) (pairC L lap) w) := by
  have H1 := Lib.hid (fun W => i_pairCode L lap W)
  by_cases g : okP L lap = true
  · obtain ⟨g1, g2, g3, g4⟩ := okP_iff.1 g
    rw [g] at H1
    have HN := Lib.hid (fun W => i_newPair L lap W)
    have hS : ∀ g bm bk bb W, PI L lap g bm bk bb (fun _ => false) W → Calls Try.prog 33 #[.pointer (some ⟨g, 0, none⟩)] W (RetSo (SeV (pairO L lap)) (TM bm bk bb) W) := fun g bm bk bb W h => i_searchO g1 g2 g3 W h
    cases ho : pairO L lap with
    | none =>
      have HC : Hid (pairC L lap = 3) := Lib.hid (by unfold pairC; rw [if_pos g, ho]; rfl)
      have HV : Hid (pairN L lap = 0) := Lib.hid (by unfold pairN; rw [if_neg (by rw [HC.out]; decide)])
      rw [ho] at hS
      have HS : Hid (∀ g bm bk bb W, PI L lap g bm bk bb (fun _ => false) W → Calls Try.prog 33 #[.pointer (some ⟨g, 0, none⟩)] W (RetSo (.tuple #[.agg #[.int .i64 0, .int .i64 0, .string ⟨#[]⟩, .string ⟨#[]⟩], .bool false]) (TM bm bk bb) W)) := Lib.hid hS
      clear hS ho g
      go_enter Try.func11, Try.ntmps11
      go_wp2_with (first | (go_at_call 31; refine (H1.out _).mono ?_; rintro e w' ⟨rfl, rfl⟩) | (go_at_call 32; refine (HN.out _).mono ?_; rintro e w1 ⟨g, bm, bk, bb, rfl, pi, e1, hT⟩; have HPI := Lib.hid pi; have HT := Lib.hid hT; have HE1 := Lib.hid e1; clear pi hT e1) | (go_at_call 33; refine (HS.out _ _ _ _ _ HPI.out).mono ?_; rintro e w2 ⟨rfl, ch⟩; have HE := Lib.hid (ext_chg HE1.out ch HT.out); clear ch))
      go_ret2
      refine PairE.mk HV.out.symm HC.out.symm ?_
      repeat' (first | exact HE.out | refine Ext.alloc ?_ _ | refine Ext.drew ?_)
    | some x =>
      have HC : Hid (pairC L lap = 0) := Lib.hid (by unfold pairC; rw [if_pos g, ho]; rfl)
      have HV : Hid (pairN L lap = cutO (some x)) := Lib.hid (by unfold pairN; rw [if_pos HC.out, ho])
      rw [ho] at hS
      have HS : Hid (∀ g bm bk bb W, PI L lap g bm bk bb (fun _ => false) W → Calls Try.prog 33 #[.pointer (some ⟨g, 0, none⟩)] W (RetSo (.tuple #[.agg #[.int .i64 (cutO (some x)), .int .i64 (numO (some x)), .string (lowO (some x)), .string (highO (some x))], .bool true]) (TM bm bk bb) W)) := Lib.hid hS
      clear hS ho g
      go_enter Try.func11, Try.ntmps11
      go_wp2_with (first | (go_at_call 31; refine (H1.out _).mono ?_; rintro e w' ⟨rfl, rfl⟩) | (go_at_call 32; refine (HN.out _).mono ?_; rintro e w1 ⟨g, bm, bk, bb, rfl, pi, e1, hT⟩; have HPI := Lib.hid pi; have HT := Lib.hid hT; have HE1 := Lib.hid e1; clear pi hT e1) | (go_at_call 33; refine (HS.out _ _ _ _ _ HPI.out).mono ?_; rintro e w2 ⟨rfl, ch⟩; have HE := Lib.hid (ext_chg HE1.out ch HT.out); clear ch))
      go_ret2
      refine PairE.mk HV.out.symm HC.out.symm ?_
      repeat' (first | exact HE.out | refine Ext.alloc ?_ _ | refine Ext.drew ?_)
  · rw [Bool.not_eq_true] at g
    rw [g] at H1
    have HC : Hid (pairC L lap = 2) := Lib.hid (by unfold pairC; rw [g]; rfl)
    have HV : Hid (pairN L lap = 0) := Lib.hid (by unfold pairN; rw [if_neg (by rw [HC.out]; decide)])
    clear g
    go_enter Try.func11, Try.ntmps11
    go_wp2_with (go_at_call 31; refine (H1.out _).mono ?_; rintro e w' ⟨rfl, rfl⟩)
    go_ret2
    exact PairE.mk HV.out.symm HC.out.symm (Ext.refl _)
set_option maxRecDepth 100000 in
set_option maxHeartbeats 1000000 in
theorem i_BestPair (L lap : Int) (w : World) : Calls Try.prog 9 #[.int .i64 L, .int .i64 lap] w (RetTTC (pairT L lap) (pairU L lap) (pairC L lap) w) := by
  have H1 := Lib.hid (fun W => i_pairCode L lap W)
  by_cases g : okP L lap = true
  · obtain ⟨g1, g2, g3, g4⟩ := okP_iff.1 g
    rw [g] at H1
    have HN := Lib.hid (fun W => i_newPair L lap W)
    have hS : ∀ g bm bk bb W, PI L lap g bm bk bb (fun _ => false) W → Calls Try.prog 33 #[.pointer (some ⟨g, 0, none⟩)] W (RetSo (SeV (pairO L lap)) (TM bm bk bb) W) := fun g bm bk bb W h => i_searchO g1 g2 g3 W h
    cases ho : pairO L lap with
    | none =>
      have HC : Hid (pairC L lap = 3) := Lib.hid (by unfold pairC; rw [if_pos g, ho]; rfl)
      have HV : Hid (pairT L lap = ⟨#[]⟩) := Lib.hid (by unfold pairT; rw [if_neg (by rw [HC.out]; decide)]; rfl)
      have HU : Hid (pairU L lap = ⟨#[]⟩) := Lib.hid (by unfold pairU; rw [if_neg (by rw [HC.out]; decide)]; rfl)
      rw [ho] at hS
      have HS : Hid (∀ g bm bk bb W, PI L lap g bm bk bb (fun _ => false) W → Calls Try.prog 33 #[.pointer (some ⟨g, 0, none⟩)] W (RetSo (.tuple #[.agg #[.int .i64 0, .int .i64 0, .string ⟨#[]⟩, .string ⟨#[]⟩], .bool false]) (TM bm bk bb) W)) := Lib.hid hS
      clear hS ho g
      go_enter Try.func9, Try.ntmps9
      go_wp2_with (first | (go_at_call 31; refine (H1.out _).mono ?_; rintro e w' ⟨rfl, rfl⟩) | (go_at_call 32; refine (HN.out _).mono ?_; rintro e w1 ⟨g, bm, bk, bb, rfl, pi, e1, hT⟩; have HPI := Lib.hid pi; have HT := Lib.hid hT; have HE1 := Lib.hid e1; clear pi hT e1) | (go_at_call 33; refine (HS.out _ _ _ _ _ HPI.out).mono ?_; rintro e w2 ⟨rfl, ch⟩; have HE := Lib.hid (ext_chg HE1.out ch HT.out); clear ch))
      go_ret3
      refine RetTTC.mk HV.out.symm HU.out.symm HC.out.symm ?_
      repeat' (first | exact HE.out | refine Ext.alloc ?_ _ | refine Ext.drew ?_)
    | some x =>
      have HC : Hid (pairC L lap = 0) := Lib.hid (by unfold pairC; rw [if_pos g, ho]; rfl)
      have HV : Hid (pairT L lap = lowO (some x)) := Lib.hid (by unfold pairT; rw [if_pos HC.out, ho])
      have HU : Hid (pairU L lap = highO (some x)) := Lib.hid (by unfold pairU; rw [if_pos HC.out, ho])
      rw [ho] at hS
      have HS : Hid (∀ g bm bk bb W, PI L lap g bm bk bb (fun _ => false) W → Calls Try.prog 33 #[.pointer (some ⟨g, 0, none⟩)] W (RetSo (.tuple #[.agg #[.int .i64 (cutO (some x)), .int .i64 (numO (some x)), .string (lowO (some x)), .string (highO (some x))], .bool true]) (TM bm bk bb) W)) := Lib.hid hS
      clear hS ho g
      go_enter Try.func9, Try.ntmps9
      go_wp2_with (first | (go_at_call 31; refine (H1.out _).mono ?_; rintro e w' ⟨rfl, rfl⟩) | (go_at_call 32; refine (HN.out _).mono ?_; rintro e w1 ⟨g, bm, bk, bb, rfl, pi, e1, hT⟩; have HPI := Lib.hid pi; have HT := Lib.hid hT; have HE1 := Lib.hid e1; clear pi hT e1) | (go_at_call 33; refine (HS.out _ _ _ _ _ HPI.out).mono ?_; rintro e w2 ⟨rfl, ch⟩; have HE := Lib.hid (ext_chg HE1.out ch HT.out); clear ch))
      go_quiet (fail)
      go_wp2
      go_ret3
      refine RetTTC.mk HV.out.symm HU.out.symm HC.out.symm ?_
      repeat' (first | exact HE.out | refine Ext.drewN ?_ _ | refine Ext.alloc ?_ _ | refine Ext.drew ?_)
  · rw [Bool.not_eq_true] at g
    rw [g] at H1
    have HC : Hid (pairC L lap = 2) := Lib.hid (by unfold pairC; rw [g]; rfl)
    have HV : Hid (pairT L lap = ⟨#[]⟩) := Lib.hid (by unfold pairT; rw [if_neg (by rw [HC.out]; decide)]; rfl)
    have HU : Hid (pairU L lap = ⟨#[]⟩) := Lib.hid (by unfold pairU; rw [if_neg (by rw [HC.out]; decide)]; rfl)
    clear g
    go_enter Try.func9, Try.ntmps9
    go_wp2_with (go_at_call 31; refine (H1.out _).mono ?_; rintro e w' ⟨rfl, rfl⟩)
    go_ret3
    exact RetTTC.mk HV.out.symm HU.out.symm HC.out.symm (Ext.refl _)
/-- the lengths whose best pair has no cut -/
noncomputable def noCut (lap : Int) : Nat → List Int
  | 0 => []
  | n + 1 => noCut lap n ++ (if cutO (pairO ((n : Int) + 1) lap) = 0 then [(n : Int) + 1] else [])
theorem noCut_len (lap : Int) (n : Nat) : (noCut lap n).length ≤ n := by
  induction n with
  | zero => exact Nat.le_refl _
  | succ n ih => unfold noCut; split <;> simp <;> omega
noncomputable def lensN (L lap : Int) : List Int := if okP L lap then noCut lap L.toNat else []
theorem wpList_append_int_at {W w0 w : World} {ops : Array Oper} {rest : List Oper} {o : Oper} {a : Act} {Q : Exit → Act → World → Prop} (hgd : o.guard = none) (s x : Operand)
    (ho : o.op = .call { callee := .builtin .append, args := #[s, x], argTypes := #[27, 27] })
    (v : Value) (xs : List Int) (y : Int) (b : Nat) (hs : a.eval s = v) (hw : w = w0.alloc (.cells #[.int .i64 y] 2)) (hx : a.eval x = .slice (some ⟨b, 0, none⟩) 1 1) (hb : w0.heap.size = b)
    (hown : OwnInts 2 w0 W.heap.size v xs) (e : Ext W w0) (hy : IsI64 y) (hlen : xs.length ≤ 1000000000)
    (h : ∀ v' w', OwnInts 2 w' W.heap.size v' (xs ++ [y]) → Ext W w' → wpList Try.prog ops Q rest (a.put o.dst v') w') : wpList Try.prog ops Q (o :: rest) a w := by
  subst hb
  exact wpList_append_int hgd s x ho v xs y hs hw hx hown e hy hlen h
theorem run_fieldP (a b : Int) (s u : ByteArray) (w : World) : (Instr.field 48 (.agg #[.int .i64 a, .int .i64 b, .string s, .string u]) 0).run Try.prog w = .ok (.int .i64 a) w := by
  simp [Instr.field, run_underlying Try.underlying48, asAgg, part, isAgg, run_underlying Try.underlying2]
set_option maxRecDepth 100000 in
set_option maxHeartbeats 1000000 in
theorem s_LengthsWithout (L lap : Int) (w : World) : Calls Try.prog 12 #[.int .i64 L, .int .i64 lap] w (RetIntsC (lensN L lap) (sel (okP L lap) 0 2) w) := by
  have H1 := Lib.hid (fun W => s_l08Lengths L lap W)
  by_cases g : okP L lap = true
  · obtain ⟨g1, g2, g3, g4⟩ := okP_iff.1 g
    rw [show (inB L 1 80 && inB lap 1 4) = true from g] at H1
    have HP := Lib.hid (fun (n : Int) (h1 : 1 ≤ n) (h2 : n ≤ 80) W => s_l08Pair n lap h1 h2 g3 g4 W)
    have eL : Hid (lensN L lap = noCut lap L.toNat) := Lib.hid (if_pos g)
    have eC : Hid (sel (okP L lap) 0 2 = 0) := Lib.hid (sel_t g _ _)
    clear g
    go_enter Try.func12, Try.ntmps12
    go_wp2_with (go_at_call 29; refine (H1.out _).mono ?_; rintro e w' ⟨rfl, rfl⟩)
    go_loopw [6, 7] (fun v i wr => ∃ k : Nat, (k : Int) ≤ L ∧ i = .int .i64 (k + 1) ∧ OwnInts 2 wr w.heap.size v (noCut lap k) ∧ Ext w wr) (fun _ i _ => (L + 1 - intOf i).toNat)
    case atStart => exact ⟨0, by omega, rfl, OwnInts.empty (Ext.refl w), (Ext.refl w).alloc _⟩
    case round =>
      obtain ⟨k, hk, rfl, ho, er⟩ := hrel
      have hml := noCut_len lap k
      by_cases hlt : (k : Int) + 1 ≤ L
      · have hP := HP.out ((k : Int) + 1) (by omega) (by omega)
        obtain ⟨c, hc⟩ : ∃ c, cutO (pairO ((k : Int) + 1) lap) = c := ⟨_, rfl⟩
        rw [hc] at hP
        have HPP := Lib.hid hP
        have hfd := fun W => run_fieldP c (numO (pairO ((k : Int) + 1) lap)) (lowO (pairO ((k : Int) + 1) lap)) (highO (pairO ((k : Int) + 1) lap)) W
        by_cases h0 : c = 0
        · subst h0
          have HN : Hid (noCut lap (k + 1) = noCut lap k ++ [(k : Int) + 1]) := Lib.hid (by rw [noCut, if_pos hc])
          have HO := Lib.hid ho
          have HE := Lib.hid er
          clear hP hc ho er
          go_wp2_with (first
            | (go_at_call 30; refine (HPP.out _).mono ?_; rintro e w1 ⟨rfl, e1⟩)
            | (at_builtin; refine wpList_append_int rfl _ _ rfl _ _ _ rfl rfl rfl (HO.out.ext e1) (HE.out.trans e1) (by unfold IsI64; omega) (by omega) ?_))
          intro v' w2 ho2 er2
          have HO2 : Hid (OwnInts 2 w2 w.heap.size v' (noCut lap (k + 1))) := Lib.hid (by rw [HN.out]; exact ho2)
          clear ho2
          go_wp2
          go_roundw
          case rel => exact ⟨k + 1, by omega, by go_num, HO2.out, er2⟩
          case measure => simp [intOf]; omega
        · have HN : Hid (noCut lap (k + 1) = noCut lap k) := Lib.hid (by rw [noCut, if_neg (by rw [hc]; exact h0), List.append_nil])
          have hc0 : (c == 0) = false := by simp [h0]
          have HO := Lib.hid ho
          have HE := Lib.hid er
          clear hP hc ho er h0
          go_wp2_with (go_at_call 30; refine (HPP.out _).mono ?_; rintro e w1 ⟨rfl, e1⟩)
          go_roundw
          case rel => exact ⟨k + 1, by omega, by go_num, by rw [HN.out]; exact HO.out.ext e1, HE.out.trans e1⟩
          case measure => simp [intOf]; omega
      · go_wp2
        go_ret2
        rw [eL.out, show L.toNat = k by omega]
        exact RetIntsC.of_own ho er eC.out.symm
  · have eL : Hid (lensN L lap = []) := Lib.hid (if_neg g)
    have eC : Hid (sel (okP L lap) 0 2 = 2) := Lib.hid (sel_f g _ _)
    rw [Bool.not_eq_true] at g
    rw [show (inB L 1 80 && inB lap 1 4) = false from g] at H1
    clear g
    go_enter Try.func12, Try.ntmps12
    go_wp2_with (go_at_call 29; refine (H1.out _).mono ?_; rintro e w' ⟨rfl, rfl⟩)
    go_ret2
    rw [eL.out]
    exact RetIntsC.of_own (OwnInts.nilv _ _ _) (Ext.refl _) eC.out.symm
theorem cut_zero (o : Option PR) : (cutO o = 0) ↔ (o.isSome = true ∧ cutI0 o = 0) := by
  cases o with
  | none => unfold cutO; simp
  | some x => unfold cutO cutI0; simp
set_option maxRecDepth 100000 in
set_option maxHeartbeats 1000000 in
theorem i_LengthsWithout (L lap : Int) (w : World) : Calls Try.prog 13 #[.int .i64 L, .int .i64 lap] w (RetIntsC (lensN L lap) (sel (okP L lap) 0 2) w) := by
  have H1 := Lib.hid (fun W => i_pairCode L lap W)
  by_cases g : okP L lap = true
  · obtain ⟨g1, g2, g3, g4⟩ := okP_iff.1 g
    have HNP := Lib.hid (fun (n : Int) W => i_newPair n lap W)
    have HP := Lib.hid (fun (n : Int) (h1 : 1 ≤ n) (h2 : n ≤ 80) g bm bk bb W h => i_searchO (g := g) (bm := bm) (bk := bk) (bb := bb) (L := n) h1 h2 g3 W h)
    have eL : Hid (lensN L lap = noCut lap L.toNat) := Lib.hid (if_pos g)
    have eC : Hid (sel (okP L lap) 0 2 = 0) := Lib.hid (sel_t g _ _)
    rw [eC.out] at H1
    clear g
    go_enter Try.func13, Try.ntmps13
    go_wp2_with (go_at_call 31; refine (H1.out _).mono ?_; rintro e w' ⟨rfl, rfl⟩)
    go_loopw [7, 8] (fun v i wr => ∃ k : Nat, (k : Int) ≤ L ∧ i = .int .i64 (k + 1) ∧ OwnInts 2 wr w.heap.size v (noCut lap k) ∧ Ext w wr) (fun _ i _ => (L + 1 - intOf i).toNat)
    case atStart => exact ⟨0, by omega, rfl, OwnInts.empty (Ext.refl w), (Ext.refl w).alloc _⟩
    case round =>
      obtain ⟨k, hk, rfl, ho, er⟩ := hrel
      have hml := noCut_len lap k
      by_cases hlt : (k : Int) + 1 ≤ L
      · have hP := HP.out ((k : Int) + 1) (by omega) (by omega)
        have HNN := Lib.hid (HNP.out ((k : Int) + 1))
        have HO := Lib.hid ho
        have HE := Lib.hid er
        clear ho er
        cases hoo : pairO ((k : Int) + 1) lap with
        | none =>
          have HN : Hid (noCut lap (k + 1) = noCut lap k) := Lib.hid (by rw [noCut, if_neg (by rw [hoo]; decide), List.append_nil])
          rw [hoo] at hP
          have HS : Hid (∀ g bm bk bb W, PI ((k : Int) + 1) lap g bm bk bb (fun _ => false) W → Calls Try.prog 33 #[.pointer (some ⟨g, 0, none⟩)] W (RetSo (.tuple #[.agg #[.int .i64 0, .int .i64 0, .string ⟨#[]⟩, .string ⟨#[]⟩], .bool false]) (TM bm bk bb) W)) := Lib.hid hP
          clear hP hoo
          go_wp2_with (first | (go_at_call 32; refine (HNN.out _).mono ?_; rintro e w1 ⟨g, bm, bk, bb, rfl, pi, e1, hT⟩; have HPI := Lib.hid pi; have HT := Lib.hid hT; have HE1 := Lib.hid e1; clear pi hT e1) | (go_at_call 33; refine (HS.out _ _ _ _ _ HPI.out).mono ?_; rintro e w2 ⟨rfl, ch⟩; have HE2 := Lib.hid (ext_chg HE1.out ch HT.out); clear ch))
          go_roundw
          case rel => exact ⟨k + 1, by omega, by go_num, by rw [HN.out]; exact HO.out.ext (HE2.out.alloc _), HE.out.trans (HE2.out.alloc _)⟩
          case measure => simp [intOf]; omega
        | some x =>
          rw [hoo] at hP
          obtain ⟨c, hc⟩ : ∃ c, cutO (some x) = c := ⟨_, rfl⟩
          have hP' : ∀ g bm bk bb W, PI ((k : Int) + 1) lap g bm bk bb (fun _ => false) W → Calls Try.prog 33 #[.pointer (some ⟨g, 0, none⟩)] W (RetSo (.tuple #[.agg #[.int .i64 (cutO (some x)), .int .i64 (numO (some x)), .string (lowO (some x)), .string (highO (some x))], .bool true]) (TM bm bk bb) W) := hP
          rw [hc] at hP'
          have HS := Lib.hid hP'
          clear hP hP'
          by_cases h0 : c = 0
          · subst h0
            have HN : Hid (noCut lap (k + 1) = noCut lap k ++ [(k : Int) + 1]) := Lib.hid (by rw [noCut, if_pos (by rw [hoo]; exact hc)])
            clear hc hoo
            go_wp2_with (first | (go_at_call 32; refine (HNN.out _).mono ?_; rintro e w1 ⟨g, bm, bk, bb, rfl, pi, e1, hT⟩; have HPI := Lib.hid pi; have HT := Lib.hid hT; have HE1 := Lib.hid e1; clear pi hT e1) | (go_at_call 33; refine (HS.out _ _ _ _ _ HPI.out).mono ?_; rintro e w2 ⟨rfl, ch⟩; have HE2 := Lib.hid (ext_chg HE1.out ch HT.out); clear ch) | (at_builtin; refine wpList_append_int_at rfl _ _ rfl _ _ _ _ rfl rfl rfl (World.size_alloc _ _) (HO.out.ext (HE2.out.alloc _)) (HE.out.trans (HE2.out.alloc _)) (by unfold IsI64; omega) (by omega) ?_))
            intro v' w3 ho2 er2
            have HO2 : Hid (OwnInts 2 w3 w.heap.size v' (noCut lap (k + 1))) := Lib.hid (by rw [HN.out]; exact ho2)
            clear ho2
            go_wp2
            go_roundw
            case rel => exact ⟨k + 1, by omega, by go_num, HO2.out, er2⟩
            case measure => simp [intOf]; omega
          · have HN : Hid (noCut lap (k + 1) = noCut lap k) := Lib.hid (by rw [noCut, if_neg (by rw [hoo, hc]; exact h0), List.append_nil])
            have hc0 : (c == 0) = false := by simp [h0]
            clear hc hoo h0
            go_wp2_with (first | (go_at_call 32; refine (HNN.out _).mono ?_; rintro e w1 ⟨g, bm, bk, bb, rfl, pi, e1, hT⟩; have HPI := Lib.hid pi; have HT := Lib.hid hT; have HE1 := Lib.hid e1; clear pi hT e1) | (go_at_call 33; refine (HS.out _ _ _ _ _ HPI.out).mono ?_; rintro e w2 ⟨rfl, ch⟩; have HE2 := Lib.hid (ext_chg HE1.out ch HT.out); clear ch))
            go_roundw
            case rel => exact ⟨k + 1, by omega, by go_num, by rw [HN.out]; exact HO.out.ext (HE2.out.alloc _), HE.out.trans (HE2.out.alloc _)⟩
            case measure => simp [intOf]; omega
      · go_wp2
        go_ret2
        rw [eL.out, show L.toNat = k by omega]
        exact RetIntsC.of_own ho er eC.out.symm
  · have eL : Hid (lensN L lap = []) := Lib.hid (if_neg g)
    have eC : Hid (sel (okP L lap) 0 2 = 2) := Lib.hid (sel_f g _ _)
    rw [eC.out] at H1
    clear g
    go_enter Try.func13, Try.ntmps13
    go_wp2_with (go_at_call 31; refine (H1.out _).mono ?_; rintro e w' ⟨rfl, rfl⟩)
    go_ret2
    rw [eL.out]
    exact RetIntsC.of_own (OwnInts.nilv _ _ _) (Ext.refl _) eC.out.symm
end Go.Proofs.Ytciamgnfbhijlaa
