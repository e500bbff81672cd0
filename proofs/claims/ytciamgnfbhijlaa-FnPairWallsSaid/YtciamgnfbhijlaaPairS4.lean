/- The reference's best pair of courses: the search as a whole, and what is asked of it. -/
import Derived.Test.YtciamgnfbhijlaaPairS2
import Derived.Test.YtciamgnfbhijlaaPairS3
import Derived.Test.YtciamgnfbhijlaaBestS2
namespace Go.Proofs.Ytciamgnfbhijlaa
open Go.RowKit
set_option linter.unusedSimpArgs false
set_option linter.unusedVariables false
set_option linter.unnecessarySimpa false

set_option maxRecDepth 100000 in
set_option maxHeartbeats 2000000 in
theorem s_best_end {L lap : Int} {N g gt gd : Nat} (w : World) (hS : SS L lap N g gt gd w) : Calls Try.prog 49 #[.pointer (some ⟨g, 0, none⟩), .int .i64 L, .int .i64 L] w (RetBP L lap L L N g gt gd w) := by
  obtain ⟨c0, c1, c2, c3, _, _, _, _, c8⟩ := four_cells hS.box
  have HS := Lib.hid hS
  clear hS
  go_enter Try.func49, Try.ntmps49
  go_wp2
  refine bodyPost_ret (v := .agg #[.int .i64 0, .int .i64 0, .string ⟨#[]⟩, .string ⟨#[]⟩]) (by simp [results, Try.results49, go_sem]) rfl ?_
  exact ⟨some ([], []), isBest_end L lap, rfl, HS.out.ext ((Ext.refl _).alloc _), ChgS.of_ext ((Ext.refl _).alloc _)⟩
set_option maxRecDepth 100000 in
set_option maxHeartbeats 4000000 in
theorem s_best {L lap : Int} {N g gt gd : Nat} (hL : 1 ≤ L) (hL2 : L ≤ 80) (hl : 1 ≤ lap) (hl2 : lap ≤ 4) (hN : (N : Int) = (L + 1) * (L + 1)) : ∀ (K : Nat) (a b : Int), 2 * L - a - b ≤ K → 0 ≤ a → a ≤ L → 0 ≤ b → b ≤ L → freeP L lap a b → ∀ w, SS L lap N g gt gd w →
    Calls Try.prog 49 #[.pointer (some ⟨g, 0, none⟩), .int .i64 a, .int .i64 b] w (RetBP L lap a b N g gt gd w) := by
  intro K
  induction K with
  | zero =>
    intro a b hK a0 a1 b0 b1 hf w hS
    obtain rfl : a = L := by omega
    obtain rfl : b = a := by omega
    exact s_best_end w hS
  | succ K ih =>
    intro a b hK a0 a1 b0 b1 hf w hS
    by_cases he : a = L ∧ b = L
    · obtain ⟨rfl, rfl⟩ := he
      exact s_best_end w hS
    · obtain ⟨d1, d2, d3, d4⟩ := at_bd (L := L) (a := a) (b := b) (by omega) hL2 ⟨a0, a1⟩ ⟨b0, b1⟩
      obtain ⟨i, hi⟩ := Int.eq_ofNat_of_zero_le (show 0 ≤ a * (L + 1) + b by omega)
      have hiN : i < N := by omega
      rcases hS.look (i := i) a0 a1 b0 b1 hi.symm hiN with ⟨k0, k1⟩ | ⟨k0, o, ho, k1, k2, k3, k4⟩
      · by_cases hcmp : a ≤ b
        · exact s_best_low hL hL2 hl hl2 hN K ih a b hK a0 a1 b0 b1 hf hcmp he w hS i hi hiN k0
        · exact s_best_high hL hL2 hl hl2 hN K ih a b hK a0 a1 b0 b1 hf (by omega) he w hS i hi hiN k0
      · have hab : (a == L) = false ∨ ((a == L) = true ∧ (b == L) = false) := by
          by_cases h1 : a = L
          · exact .inr ⟨by simp [h1], by simp; omega⟩
          · exact .inl (by simp [h1])
        obtain ⟨c0, c1, c2, c3, _, _, _, _, c8⟩ := four_cells hS.box
        have HS := Lib.hid hS
        have HO := Lib.hid ho
        have hiNI : (i : Int) < (N : Int) := by omega
        have hi0 : (0 : Int) ≤ (i : Int) := by omega
        have hNm : (N : Int) ≤ 10000 := by omega
        have hsz : gt < w.heap.size ∧ gd < w.heap.size := ⟨hS.lt1, hS.lt2⟩
        clear hS ho ih hN hf he
        rcases hab with t1 | ⟨t1, t2⟩
        all_goals
          go_enter Try.func49, Try.ntmps49
          go_wp2
          refine bodyPost_ret (v := .agg #[.int .i64 (cutO o), .int .i64 (numO o), .string (lowO o), .string (highO o)]) (by simp [results, Try.results49, go_sem]) rfl ?_
          exact ⟨o, HO.out, rfl, HS.out.ext ((Ext.refl _).alloc _), ChgS.of_ext ((Ext.refl _).alloc _)⟩
theorem info_l08P : (Try.prog.info? 48).map (fun i => (i.zero, i.size, i.bytes)) = some (some (.agg #[.int .i64 0, .int .i64 0, .string ByteArray.empty, .string ByteArray.empty]), 4, 48) := by kernel_rfl
theorem info_boolP : (Try.prog.info? 4).map (fun i => (i.zero, i.size, i.bytes)) = some (some (.bool false), 1, 1) := by kernel_rfl
theorem run_make_anyP {P : Program} (t e : TypeId) (z : Value) (size bytes : Nat) (ht : P.underlying t = some (.slice e)) (hinfo : (P.info? e).map (fun i => (i.zero, i.size, i.bytes)) = some (some z, size, bytes)) (n : Nat) (x : Int) (hx : x = n) (hb : bytes * n ≤ 281474976710656) (h63 : n ≤ 9223372036854775807) (w : World) :
    (Instr.makeSlice t (.int .i64 x) (.int .i64 x)).run P w = .ok (.slice (some ⟨w.heap.size, 0, none⟩) n n) (w.alloc (.cells (madeCells z.cells (n * size)) e)) := by
  subst hx
  obtain ⟨i, hi, hzz⟩ := Option.map_eq_some_iff.1 hinfo
  simp only [Prod.mk.injEq] at hzz
  obtain ⟨hz, hs, hb'⟩ := hzz
  have hbb : (i.bytes : Int) * (n : Int) ≤ 281474976710656 := by
    have h : ((i.bytes * n : Nat) : Int) ≤ 281474976710656 := by rw [hb']; omega
    rwa [Int.natCast_mul] at h
  have hr := run_make (P := P) w t e i z ht hi hz .i64 .i64 n n (by omega) (Int.le_refl _) hbb (by omega)
  simp only [Int.toNat_natCast, hs] at hr
  exact hr
theorem made4 (a b c d : Value) (n : Nat) : (madeCells #[a, b, c, d] (n * 4)).toList = (List.replicate n [a, b, c, d]).flatten := by
  have hl : ∀ r ∈ List.replicate n [a, b, c, d], r.length = 4 := fun r hr => by rw [List.eq_of_mem_replicate hr]; rfl
  apply List.ext_getElem?
  intro j
  by_cases hj : j < n * 4
  · have hr := flat_get _ hl (j / 4) (j % 4) (by rw [List.length_replicate]; omega) (Nat.mod_lt _ (by omega))
    rw [show j / 4 * 4 + j % 4 = j by omega] at hr
    rw [hr, List.getD_eq_getElem?_getD, List.getElem?_replicate, if_pos (by omega)]
    have h4 : j % 4 = 0 ∨ j % 4 = 1 ∨ j % 4 = 2 ∨ j % 4 = 3 := by omega
    rcases h4 with h | h | h | h <;> simp [madeCells, hj, h]
  · rw [List.getElem?_eq_none (by simp [madeCells]; omega), List.getElem?_eq_none (by rw [flat_len _ hl, List.length_replicate]; omega)]
theorem made1 (a : Value) (n : Nat) : (madeCells #[a] n).toList = (List.replicate n [a]).flatten := by
  have hl : ∀ r ∈ List.replicate n [a], r.length = 1 := fun r hr => by rw [List.eq_of_mem_replicate hr]; rfl
  apply List.ext_getElem?
  intro j
  by_cases hj : j < n
  · have hr := flat_get _ hl j 0 (by rw [List.length_replicate]; omega) (by omega)
    rw [Nat.mul_one, Nat.add_zero] at hr
    rw [hr, List.getD_eq_getElem?_getD, List.getElem?_replicate, if_pos hj]
    simp [madeCells, hj, Nat.mod_one]
  · rw [List.getElem?_eq_none (by simp [madeCells]; omega), List.getElem?_eq_none (by rw [flat_len _ hl, List.length_replicate]; omega)]
theorem recs_of {E : TypeId} {k : Nat} {W : World} {g n : Nat} {cs : Array Value} {rs : List (List Value)} (hb : W.heap[g]? = some (.cells cs E (0, 0))) (hcs : cs.toList = rs.flatten) (hr : ∀ r ∈ rs, r.length = k) (hn : rs.length = n) (hm : n ≤ 1000000) : OwnRecs E k W 0 (.slice (some ⟨g, 0, none⟩) n n) rs := by
  subst hn
  have hl := flat_len rs hr
  refine ⟨⟨by rw [hl], .inr ⟨g, rs.length, cs, rfl, Nat.zero_le _, hb, Nat.le_refl _, by unfold maxLen; omega, by rw [← hl, ← hcs]; simp, ?_⟩⟩, hr⟩
  rw [hcs, List.take_of_length_le (by rw [hl]; exact Nat.le_refl _)]
/-- a search that has just begun -/
theorem SS.first {L lap : Int} {N g gt gd : Nat} {W : World} (hL : 1 ≤ L) (hL2 : L ≤ 80) (hN : (N : Int) = (L + 1) * (L + 1)) (hNm : N ≤ 10000) (hbx : SBox g L lap (.slice (some ⟨gt, 0, none⟩) N N) (.slice (some ⟨gd, 0, none⟩) N N) W)
    (ht : W.heap[gt]? = some (.cells (madeCells #[.int .i64 0, .int .i64 0, .string ByteArray.empty, .string ByteArray.empty] (N * 4)) 48 (0, 0))) (hd : W.heap[gd]? = some (.cells (madeCells #[.bool false] N) 4 (0, 0))) (n1 : g ≠ gt) (n2 : g ≠ gd) (n3 : gt ≠ gd) : SS L lap N g gt gd W := by
  refine ⟨hbx, ⟨List.replicate N [.int .i64 0, .int .i64 0, .string ByteArray.empty, .string ByteArray.empty], List.replicate N [.bool false], ?_, ?_, fun a b i a0 a1 b0 b1 hi => .inl ?_⟩, n1, n2, n3, lt_of_block ht, lt_of_block hd⟩
  · exact recs_of ht (made4 _ _ _ _ _) (fun r hr => by rw [List.eq_of_mem_replicate hr]; rfl) (by simp) (by omega)
  · exact recs_of hd (made1 _ _) (fun r hr => by rw [List.eq_of_mem_replicate hr]; rfl) (by simp) (by omega)
  · obtain ⟨_, _, d3, _⟩ := at_bd (L := L) (a := a) (b := b) (by omega) hL2 ⟨a0, a1⟩ ⟨b0, b1⟩
    rw [List.getD_eq_getElem?_getD, List.getElem?_replicate, if_pos (by omega)]
    rfl
theorem at_blkP (w : World) (o : Obj) (k : Nat) (h : w.heap.size = k) : (w.alloc o).heap[k]? = some o := by subst h; exact heap_alloc_new w o
theorem pairO_of {L lap : Int} {o : Option PR} (h : IsBest (SetR L lap 0 0) o) : pairO L lap = o := h.opt
set_option maxRecDepth 100000 in
set_option maxHeartbeats 4000000 in
theorem s_l08Pair (L lap : Int) (hL : 1 ≤ L) (hL2 : L ≤ 80) (hl : 1 ≤ lap) (hl2 : lap ≤ 4) (w : World) :
    Calls Try.prog 30 #[.int .i64 L, .int .i64 lap] w (RetE (.agg #[.int .i64 (cutO (pairO L lap)), .int .i64 (numO (pairO L lap)), .string (lowO (pairO L lap)), .string (highO (pairO L lap))]) w) := by
  obtain ⟨d1, d2, d3, d4⟩ := at_bd (L := L) (a := L) (b := 0) (by omega) hL2 ⟨by omega, by omega⟩ ⟨by omega, by omega⟩
  obtain ⟨N, hN⟩ := Int.eq_ofNat_of_zero_le (show 0 ≤ (L + 1) * (L + 1) by omega)
  have m1 := fun W => run_make_anyP (P := Try.prog) 77 48 (.agg #[.int .i64 0, .int .i64 0, .string ByteArray.empty, .string ByteArray.empty]) 4 48 Try.underlying77 info_l08P N (N : Int) rfl (by omega) (by omega) W
  have m2 := fun W => run_make_anyP (P := Try.prog) 78 4 (.bool false) 1 1 Try.underlying78 info_boolP N (N : Int) rfl (by omega) (by omega) W
  have HN := Lib.hid hN.symm
  have HB := Lib.hid (fun (g : Nat) W (h : ∃ gt gd, SS L lap N g gt gd W ∧ w.heap.size < gt ∧ w.heap.size < gd) => show Calls Try.prog 49 #[.pointer (some ⟨g, 0, none⟩), .int .i64 0, .int .i64 0] W (fun e w' => ∃ o, IsBest (SetR L lap 0 0) o ∧ e = .returned (.agg #[.int .i64 (cutO o), .int .i64 (numO o), .string (lowO o), .string (highO o)]) ∧ ∃ S, ChgS S W w' ∧ ∀ i, S i → w.heap.size < i) from by
    obtain ⟨gt, gd, h1, h2, h3⟩ := h
    refine (s_best hL hL2 hl hl2 hN.symm (2 * L).toNat 0 0 (by omega) (by omega) (by omega) (by omega) (by omega) (free_00 L lap) W h1).mono ?_
    rintro e w' ⟨o, ho, he, _, hc⟩
    exact ⟨o, ho, he, _, hc, fun i hi => by rcases hi with rfl | rfl <;> assumption⟩)
  have hNm : N ≤ 10000 := by omega
  have hn0 : 0 ≤ (N : Int) := by omega
  go_enter Try.func30, Try.ntmps30
  go_wp2
  go_region
  all_goals
    clear hN m1 m2
    go_wp2_with fail
    refine (HB.out _ _ ?hex).mono ?_
    case hex =>
      first
        | exact ⟨w.heap.size + 1, w.heap.size + 2, SS.first hL hL2 HN.out hNm (by first | exact at_blkP _ _ _ (by simp) | exact old_blkP (at_blkP _ _ _ (by simp)) | exact old_blkP (old_blkP (at_blkP _ _ _ (by simp))) | exact old_blkP (old_blkP (old_blkP (at_blkP _ _ _ (by simp))))) (by first | exact at_blkP _ _ _ (by simp) | exact old_blkP (at_blkP _ _ _ (by simp)) | exact old_blkP (old_blkP (at_blkP _ _ _ (by simp))) | exact old_blkP (old_blkP (old_blkP (at_blkP _ _ _ (by simp))))) (by first | exact at_blkP _ _ _ (by simp) | exact old_blkP (at_blkP _ _ _ (by simp)) | exact old_blkP (old_blkP (at_blkP _ _ _ (by simp))) | exact old_blkP (old_blkP (old_blkP (at_blkP _ _ _ (by simp))))) (by omega) (by omega) (by omega), by omega, by omega⟩
        | exact ⟨w.heap.size + 2, w.heap.size + 1, SS.first hL hL2 HN.out hNm (by first | exact at_blkP _ _ _ (by simp) | exact old_blkP (at_blkP _ _ _ (by simp)) | exact old_blkP (old_blkP (at_blkP _ _ _ (by simp))) | exact old_blkP (old_blkP (old_blkP (at_blkP _ _ _ (by simp))))) (by first | exact at_blkP _ _ _ (by simp) | exact old_blkP (at_blkP _ _ _ (by simp)) | exact old_blkP (old_blkP (at_blkP _ _ _ (by simp))) | exact old_blkP (old_blkP (old_blkP (at_blkP _ _ _ (by simp))))) (by first | exact at_blkP _ _ _ (by simp) | exact old_blkP (at_blkP _ _ _ (by simp)) | exact old_blkP (old_blkP (at_blkP _ _ _ (by simp))) | exact old_blkP (old_blkP (old_blkP (at_blkP _ _ _ (by simp))))) (by omega) (by omega) (by omega), by omega, by omega⟩
    rintro e w' ⟨o, ho, rfl, S, ch, hS⟩
    have HP := Lib.hid (pairO_of ho)
    have hres := ch.blk (k := w.heap.size) (o := .cells #[.int .i64 0, .int .i64 0, .string ⟨#[]⟩, .string ⟨#[]⟩] 48) (by first | exact old_blkP (old_blkP (old_blkP (at_blkP _ _ _ (by simp)))) | exact old_blkP (old_blkP (at_blkP _ _ _ (by simp)))) (fun h => by have := hS _ h; omega)
    obtain ⟨r0, r1, r2, r3, y0, y1, y2, y3, r8⟩ := four_cells hres
    have HRR := Lib.hid (resP_four r0 r1 r2 r3)
    have HE := Lib.hid (ext_chg (w := w) (by repeat' (first | exact Ext.refl _ | refine Ext.drew ?_ | refine Ext.alloc ?_ _)) ch (fun i hi => Nat.le_of_lt (hS i hi)))
    clear ho ch hres
    go_wp2
    have hr := HRR.out
    refine bodyPost_ret (v := .agg #[.int .i64 (cutO o), .int .i64 (numO o), .string (lowO o), .string (highO o)]) (by simp [results, Try.results30, go_sem, hr]) rfl ?_
    refine RetE.mk (by rw [HP.out]) ?_
    exact (((HE.out.setCell (Nat.le_refl _) _).setCell (Nat.le_refl _) _).setCell (Nat.le_refl _) _).setCell (Nat.le_refl _) _
/-- a pair of numbers in their ranges -/
def okP (L lap : Int) : Bool := inB L 1 80 && inB lap 1 4
noncomputable def pairC (L lap : Int) : Int := if okP L lap then (if (pairO L lap).isSome then 0 else 3) else 2
noncomputable def pairN (L lap : Int) : Int := if pairC L lap = 0 then cutO (pairO L lap) else 0
noncomputable def pairT (L lap : Int) : ByteArray := if pairC L lap = 0 then lowO (pairO L lap) else ByteArray.empty
noncomputable def pairU (L lap : Int) : ByteArray := if pairC L lap = 0 then highO (pairO L lap) else ByteArray.empty
theorem okP_iff {L lap : Int} : okP L lap = true ↔ 1 ≤ L ∧ L ≤ 80 ∧ 1 ≤ lap ∧ lap ≤ 4 := by
  unfold okP
  rw [Bool.and_eq_true, inB_iff, inB_iff]
  omega
theorem cutO_some {L lap : Int} {x : PR} (hx : pairO L lap = some x) : 0 ≤ cutO (pairO L lap) := by rw [hx]; exact pcN_nonneg x
def RetTTC (s t : ByteArray) (c : Int) (w : World) (e : Ending) (w' : World) : Prop := e = .returned (.tuple #[.string s, .string t, .int .i64 c]) ∧ Ext w w'
theorem RetTTC.mk {s t s' t' : ByteArray} {c c' : Int} {w w' : World} (h : s' = s) (k : t' = t) (l : c' = c) (e : Ext w w') : RetTTC s t c w (.returned (.tuple #[.string s', .string t', .int .i64 c'])) w' := ⟨by rw [h, k, l], e⟩
set_option maxRecDepth 100000 in
set_option maxHeartbeats 1000000 in
theorem s_PairCuts (L lap : Int) (w : World) : Calls Try.prog 10 #[.int .i64 L, .int .i64 lap] w (PairE (pairN L lap) (pairC L lap) w) := by
  have H1 := Lib.hid (fun W => s_l08Lengths L lap W)
  by_cases g : okP L lap = true
  · obtain ⟨g1, g2, g3, g4⟩ := okP_iff.1 g
    rw [show (inB L 1 80 && inB lap 1 4) = true from g] at H1
    have hP := fun W => s_l08Pair L lap g1 g2 g3 g4 W
    cases ho : pairO L lap with
    | none =>
      have HC : Hid (pairC L lap = 3) := Lib.hid (by unfold pairC; rw [if_pos g, ho]; rfl)
      have HV : Hid (pairN L lap = 0) := Lib.hid (by unfold pairN; rw [if_neg (by rw [HC.out]; decide)])
      rw [ho] at hP
      have HP := Lib.hid hP
      have z1 : cutO none = -1 := rfl
      clear hP ho g
      go_enter Try.func10, Try.ntmps10
      go_wp2_with (first | (go_at_call 29; refine (H1.out _).mono ?_; rintro e w' ⟨rfl, rfl⟩) | (go_at_call 30; refine (HP.out _).mono ?_; rintro e w1 ⟨rfl, e1⟩))
      go_ret2
      refine PairE.mk HV.out.symm HC.out.symm ?_
      repeat' (first | exact e1 | exact Ext.refl _ | refine Ext.alloc ?_ _ | refine Ext.trans ?_ e1)
    | some x =>
      have HC : Hid (pairC L lap = 0) := Lib.hid (by unfold pairC; rw [if_pos g, ho]; rfl)
      have HV : Hid (pairN L lap = cutO (some x)) := Lib.hid (by unfold pairN; rw [if_pos HC.out, ho])
      have hn := cutO_some ho
      rw [ho] at hP hn
      obtain ⟨c, hc⟩ : ∃ c, cutO (some x) = c := ⟨_, rfl⟩
      rw [hc] at hP hn HV
      have HP := Lib.hid hP
      clear hP ho g hc
      go_enter Try.func10, Try.ntmps10
      go_wp2_with (first | (go_at_call 29; refine (H1.out _).mono ?_; rintro e w' ⟨rfl, rfl⟩) | (go_at_call 30; refine (HP.out _).mono ?_; rintro e w1 ⟨rfl, e1⟩))
      go_ret2
      refine PairE.mk HV.out.symm HC.out.symm ?_
      repeat' (first | exact e1 | exact Ext.refl _ | refine Ext.alloc ?_ _ | refine Ext.trans ?_ e1)
  · rw [Bool.not_eq_true] at g
    rw [show (inB L 1 80 && inB lap 1 4) = false from g] at H1
    have HC : Hid (pairC L lap = 2) := Lib.hid (by unfold pairC; rw [g]; rfl)
    have HV : Hid (pairN L lap = 0) := Lib.hid (by unfold pairN; rw [if_neg (by rw [HC.out]; decide)])
    clear g
    go_enter Try.func10, Try.ntmps10
    go_wp2_with (go_at_call 29; refine (H1.out _).mono ?_; rintro e w' ⟨rfl, rfl⟩)
    go_ret2
    exact PairE.mk HV.out.symm HC.out.symm (Ext.refl _)
set_option maxRecDepth 100000 in
set_option maxHeartbeats 1000000 in
theorem s_BestPair (L lap : Int) (w : World) : Calls Try.prog 8 #[.int .i64 L, .int .i64 lap] w (RetTTC (pairT L lap) (pairU L lap) (pairC L lap) w) := by
  have H1 := Lib.hid (fun W => s_l08Lengths L lap W)
  by_cases g : okP L lap = true
  · obtain ⟨g1, g2, g3, g4⟩ := okP_iff.1 g
    rw [show (inB L 1 80 && inB lap 1 4) = true from g] at H1
    have hP := fun W => s_l08Pair L lap g1 g2 g3 g4 W
    cases ho : pairO L lap with
    | none =>
      have HC : Hid (pairC L lap = 3) := Lib.hid (by unfold pairC; rw [if_pos g, ho]; rfl)
      have HV : Hid (pairT L lap = ⟨#[]⟩) := Lib.hid (by unfold pairT; rw [if_neg (by rw [HC.out]; decide)]; rfl)
      have HU : Hid (pairU L lap = ⟨#[]⟩) := Lib.hid (by unfold pairU; rw [if_neg (by rw [HC.out]; decide)]; rfl)
      rw [ho] at hP
      have HP := Lib.hid hP
      have z1 : cutO none = -1 := rfl
      clear hP ho g
      go_enter Try.func8, Try.ntmps8
      go_wp2_with (first | (go_at_call 29; refine (H1.out _).mono ?_; rintro e w' ⟨rfl, rfl⟩) | (go_at_call 30; refine (HP.out _).mono ?_; rintro e w1 ⟨rfl, e1⟩))
      go_ret3
      refine RetTTC.mk HV.out.symm HU.out.symm HC.out.symm ?_
      repeat' (first | exact e1 | exact Ext.refl _ | refine Ext.alloc ?_ _ | refine Ext.trans ?_ e1)
    | some x =>
      have HC : Hid (pairC L lap = 0) := Lib.hid (by unfold pairC; rw [if_pos g, ho]; rfl)
      have HV : Hid (pairT L lap = lowO (some x)) := Lib.hid (by unfold pairT; rw [if_pos HC.out, ho])
      have HU : Hid (pairU L lap = highO (some x)) := Lib.hid (by unfold pairU; rw [if_pos HC.out, ho])
      have hn := cutO_some ho
      rw [ho] at hP hn
      obtain ⟨c, hc⟩ : ∃ c, cutO (some x) = c := ⟨_, rfl⟩
      rw [hc] at hP hn
      have HP := Lib.hid hP
      clear hP ho g hc
      go_enter Try.func8, Try.ntmps8
      go_wp2_with (first | (go_at_call 29; refine (H1.out _).mono ?_; rintro e w' ⟨rfl, rfl⟩) | (go_at_call 30; refine (HP.out _).mono ?_; rintro e w1 ⟨rfl, e1⟩))
      go_quiet (fail)
      go_wp2
      go_ret3
      refine RetTTC.mk HV.out.symm HU.out.symm HC.out.symm ?_
      repeat' (first | exact e1 | exact Ext.refl _ | refine Ext.drewN ?_ _ | refine Ext.alloc ?_ _ | refine Ext.trans ?_ e1)
  · rw [Bool.not_eq_true] at g
    rw [show (inB L 1 80 && inB lap 1 4) = false from g] at H1
    have HC : Hid (pairC L lap = 2) := Lib.hid (by unfold pairC; rw [g]; rfl)
    have HV : Hid (pairT L lap = ⟨#[]⟩) := Lib.hid (by unfold pairT; rw [if_neg (by rw [HC.out]; decide)]; rfl)
    have HU : Hid (pairU L lap = ⟨#[]⟩) := Lib.hid (by unfold pairU; rw [if_neg (by rw [HC.out]; decide)]; rfl)
    clear g
    go_enter Try.func8, Try.ntmps8
    go_wp2_with (go_at_call 29; refine (H1.out _).mono ?_; rintro e w' ⟨rfl, rfl⟩)
    go_ret3
    exact RetTTC.mk HV.out.symm HU.out.symm HC.out.symm (Ext.refl _)
end Go.Proofs.Ytciamgnfbhijlaa
