/- The lines of a front: rows of bytes that came from a text, and contracts of both sides. -/
import Derived.Test.YtnhmcmohnpbcjaaGaPart
import Derived.Test.YtnhmcmohnpbcjaaGaFn
import Derived.Test.YtnhmcmohnpbcjaaGaStrs
import Derived.Test.YtnhmcmohnpbcjaaShRep
import Derived.Laws.IdiomStrings
import Derived.Lib.Repeat
namespace Go.Proofs.Ytnhmcmohnpbcjaa
open Go.RowKit
set_option linter.unusedSimpArgs false
set_option linter.unusedVariables false
set_option linter.unnecessarySimpa false

/-! ### a row of bytes that a text was turned into -/
/-- block g holds the bytes l ahead of whatever else; none of them is marked -/
def ByteRow (w : World) (g : Nat) (l : List UInt8) : Prop := ∃ (arr : Array Value) (m : Nat), w.heap[g]? = some (.cells arr 5 (m, m + 1)) ∧ l.length ≤ m ∧ l.length ≤ arr.size ∧ ∀ j (hj : j < l.length), arr[j]? = some (u8V l[j])
theorem ByteRow.lt {w : World} {g : Nat} {l : List UInt8} (h : ByteRow w g l) : g < w.heap.size := let ⟨_, _, h, _⟩ := h; lt_of_block h
theorem ByteRow.ext {w w' : World} {g : Nat} {l : List UInt8} (h : ByteRow w g l) (e : Ext w w') : ByteRow w' g l := let ⟨a, m, h1, h2⟩ := h; ⟨a, m, e.block h1, h2⟩
theorem ByteRow.cell {w : World} {g : Nat} {l : List UInt8} (h : ByteRow w g l) {j : Nat} (hj : j < l.length) : w.cell? ⟨g, j, none⟩ = some (u8V l[j]) ∧ w.frozen? ⟨g, j, none⟩ = false := by
  obtain ⟨arr, m, h1, h2, h3, h4⟩ := h
  refine ⟨?_, ?_⟩
  · simp [World.cell?, h1, h4 j hj]
  · unfold World.frozen?
    rw [h1]
    have : ¬ m ≤ j := by omega
    simp [this]
theorem ByteRow.set {w : World} {g : Nat} {l : List UInt8} (h : ByteRow w g l) {j : Nat} (b : UInt8) (hj : j < l.length) : ByteRow (w.setCell ⟨g, j, none⟩ (u8V b)) g (l.set j b) := by
  obtain ⟨arr, m, h1, h2, h3, h4⟩ := h
  refine ⟨arr.setIfInBounds j (u8V b), m, ?_, by simpa using h2, by simpa using h3, fun i hi => ?_⟩
  · have hb := (Array.getElem?_eq_some_iff.1 h1)
    obtain ⟨hlt, hb⟩ := hb
    simp [World.setCell, hb, Array.getElem?_modify, h1]
  · rw [List.length_set] at hi
    by_cases e : j = i
    · subst e
      rw [Array.getElem?_setIfInBounds_self_of_lt (by omega)]
      simp
    · rw [Array.getElem?_setIfInBounds_ne e, h4 i hi]
      simp [List.getElem_set_ne e]
theorem ByteRow.setOther {w : World} {g : Nat} {l : List UInt8} (h : ByteRow w g l) {k : Nat} (i : Nat) (v : Value) (hk : g ≠ k) : ByteRow (w.setCell ⟨k, i, none⟩ v) g l := by
  obtain ⟨arr, m, h1, h2⟩ := h
  exact ⟨arr, m, (Below.heap_setCell _ _ _ _ (fun e => hk e)).trans h1, h2⟩
theorem ByteRow.text {w : World} {g cap : Nat} {l : List UInt8} (h : ByteRow w g l) : (convert 39 9 (.slice (some ⟨g, 0, none⟩) l.length cap)).run Try.prog w = .ok (.string (mkS l)) w :=
  run_convert_bytes_back (P := Try.prog) w 39 9 5 ⟨g, 0, none⟩ cap l Try.underlying39 Try.underlying5 Try.underlying9 (fun j hj => by
    rw [Addr.add_lit, Nat.zero_add]
    exact (h.cell hj).1)
theorem bytes_of (w : World) (l : List UInt8) : ∃ g cap W, (convert 9 39 (.string (mkS l))).run Try.prog w = .ok (.slice (some ⟨g, 0, none⟩) l.length cap) W ∧ ByteRow W g l ∧ Ext w W ∧ w.heap.size ≤ g := by
  have hr := run_bytes_of_string (P := Try.prog) w 9 39 5 (mkS l) Try.underlying9 Try.underlying39 Try.underlying5
  rw [mkS_size] at hr
  refine ⟨_, _, _, hr, ⟨_, _, heap_alloc_new w.drew _, ?_, ?_, fun j hj => ?_⟩, (Ext.refl w).drew.alloc _, Nat.le_refl _⟩
  · simp [bytesRow, mkS]
  · simp [bytesRow, mkS]
  · have hs : j < (mkS l).data.size := by simpa [mkS] using hj
    rw [bytesRow_at (mkS l) _ j hs, bts_mkS, List.getD_eq_getElem?_getD, List.getElem?_eq_getElem hj]
    rfl
/-! ### painting -/
def rowF (N : Nat) (f : Int → Bool) : List UInt8 := (List.range N).map fun (a : Nat) => if f (a : Int) then 35 else 46
theorem rowF_len (N : Nat) (f : Int → Bool) : (rowF N f).length = N := by simp [rowF]
theorem rowF_congr {N : Nat} {f h : Int → Bool} (e : ∀ a : Nat, a < N → f a = h a) : rowF N f = rowF N h := by
  unfold rowF
  apply List.map_congr_left
  intro a ha
  rw [e a (List.mem_range.1 ha)]
theorem rowF_none (N : Nat) : rowF N (fun _ => false) = List.replicate N 46 := by
  unfold rowF
  simp [List.map_const']
theorem rowF_set (N : Nat) (f : Int → Bool) (j : Nat) : (rowF N f).set j 35 = rowF N (fun a => f a || a == (j : Int)) := by
  apply List.ext_getElem?
  intro i
  by_cases hi : i < N
  · by_cases e : j = i
    · subst e
      rw [List.getElem?_set_self (by rw [rowF_len]; exact hi)]
      unfold rowF
      rw [List.getElem?_map, List.getElem?_range hi]
      simp
    · rw [List.getElem?_set_ne e]
      unfold rowF
      rw [List.getElem?_map, List.getElem?_map, List.getElem?_range hi]
      have e3 : ¬ (i : Int) = (j : Int) := by omega
      simp [e3]
  · rw [List.getElem?_eq_none (by rw [List.length_set, rowF_len]; omega), List.getElem?_eq_none (by rw [rowF_len]; omega)]
def covB (ps : List (Int × Int)) (a : Int) : Bool := ps.any fun q => decide (q.1 ≤ a) && decide (a < q.2)
theorem covB_snoc (ps : List (Int × Int)) (q : Int × Int) (a : Int) : covB (ps ++ [q]) a = (covB ps a || (decide (q.1 ≤ a) && decide (a < q.2))) := by
  unfold covB
  rw [List.any_append]; simp
/-- what has been painted when the part (x, y) has been painted up to i -/
def upB (ps : List (Int × Int)) (x i : Int) (a : Int) : Bool := covB ps a || (decide (x ≤ a) && decide (a < i))
theorem line_of {L C c : Int} {N : Nat} {os : List Opn} (hN : L = N) (h : okTo L C os os.length = true) : rowF N (covB (partsI L c os)) = lineB N os c := by
  unfold rowF lineB
  apply List.map_congr_left
  intro a ha
  have ha' := List.mem_range.1 ha
  have hc := partsFrom_cover (os.filter (inC c)) 0 L (segs_of (by omega) h) a (by omega) (by omega)
  have ho := opnAt_iff os a c
  rw [partsI_from]
  have h1 : covB (partsFrom (os.filter (inC c)) 0 L) a = !(opnAt os a c) := by
    rw [Bool.eq_iff_iff]
    unfold covB
    rw [List.any_eq_true]
    simp only [Bool.and_eq_true, decide_eq_true_eq, Bool.not_eq_true', ← Bool.not_eq_true]
    rw [hc, ho]
  rw [h1]
  cases opnAt os a c <;> rfl
/-! ### the lines -/
def linesT (N : Nat) (C : Int) (os : List Opn) : Nat → List ByteArray
  | 0 => []
  | j + 1 => linesT N C os j ++ [mkS (lineB N os (C - 1 - j))]
theorem linesT_len (N : Nat) (C : Int) (os : List Opn) (j : Nat) : (linesT N C os j).length = j := by induction j with | zero => rfl | succ j ih => simp [linesT, ih]
def linesF (L C : Int) (os : List Opn) : List ByteArray := if validF L C os then linesT L.toNat C os C.toNat else []
theorem linesF_len (L C : Int) (os : List Opn) : (linesF L C os).length ≤ 40 := by
  unfold linesF
  split
  · rename_i h
    have := validF_bd h
    rw [linesT_len]; omega
  · simp
theorem line_size (N : Nat) (os : List Opn) (c : Int) : (mkS (lineB N os c)).size = N := by rw [mkS_size, lineB_len]
set_option maxRecDepth 100000 in
set_option maxHeartbeats 2000000 in
theorem s_FrontLines (L C : Int) (ao : Option Addr) (n c : Nat) (os : List Opn) (w : World) (hx : Opens w ao n os) :
    Calls Try.prog 24 #[.agg #[.int .i64 L, .int .i64 C, .slice ao n c]] w (RetStrsC (linesF L C os) (sel (validF L C os) 0 1) w) := by
  have HE : Hid (Ext w (w.alloc (.cells #[.int .i64 L, .int .i64 C, .slice ao n c] 30))) := Lib.hid ((Ext.refl w).alloc _)
  have A : Three (w.alloc (.cells #[.int .i64 L, .int .i64 C, .slice ao n c] 30)) w.heap.size (.int .i64 L) (.int .i64 C) (.slice ao n c) := Three.new w _ _ _ _
  have H1 := Lib.hid (s_l09Ok w.heap.size L C ao n c os _ A (hx.ext HE.out))
  cases hv : validF L C os with
  | true =>
    obtain ⟨⟨l1, l2⟩, ⟨c1, c2⟩, n8, hok⟩ := validF_bd hv
    have HO := Lib.hid (fun W (e : Ext (w.alloc (.cells #[.int .i64 L, .int .i64 C, .slice ao n c] 30)) W) a q => s_l09Open w.heap.size L C ao n c os a q W (A.ext e) (hx.ext (HE.out.trans e)) l2 c2 hok)
    obtain ⟨M, rfl⟩ : ∃ M : Nat, C = M := ⟨C.toNat, by omega⟩
    obtain ⟨N, rfl⟩ : ∃ N : Nat, L = N := ⟨L.toNat, by omega⟩
    have HF : Hid (linesF N M os = linesT N M os M) := Lib.hid (by unfold linesF; rw [if_pos hv, Int.toNat_natCast, Int.toNat_natCast])
    rw [hv] at H1
    clear hv hok hx
    go_enter Try.func24, Try.ntmps24
    go_wp2_with (go_at_call 46; refine (H1.out).mono ?_; rintro e w1 ⟨rfl, e1⟩; replace A := A.ext e1)
    have HW1 := Lib.hid e1
    clear e1
    go_loopw [4, 5] (fun v i wr => ∃ j : Nat, j ≤ M ∧ i = .int .i64 ((M : Int) - 1 - j) ∧ Hid (OwnStrs wr w1.heap.size v (linesT N M os j)) ∧ Ext w1 wr) (fun _ i _ => (intOf i + 1).toNat)
    case atStart => exact ⟨0, Nat.zero_le _, by go_num, Lib.hid (OwnStrs.empty (Ext.refl _)), (Ext.refl _).alloc _⟩
    case round =>
      obtain ⟨j, hj, rfl, HR, er⟩ := hrel
      replace A := A.ext er
      have HER := Lib.hid er
      by_cases hlt : j < M
      · have h0 : (0 : Int) ≤ (M : Int) - 1 - j := by omega
        have HSU : Hid (linesT N M os (j + 1) = linesT N M os j ++ [mkS (lineB N os ((M : Int) - 1 - j))]) := Lib.hid rfl
        have HLN : Hid ((linesT N M os j).length ≤ 10000000) := Lib.hid (by rw [linesT_len]; omega)
        have HZS : Hid ((mkS (lineB N os ((M : Int) - 1 - j))).size ≤ 9223372036854775807) := Lib.hid (by rw [line_size]; omega)
        have HQ := Lib.hid (fun W (e : Ext w1 W) a => HO.out W (HW1.out.trans e) a ((M : Int) - 1 - j))
        have HLB : Hid (∀ k, lineB (k + 1) os ((M : Int) - 1 - j) = lineB k os ((M : Int) - 1 - j) ++ [if opnAt os (k : Int) ((M : Int) - 1 - j) then 46 else 35]) := Lib.hid (fun k => lineB_succ k os _)
        have HLL := Lib.hid (fun k => lineB_len k os ((M : Int) - 1 - j))
        obtain ⟨q, hq⟩ : ∃ q : Int, (M : Int) - 1 - j = q := ⟨_, rfl⟩
        rw [hq] at HSU HZS HQ HLB HLL
        have hqm : (M : Int) - 1 - ((j + 1 : Nat) : Int) = q - 1 := by omega
        have HQM := Lib.hid hqm
        have hq0 : 0 ≤ q := by omega
        have hq1 : q ≤ 40 := by omega
        have HQQ := Lib.hid hq
        rw [hq]
        clear hqm er hq h0
        go_wp2
        obtain ⟨wo, rfl⟩ : ∃ wo : World, wo = wr := ⟨_, rfl⟩
        go_loopw [6, 7] (fun v i wi => ∃ k : Nat, k ≤ N ∧ i = .int .i64 k ∧ Hid (OwnB wi wo.heap.size v (lineB k os q)) ∧ Ext wo wi) (fun _ i _ => N - (intOf i).toNat)
        case atStart => exact ⟨0, Nat.zero_le _, rfl, Lib.hid (OwnB.empty (Ext.refl _)), (Ext.refl _).alloc _⟩
        case round =>
          obtain ⟨k, hk, rfl, HL, ei⟩ := hrel
          replace A := A.ext ei
          have HEI := Lib.hid ei
          have HK := Lib.hid (HQ.out _ (HER.out.trans ei) (k : Int))
          have hll := HLL.out k
          have HLen : Hid ((lineB k os q).length ≤ 10000000) := Lib.hid (by omega)
          clear hll
          by_cases hlt2 : k < N
          · have hn := HLB.out k
            obtain ⟨b, hb⟩ : ∃ b, opnAt os (k : Int) q = b := ⟨_, rfl⟩
            rw [hb] at hn HK
            clear hb ei
            cases b with
            | true =>
              have HN : Hid (lineB (k + 1) os q = lineB k os q ++ [46]) := Lib.hid hn
              clear hn
              go_wp2_with (first | (go_at_call 68; refine HK.out.mono ?_; rintro e w3 ⟨rfl, e3⟩) | (at_builtin; refine wpList_append_u8 rfl _ _ rfl _ _ 46 rfl rfl rfl (HL.out.ext e3) (HEI.out.trans e3) HLen.out ?_))
              intro v' w4 ho4 e4
              have HO4 : Hid (OwnB w4 wo.heap.size v' (lineB (k + 1) os q)) := Lib.hid (by rw [HN.out]; exact ho4)
              clear ho4
              go_wp2
              go_roundw
              case rel => first | exact ⟨k + 1, by omega, by go_num, HO4, e4⟩ | ((repeat apply Exists.intro); exact ⟨⟨k + 1, by omega, by go_num, HO4, e4⟩, rfl⟩)
              case measure => (simp [intOf] <;> omega)
            | false =>
              have HN : Hid (lineB (k + 1) os q = lineB k os q ++ [35]) := Lib.hid hn
              clear hn
              go_wp2_with (first | (go_at_call 68; refine HK.out.mono ?_; rintro e w3 ⟨rfl, e3⟩) | (at_builtin; refine wpList_append_u8 rfl _ _ rfl _ _ 35 rfl rfl rfl (HL.out.ext e3) (HEI.out.trans e3) HLen.out ?_))
              intro v' w4 ho4 e4
              have HO4 : Hid (OwnB w4 wo.heap.size v' (lineB (k + 1) os q)) := Lib.hid (by rw [HN.out]; exact ho4)
              clear ho4
              go_wp2
              go_roundw
              case rel => first | exact ⟨k + 1, by omega, by go_num, HO4, e4⟩ | ((repeat apply Exists.intro); exact ⟨⟨k + 1, by omega, by go_num, HO4, e4⟩, rfl⟩)
              case measure => (simp [intOf] <;> omega)
          · obtain rfl : k = N := by omega
            have htx := HL.out.text (by intro h; have h2 := HLL.out k; rw [h, List.length_nil] at h2; omega)
            obtain ⟨z, hz⟩ : ∃ z, mkS (lineB k os q) = z := ⟨_, rfl⟩
            rw [hz] at htx HZS HSU
            have HR2 := Lib.hid (HR.out.ext ei)
            have HEW := Lib.hid (HER.out.trans ei)
            clear hz HK HLen ei
            go_wp2_with (at_builtin; refine wpList_append_str (W := w1) rfl _ _ rfl _ _ z rfl rfl rfl HR2.out HEW.out HZS.out HLN.out ?_)
            intro v' w5 ho5 e5
            have HO5 : Hid (OwnStrs w5 w1.heap.size v' (linesT k M os (j + 1))) := Lib.hid (by rw [HSU.out]; exact ho5)
            clear ho5
            go_wp2
            go_roundw
            case rel => first | exact ⟨j + 1, by omega, by rw [HQM.out], HO5, e5⟩ | ((repeat apply Exists.intro); exact ⟨⟨j + 1, by omega, by rw [HQM.out], HO5, e5⟩, rfl⟩)
            case measure => (simp [intOf] <;> omega)
      · obtain rfl : j = M := by omega
        have hneg : ¬ (0 : Int) ≤ (j : Int) - 1 - j := by omega
        go_wp2
        go_ret2
        exact RetStrsC.of_own (by rw [HF.out]; exact HR.out.mono (HE.out.trans HW1.out).size) ((HE.out.trans HW1.out).trans HER.out) rfl
  | false =>
    have HF : Hid (linesF L C os = []) := Lib.hid (by unfold linesF; rw [hv]; rfl)
    rw [hv] at H1
    clear hv
    go_enter Try.func24, Try.ntmps24
    go_wp2_with (go_at_call 46; refine (H1.out).mono ?_; rintro e w1 ⟨rfl, e1⟩)
    go_ret2
    exact RetStrsC.of_own (by rw [HF.out]; exact OwnStrs.nilv _ _) (HE.out.trans e1) rfl
end Go.Proofs.Ytnhmcmohnpbcjaa
