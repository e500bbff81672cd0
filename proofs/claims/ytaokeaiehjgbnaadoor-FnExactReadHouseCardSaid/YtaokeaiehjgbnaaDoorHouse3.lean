/- What makes a plan valid: both sides. -/
import Derived.Test.YtaokeaiehjgbnaaDoorHouse2
import Derived.Test.YtaokeaiehjgbnaaDoorBasic
import Derived.Lib.Bytealg
namespace Go.Proofs.YtaokeaiehjgbnaaDoor
open Go.RowKit
set_option linter.unusedSimpArgs false
set_option linter.unusedVariables false
set_option linter.unnecessarySimpa false

theorem validH_nlen {xs : List Int} (t : List UInt8) {n : Nat} (hn : xs.length = n) (h : inB (n : Int) 4 12 = false) : validH xs t = false := by unfold validH; rw [hn, h]; rfl
theorem validH_ntxt {xs : List Int} {t : List UInt8} (h : t.length ≠ xs.length) : validH xs t = false := by
  cases h1 : validH xs t
  · rfl
  · exact absurd (validH_bd h1).2.2.2.1 h
theorem validH_nside {xs : List Int} (t : List UInt8) {k : Nat} (hk : k < xs.length) (h : inB (xs.getD k 0) 8 200 = false) : validH xs t = false := by
  cases h1 : validH xs t
  · rfl
  · have := sides_at (validH_bd h1).2.2.1 k hk
    rw [inB_iff.2 this] at h
    exact absurd h (by decide)
theorem validH_nlet (xs : List Int) {t : List UInt8} {k : Nat} (hk : k < t.length) (h : lrB (t.getD k 0) = false) : validH xs t = false := by
  cases h1 : validH xs t
  · rfl
  · have h2 := List.all_eq_true.1 (validH_bd h1).2.2.2.2 t[k] (List.getElem_mem _)
    rw [List.getD_eq_getElem?_getD, List.getElem?_eq_getElem hk, Option.getD_some, h2] at h
    exact absurd h (by decide)
theorem all_of {α : Type} (d : α) {l : List α} {p : α → Bool} {n : Nat} (hn : l.length = n) (h : ∀ j, j < n → p (l.getD j d) = true) : l.all p = true := by
  rw [List.all_eq_true]
  intro x hx
  obtain ⟨i, hi, rfl⟩ := List.mem_iff_getElem.1 hx
  have := h i (by omega)
  rwa [List.getD_eq_getElem?_getD, List.getElem?_eq_getElem hi, Option.getD_some] at this
theorem validH_end {xs : List Int} {t : List UInt8} {n : Nat} (hn : xs.length = n) (ht : t.length = n) (h1 : inB (n : Int) 4 12 = true) (h : ∀ j, j < n → inB (xs.getD j 0) 8 200 = true ∧ lrB (t.getD j 0) = true) :
    validH xs t = (decide (turnN t n = 4) && (decide ((ptH xs t n).1 = 0) && decide ((ptH xs t n).2 = 0))) := by
  unfold validH
  rw [hn, h1, all_of 0 hn (fun j hj => (h j hj).1), all_of 0 ht (fun j hj => (h j hj).2), ht]
  have h2 : decide (2 * (cntL t : Int) = n + 4) = decide (turnN t n = 4) := by
    unfold turnN
    rw [List.take_of_length_le (by omega)]
    apply decide_eq_decide.2
    omega
  rw [h2]
  simp only [decide_true, Bool.true_and, ptH]
  rfl
theorem cntL_le (t : List UInt8) : cntL t ≤ t.length := List.count_le_length
theorem run_countS (s : ByteArray) (c : Int) (w : World) : (callFunc 85 #[.string s, .int .u8 c]).run Tryd.prog w = .ok (.value (.int .i64 (Lib.countByte (bts s) c.toNat.toUInt8 : Nat))) w := by
  rw [run_callFunc_extern Tryd.func85 (by kernel_rfl) (by kernel_rfl) (by kernel_rfl) (e := Extern.BytealgCount.count) (by kernel_rfl), Lib.run_countString]
  rfl
set_option maxRecDepth 100000 in
theorem f_CountL (s : ByteArray) (w : World) : Calls Tryd.prog 60 #[.string s, .string ⟨#[76]⟩] w (RetV (.int .i64 (cntL (bts s) : Nat)) w) := by
  have h0 := run_countS s 76 w
  rw [show (76 : Int).toNat.toUInt8 = 76 from by decide, show Lib.countByte (bts s) 76 = cntL (bts s) from rfl] at h0
  have hr : (callFunc 85 #[.string s, .int .u8 (((⟨#[76]⟩ : ByteArray)[0]'(by decide)).toNat : Int)]).run Tryd.prog w = .ok (.value (.int .i64 (cntL (bts s) : Nat))) w := h0
  clear h0
  go_enter Tryd.func60, Tryd.ntmps60
  go_wp2
  go_ret
  exact RetV.mk rfl
theorem i_onlyOf_LR (s : ByteArray) (hs : s.size ≤ 9223372036854775807) (w : World) : Calls Tryd.prog 59 #[.string s, .string ⟨#[76, 82]⟩] w (RetV (.bool ((bts s).all lrB)) w) := by
  have h := i_onlyOf s ⟨#[76, 82]⟩ hs w
  rw [show bts ⟨#[76, 82]⟩ = [76, 82] from rfl] at h
  rwa [show inL [76, 82] = lrB from funext inL_LR] at h
set_option maxRecDepth 100000 in
set_option maxHeartbeats 2000000 in
theorem i_ValidHouse (ao : Option Addr) (n c : Nat) (xs : List Int) (s : ByteArray) (w : World) (hx : Ints w ao n xs) (hs : s.size ≤ 9223372036854775807) :
    Calls Tryd.prog 32 #[.agg #[.slice ao n c, .string s]] w (RetE (.bool (validH xs (bts s))) w) := by
  have hxm := hx.2.1
  have hv : validH xs (bts s) = (inB n 4 12 && (!(xs.any fun x => !inB x 8 200) && (decide (s.size = n) && ((bts s).all lrB && (decide (2 * (cntL (bts s) : Int) = n + 4) && (decide ((ptH xs (bts s) n).1 = 0) && decide ((ptH xs (bts s) n).2 = 0))))))) := by
    unfold validH
    rw [bts_length, hx.1]
    have h1 : (!(xs.any fun x => !inB x 8 200)) = (xs.all fun x => inB x 8 200) := by rw [List.not_any_eq_all_not]; simp
    rw [h1]
    rfl
  have HV := Lib.hid hv
  have e0 : Ext w (w.alloc (.cells #[.slice ao n c, .string s] 27)) := (Ext.refl w).alloc _
  have HX := Lib.hid hx
  have HX0 := Lib.hid (hx.ext e0)
  have HL := Lib.hid hx.1
  obtain ⟨m, hm⟩ : ∃ m, cntL (bts s) = m := ⟨_, rfl⟩
  have hmn : m ≤ s.size := by have := cntL_le (bts s); rw [hm, bts_length] at this; exact this
  clear hx hv
  obtain ⟨b1, g1⟩ : ∃ b, inB (n : Int) 4 12 = b := ⟨_, rfl⟩
  obtain ⟨b2, g2⟩ : ∃ b, (xs.any fun x => !inB x 8 200) = b := ⟨_, rfl⟩
  obtain ⟨b4, g4⟩ : ∃ b, (bts s).all lrB = b := ⟨_, rfl⟩
  cases b1
  · go_enter Tryd.func32, Tryd.ntmps32
    go_wp2_with (first | (go_at_call 47; refine (i_within _ _ _ _).mono ?_; rw [g1]; rintro e w' ⟨rfl, rfl⟩))
    go_ret
    exact RetE.mk (bool_eq (by rw [HV.out, g1]; rfl)) e0
  · have ⟨h1, h2⟩ := inB_iff.1 g1
    cases b2
    case true =>
      go_enter Tryd.func32, Tryd.ntmps32
      go_wp2_with (first | (go_at_call 47; refine (i_within _ _ _ _).mono ?_; rw [g1]; rintro e w' ⟨rfl, rfl⟩) | (go_at_call 58; refine (i_outside _ _ _ _ _ _ _ HX0.out).mono ?_; rw [g2]; rintro e w1 ⟨rfl, e1⟩; obtain ⟨p0, p1, p2, p3, p4⟩ := two_cells (e1.block (heap_alloc_new w _)); have E1 := Lib.hid (e0.trans e1)))
      go_ret
      exact RetE.mk (bool_eq (by rw [HV.out, g1, g2]; rfl)) E1.out
    case false =>
      have HBX : Hid (∀ x ∈ xs, 8 ≤ x ∧ x ≤ 200) := Lib.hid (fun x hx => by have := List.any_eq_false.1 g2 x hx; simp only [Bool.not_eq_true', Bool.not_eq_false] at this; exact inB_iff.1 this)
      by_cases g3 : s.size = n
      case neg =>
        go_enter Tryd.func32, Tryd.ntmps32
        go_wp2_with (first | (go_at_call 47; refine (i_within _ _ _ _).mono ?_; rw [g1]; rintro e w' ⟨rfl, rfl⟩) | (go_at_call 58; refine (i_outside _ _ _ _ _ _ _ HX0.out).mono ?_; rw [g2]; rintro e w1 ⟨rfl, e1⟩; obtain ⟨p0, p1, p2, p3, p4⟩ := two_cells (e1.block (heap_alloc_new w _)); have E1 := Lib.hid (e0.trans e1)))
        go_ret
        exact RetE.mk (bool_eq (by rw [HV.out, g1, g2, decide_eq_false g3]; rfl)) E1.out
      case pos =>
        cases b4
        case false =>
          go_enter Tryd.func32, Tryd.ntmps32
          go_wp2_with (first | (go_at_call 47; refine (i_within _ _ _ _).mono ?_; rw [g1]; rintro e w' ⟨rfl, rfl⟩) | (go_at_call 58; refine (i_outside _ _ _ _ _ _ _ HX0.out).mono ?_; rw [g2]; rintro e w1 ⟨rfl, e1⟩; obtain ⟨p0, p1, p2, p3, p4⟩ := two_cells (e1.block (heap_alloc_new w _)); have E1 := Lib.hid (e0.trans e1)) | (go_at_call 59; refine (i_onlyOf_LR _ hs _).mono ?_; rw [g4]; rintro e w' ⟨rfl, rfl⟩))
          go_ret
          exact RetE.mk (bool_eq (by rw [HV.out, g1, g2, g4, decide_eq_true g3]; rfl)) E1.out
        case true =>
          by_cases g5 : 2 * (m : Int) = n + 4
          case neg =>
            go_enter Tryd.func32, Tryd.ntmps32
            go_wp2_with (first | (go_at_call 47; refine (i_within _ _ _ _).mono ?_; rw [g1]; rintro e w' ⟨rfl, rfl⟩) | (go_at_call 58; refine (i_outside _ _ _ _ _ _ _ HX0.out).mono ?_; rw [g2]; rintro e w1 ⟨rfl, e1⟩; obtain ⟨p0, p1, p2, p3, p4⟩ := two_cells (e1.block (heap_alloc_new w _)); have E1 := Lib.hid (e0.trans e1)) | (go_at_call 59; refine (i_onlyOf_LR _ hs _).mono ?_; rw [g4]; rintro e w' ⟨rfl, rfl⟩) | (go_at_call 60; refine (f_CountL _ _).mono ?_; rw [hm]; rintro e w' ⟨rfl, rfl⟩))
            go_ret
            exact RetE.mk (bool_eq (by rw [HV.out, g1, g2, g4, hm, decide_eq_false g5, decide_eq_true g3]; rfl)) E1.out
          case pos =>
            go_enter Tryd.func32, Tryd.ntmps32
            go_wp2_with (first | (go_at_call 47; refine (i_within _ _ _ _).mono ?_; rw [g1]; rintro e w' ⟨rfl, rfl⟩) | (go_at_call 58; refine (i_outside _ _ _ _ _ _ _ HX0.out).mono ?_; rw [g2]; rintro e w1 ⟨rfl, e1⟩; obtain ⟨p0, p1, p2, p3, p4⟩ := two_cells (e1.block (heap_alloc_new w _)); have E1 := Lib.hid (e0.trans e1)) | (go_at_call 59; refine (i_onlyOf_LR _ hs _).mono ?_; rw [g4]; rintro e w' ⟨rfl, rfl⟩) | (go_at_call 60; refine (f_CountL _ _).mono ?_; rw [hm]; rintro e w' ⟨rfl, rfl⟩) | (go_at_call 61; refine (i_corners _ _ _ _ _ _ (HX.out.ext E1.out) g3 (by omega) HBX.out).mono ?_; rintro e w2 ⟨a2, c2, rfl, o2, e2⟩; rw [ptsH_len] at o2 ⊢; obtain ⟨pg, pi, rfl, d1, d2, d3⟩ := o2.pts.2 n (by omega); unfold slV at d1; rw [ptsH_at _ _ _ _ (Nat.le_refl _)] at d2 d3; obtain ⟨X, hX⟩ : ∃ X, (ptH xs (bts s) n).1 = X := ⟨_, rfl⟩; obtain ⟨Y, hY⟩ : ∃ Y, (ptH xs (bts s) n).2 = Y := ⟨_, rfl⟩; rw [hX] at d2; rw [hY] at d3; have E2 := Lib.hid (E1.out.trans e2); clear o2))
            all_goals
              go_ret
              exact RetE.mk (bool_eq (by rw [HV.out, g1, g2, g4, hm, decide_eq_true g5, decide_eq_true g3, hX, hY]; first | (simp; done) | (simp_all; done) | (by_cases hX0 : X = 0 <;> by_cases hY0 : Y = 0 <;> simp [hX0, hY0] <;> done) | (by_cases hX0 : X = 0 <;> by_cases hY0 : Y = 0 <;> simp_all))) E2.out
end Go.Proofs.YtaokeaiehjgbnaaDoor
