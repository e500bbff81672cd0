/- A group of texts, one behind the other: FrontL, FrontO. -/
import Derived.Test.YtnhmcmohnpbcjaaGaFv
import Derived.Test.YtnhmcmohnpbcjaaRecs
/- Lintels: the first two openings whose lintels clash, both sides. -/
namespace Go.Proofs.Ytnhmcmohnpbcjaa
open Go.RowKit
set_option linter.unusedSimpArgs false
set_option linter.unusedVariables false
set_option linter.unnecessarySimpa false

def clB (b : Int) (x y : Opn) : Bool := decide (x.hi = y.hi) && (decide (x.fr - b < y.en + b) && decide (y.fr - b < x.en + b))
def clK (b : Int) (os : List Opn) (i : Nat) : Option Nat := (List.range os.length).find? fun k => decide (i < k) && clB b (os.getD i default) (os.getD k default)
def clI (b : Int) (os : List Opn) : Option Nat := (List.range os.length).find? fun i => (clK b os i).isSome
theorem find_hit {n i : Nat} {p : Nat → Bool} (hi : i < n) (h : p i = true) (hn : ∀ j, j < i → p j = false) : (List.range n).find? p = some i := by
  rw [List.find?_range_eq_some]
  exact ⟨h, by simpa using hi, fun j hj => by simp [hn j hj]⟩
theorem find_miss {n : Nat} {p : Nat → Bool} (hn : ∀ j, j < n → p j = false) : (List.range n).find? p = none := by
  rw [List.find?_range_eq_none]
  exact fun j hj => by simp [hn j hj]
def lnC (L C b : Int) (os : List Opn) : Int := if validF L C os then (if inB b 0 20 then (if (clI b os).isSome then 0 else 3) else 2) else 1
def lnA (L C b : Int) (os : List Opn) : Int := if lnC L C b os = 0 then (((clI b os).getD 0 : Nat) : Int) else 0
def lnB (L C b : Int) (os : List Opn) : Int := if lnC L C b os = 0 then (((clK b os ((clI b os).getD 0)).getD 0 : Nat) : Int) else 0
def lnV (L C b : Int) (os : List Opn) : Value := .tuple #[.int .i64 (lnA L C b os), .int .i64 (lnB L C b os), .int .i64 (lnC L C b os)]
theorem lnV_bad {L C b k : Int} {os : List Opn} (h : lnC L C b os = k) (hk : k ≠ 0) : Value.tuple #[.int .i64 0, .int .i64 0, .int .i64 k] = lnV L C b os := by
  unfold lnV lnA lnB
  rw [if_neg (by rw [h]; exact hk), if_neg (by rw [h]; exact hk), h]
theorem lnV_hit {L C b : Int} {os : List Opn} {i k : Nat} (hv : validF L C os = true) (hb : inB b 0 20 = true) (hi : clI b os = some i) (hk : clK b os i = some k) : Value.tuple #[.int .i64 i, .int .i64 k, .int .i64 0] = lnV L C b os := by
  have h : lnC L C b os = 0 := by unfold lnC; rw [if_pos hv, if_pos hb, hi]; rfl
  unfold lnV lnA lnB
  rw [if_pos h, if_pos h, h, hi]
  simp only [Option.getD_some]
  rw [hk]
  rfl
theorem lnC_none {L C b : Int} {os : List Opn} (hv : validF L C os = true) (hb : inB b 0 20 = true) (hi : clI b os = none) : lnC L C b os = 3 := by unfold lnC; rw [if_pos hv, if_pos hb, hi]; rfl
theorem three_cases (p q r : Prop) : (¬ p ∨ (p ∧ ¬ q) ∨ (p ∧ q ∧ ¬ r)) ∨ (p ∧ q ∧ r) := by
  by_cases p <;> by_cases q <;> by_cases r <;> simp [*]
/-- what the search knows: no clash up to the pair i, k -/
def NoUp (b : Int) (os : List Opn) (i k : Nat) : Prop := (∀ j, j < i → clK b os j = none) ∧ ∀ m, i < m → m < k → clB b (os.getD i default) (os.getD m default) = false
theorem NoUp.zero (b : Int) (os : List Opn) : NoUp b os 0 0 := ⟨fun j hj => by omega, fun m h1 h2 => by omega⟩
theorem NoUp.inner {b : Int} {os : List Opn} {i : Nat} (h : NoUp b os i 0) : NoUp b os i (i + 1) := ⟨h.1, fun m h1 h2 => by omega⟩
theorem NoUp.next {b : Int} {os : List Opn} {i k : Nat} (h : NoUp b os i k) (hc : clB b (os.getD i default) (os.getD k default) = false) : NoUp b os i (k + 1) := ⟨h.1, fun m h1 h2 => by
  by_cases e : m = k
  · rw [e]; exact hc
  · exact h.2 m h1 (by omega)⟩
theorem NoUp.outer {b : Int} {os : List Opn} {i k : Nat} (h : NoUp b os i k) (hk : os.length ≤ k) : NoUp b os (i + 1) 0 := ⟨fun j hj => by
  by_cases e : j = i
  · subst e
    exact find_miss fun m hm => by
      by_cases h2 : j < m
      · rw [h.2 m h2 (by omega), Bool.and_false]
      · simp [h2]
  · exact h.1 j (by omega), fun m h1 h2 => by omega⟩
theorem NoUp.hit {b : Int} {os : List Opn} {i k : Nat} (h : NoUp b os i k) (hik : i < k) (hk : k < os.length) (hc : clB b (os.getD i default) (os.getD k default) = true) : clI b os = some i ∧ clK b os i = some k := by
  have h1 : clK b os i = some k := find_hit hk (by simp only [hik, decide_true, Bool.true_and]; exact hc) fun j hj => by
    by_cases h2 : i < j
    · rw [h.2 j h2 hj, Bool.and_false]
    · simp [h2]
  refine ⟨find_hit (by omega) (by rw [h1]; rfl) fun j hj => ?_, h1⟩
  rw [h.1 j hj]; rfl
theorem NoUp.done {b : Int} {os : List Opn} (h : NoUp b os os.length 0) : clI b os = none := find_miss fun j hj => by rw [h.1 j hj]; rfl
theorem clB_bad {b : Int} {x y : Opn} (h : ¬ x.hi = y.hi ∨ (x.hi = y.hi ∧ ¬ x.fr - b < y.en + b) ∨ (x.hi = y.hi ∧ x.fr - b < y.en + b ∧ ¬ y.fr - b < x.en + b)) : clB b x y = false := by
  unfold clB
  rcases h with h | ⟨h1, h2⟩ | ⟨h1, h2, h3⟩
  · simp [h]
  · simp only [h1, h2, decide_true, decide_false, Bool.and_false, Bool.false_and]
  · simp only [h1, h2, h3, decide_true, decide_false, Bool.and_false]
theorem clB_good {b : Int} {x y : Opn} (h : x.hi = y.hi ∧ x.fr - b < y.en + b ∧ y.fr - b < x.en + b) : clB b x y = true := by
  unfold clB; simp only [h.1, h.2.1, h.2.2, decide_true, Bool.and_true]
set_option maxRecDepth 100000 in
set_option maxHeartbeats 4000000 in
theorem i_LintelClash (L C : Int) (ao : Option Addr) (n c : Nat) (os : List Opn) (b : Int) (w : World) (hx : Opens w ao n os) (hnc : n ≤ c) :
    Calls Try.prog 44 #[.agg #[.int .i64 L, .int .i64 C, .slice ao n c], .int .i64 b] w (RetE (lnV L C b os) w) := by
  have HE : Hid (Ext w (w.alloc (.cells #[.int .i64 L, .int .i64 C, .slice ao n c] 30))) := Lib.hid ((Ext.refl w).alloc _)
  have hxl := hx.1
  have hxm := hx.2.1
  have H1 := Lib.hid (fun W (e : Ext w W) => i_ValidFront L C ao n c os W (hx.ext e) hnc)
  by_cases hv : validF L C os = true
  · by_cases hb : inB b 0 20 = true
    · have ⟨b1, b2⟩ := inB_iff.1 hb
      obtain ⟨⟨l1, l2⟩, ⟨c1, c2⟩, n8, hok⟩ := validF_bd hv
      have HO := Lib.hid (fun k (h : k < os.length) => isOpn_iff.1 (okTo_opn hok h))
      have HHit := Lib.hid (fun i k hi hk => lnV_hit (i := i) (k := k) hv hb hi hk)
      have HNone := Lib.hid (fun hi => lnV_bad (lnC_none hv hb hi) (by decide))
      have HL := Lib.hid hxl
      have HX := Lib.hid hx
      have A : Three (w.alloc (.cells #[.int .i64 L, .int .i64 C, .slice ao n c] 30)) w.heap.size (.int .i64 L) (.int .i64 C) (.slice ao n c) := Three.new w _ _ _ _
      have HW := Lib.hid (fun W => i_within b 0 20 W)
      rw [hv] at H1
      rw [hb] at HW
      clear hv hb hok hx hxl
      go_enter Try.func44, Try.ntmps44
      go_wp2_with (first | (go_at_call 51; refine (H1.out _ HE.out).mono ?_; rintro e w1 ⟨rfl, e1⟩; replace A := A.ext e1) | (go_at_call 79; refine (HW.out _).mono ?_; rintro e w' ⟨rfl, rfl⟩))
      have HW1 := Lib.hid (HE.out.trans e1)
      clear e1
      go_loopw [22] (fun i wr => ∃ k : Nat, k ≤ n ∧ i = .int .i64 k ∧ Hid (NoUp b os k 0) ∧ Ext w1 wr) (fun i _ => n - (intOf i).toNat)
      case atStart => exact ⟨0, Nat.zero_le _, rfl, Lib.hid (NoUp.zero _ _), Ext.refl _⟩
      case round =>
        obtain ⟨i, hi, rfl, HU, er⟩ := hrel
        replace A := A.ext er
        have HER := Lib.hid (HW1.out.trans er)
        have HERR := Lib.hid er
        by_cases hlt : i < n
        · obtain ⟨bb, off, rfl, d0, d1, d2, d3⟩ := (HX.out.ext HER.out).2.2.1 i hlt
          have ho := HO.out i (by have := HL.out; omega)
          obtain ⟨x, hxk⟩ : ∃ x, os.getD i default = x := ⟨_, rfl⟩
          rw [hxk] at d0 d1 d2 d3 ho
          have HXK := Lib.hid hxk
          obtain ⟨x1, x2, x3, x4⟩ := x
          have K : Four wr bb (off + i * 4) x1 x2 x3 x4 := ⟨d0, d1, d2, d3⟩
          have ho' : 0 ≤ x1 ∧ x1 < x2 ∧ x2 ≤ L ∧ 0 ≤ x3 ∧ x3 < x4 ∧ x4 ≤ C := ho
          have BX := four_new wr x1 x2 x3 x4 34
          have HAL := Lib.hid ((Ext.refl wr).alloc (.cells #[.int .i64 x1, .int .i64 x2, .int .i64 x3, .int .i64 x4] 34))
          replace A := A.ext HAL.out
          obtain ⟨K0, K1, K2, K3⟩ := K
          clear d0 d1 d2 d3 hxk ho er
          go_wp2
          go_loopw [9] (fun k wi => ∃ m : Nat, i < m ∧ m ≤ n ∧ k = .int .i64 m ∧ Hid (NoUp b os i m) ∧ Ext (wr.alloc (.cells #[.int .i64 x1, .int .i64 x2, .int .i64 x3, .int .i64 x4] 34)) wi) (fun k _ => n - (intOf k).toNat)
          case atStart => exact ⟨i + 1, by omega, by omega, by go_num, Lib.hid HU.out.inner, Ext.refl _⟩
          case round =>
            obtain ⟨m, him, hmn, rfl, HU2, ei⟩ := hrel
            replace A := A.ext ei
            replace BX := BX.ext ei
            have HEI := Lib.hid (HAL.out.trans ei)
            have HEI0 := Lib.hid ei
            by_cases hml : m < n
            · obtain ⟨bb', off', hbb, d0, d1, d2, d3⟩ := (HX.out.ext (HER.out.trans HEI.out)).2.2.1 m hml
              simp only [Option.some.injEq, Addr.mk.injEq, and_true] at hbb
              obtain ⟨rfl, rfl⟩ := hbb
              have ho := HO.out m (by have := HL.out; omega)
              obtain ⟨y, hyk⟩ : ∃ y, os.getD m default = y := ⟨_, rfl⟩
              rw [hyk] at d0 d1 d2 d3 ho
              have HYK := Lib.hid hyk
              obtain ⟨y1, y2, y3, y4⟩ := y
              have J : Four wr bb (off + m * 4) y1 y2 y3 y4 := ⟨d0, d1, d2, d3⟩
              have hoy : 0 ≤ y1 ∧ y1 < y2 ∧ y2 ≤ L ∧ 0 ≤ y3 ∧ y3 < y4 ∧ y4 ≤ C := ho
              obtain ⟨J0, J1, J2, J3⟩ := J
              have BX2 := BX.ext ((Ext.refl wr).alloc (.cells #[.int .i64 y1, .int .i64 y2, .int .i64 y3, .int .i64 y4] 34))
              obtain ⟨X0, X1, X2, X3⟩ := BX2
              clear d0 d1 d2 d3 hyk ho ei K0 K1 K2 K3
              have hml2 : (m : Int) < (n : Int) := by omega
              rcases three_cases (x4 = y4) (x1 - b < y2 + b) (y1 - b < x2 + b) with hbad | hgood
              · have HNx : Hid (NoUp b os i (m + 1)) := Lib.hid (HU2.out.next (by rw [HXK.out, HYK.out]; exact clB_bad hbad))
                rcases hbad with h1 | ⟨h1, h2⟩ | ⟨h1, h2, h3⟩
                · have t : (x4 == y4) = false := by simp [h1]
                  clear h1
                  go_wp2
                  go_roundw
                  case rel => first | exact ⟨m + 1, by omega, by omega, by go_num, HNx, HEI0.out.alloc _⟩ | ((repeat apply Exists.intro); exact ⟨⟨m + 1, by omega, by omega, by go_num, HNx, HEI0.out.alloc _⟩, rfl⟩)
                  case measure => simp [intOf]; omega
                · subst h1
                  go_wp2
                  go_roundw
                  case rel => first | exact ⟨m + 1, by omega, by omega, by go_num, HNx, HEI0.out.alloc _⟩ | ((repeat apply Exists.intro); exact ⟨⟨m + 1, by omega, by omega, by go_num, HNx, HEI0.out.alloc _⟩, rfl⟩)
                  case measure => simp [intOf]; omega
                · subst h1
                  go_wp2
                  go_roundw
                  case rel => first | exact ⟨m + 1, by omega, by omega, by go_num, HNx, HEI0.out.alloc _⟩ | ((repeat apply Exists.intro); exact ⟨⟨m + 1, by omega, by omega, by go_num, HNx, HEI0.out.alloc _⟩, rfl⟩)
                  case measure => simp [intOf]; omega
              · have hh := HU2.out.hit him (by have := HL.out; omega) (by rw [HXK.out, HYK.out]; exact clB_good hgood)
                have HV := Lib.hid (HHit.out i m hh.1 hh.2)
                obtain ⟨h1, h2, h3⟩ := hgood
                subst h1
                clear hh
                go_wp2
                go_ret3
                exact RetE.mk HV.out ((HER.out.trans HEI.out).alloc _)
            · obtain rfl : m = n := by omega
              have HNx : Hid (NoUp b os (i + 1) 0) := Lib.hid (HU2.out.outer (by have := HL.out; omega))
              clear K0 K1 K2 K3
              go_wp2
              go_roundw
              case rel => first | exact ⟨i + 1, by omega, by go_num, HNx, HERR.out.trans HEI.out⟩ | ((repeat apply Exists.intro); exact ⟨⟨i + 1, by omega, by go_num, HNx, HERR.out.trans HEI.out⟩, rfl⟩)
              case measure => simp [intOf]; omega
        · obtain rfl : i = n := by omega
          have HV := Lib.hid (HNone.out (NoUp.done (by rw [HL.out]; exact HU.out)))
          go_wp2
          go_ret3
          exact RetE.mk HV.out HER.out
    · rw [Bool.not_eq_true] at hb
      have HV := Lib.hid (lnV_bad (show lnC L C b os = 2 by unfold lnC; rw [if_pos hv, hb]; rfl) (by decide))
      have HW := Lib.hid (fun W => i_within b 0 20 W)
      rw [hv] at H1
      rw [hb] at HW
      clear hv hb
      go_enter Try.func44, Try.ntmps44
      go_wp2_with (first | (go_at_call 51; refine (H1.out _ HE.out).mono ?_; rintro e w1 ⟨rfl, e1⟩) | (go_at_call 79; refine (HW.out _).mono ?_; rintro e w' ⟨rfl, rfl⟩))
      go_ret3
      exact RetE.mk HV.out (HE.out.trans e1)
  · rw [Bool.not_eq_true] at hv
    have HV := Lib.hid (lnV_bad (show lnC L C b os = 1 by unfold lnC; rw [hv]; rfl) (by decide))
    rw [hv] at H1
    clear hv
    go_enter Try.func44, Try.ntmps44
    go_wp2_with (first | (go_at_call 51; refine (H1.out _ HE.out).mono ?_; rintro e w1 ⟨rfl, e1⟩))
    go_ret3
    exact RetE.mk HV.out (HE.out.trans e1)
end Go.Proofs.Ytnhmcmohnpbcjaa

/- Where a lintel lies: both sides; parts compared. -/
namespace Go.Proofs.Ytnhmcmohnpbcjaa
open Go.RowKit
set_option linter.unusedSimpArgs false
set_option linter.unusedVariables false
set_option linter.unnecessarySimpa false

def ltC (L C k b : Int) (os : List Opn) : Int :=
  if validF L C os then (if inB k 0 ((os.length : Int) - 1) && inB b 0 20 then (if (os.getD k.toNat default).fr - b < 0 ∨ L < (os.getD k.toNat default).en + b ∨ (os.getD k.toNat default).hi = C then 6 else 0) else 2) else 1
def ltA (L C k b : Int) (os : List Opn) : Int := if ltC L C k b os = 0 then (os.getD k.toNat default).fr - b else 0
def ltE (L C k b : Int) (os : List Opn) : Int := if ltC L C k b os = 0 then (os.getD k.toNat default).en + b else 0
def ltV (L C k b : Int) (os : List Opn) : Value := .tuple #[.agg #[.int .i64 (ltA L C k b os), .int .i64 (ltE L C k b os)], .int .i64 (ltC L C k b os)]
theorem ltV_bad {L C k b q : Int} {os : List Opn} (h : ltC L C k b os = q) (hq : q ≠ 0) : Value.tuple #[.agg #[.int .i64 0, .int .i64 0], .int .i64 q] = ltV L C k b os := by
  unfold ltV ltA ltE
  rw [if_neg (by rw [h]; exact hq), if_neg (by rw [h]; exact hq), h]
theorem ltV_good {L C k b : Int} {os : List Opn} (h : ltC L C k b os = 0) : Value.tuple #[.agg #[.int .i64 ((os.getD k.toNat default).fr - b), .int .i64 ((os.getD k.toNat default).en + b)], .int .i64 0] = ltV L C k b os := by
  unfold ltV ltA ltE
  rw [if_pos h, if_pos h, h]
theorem or_three (p q r : Prop) : (p ∨ (¬ p ∧ q) ∨ (¬ p ∧ ¬ q ∧ r)) ∨ (¬ p ∧ ¬ q ∧ ¬ r) := by
  by_cases p <;> by_cases q <;> by_cases r <;> simp [*]
set_option maxRecDepth 100000 in
set_option maxHeartbeats 4000000 in
theorem i_LintelOf (L C : Int) (ao : Option Addr) (n c : Nat) (os : List Opn) (k b : Int) (w : World) (hx : Opens w ao n os) (hnc : n ≤ c) :
    Calls Try.prog 43 #[.agg #[.int .i64 L, .int .i64 C, .slice ao n c], .int .i64 k, .int .i64 b] w (RetE (ltV L C k b os) w) := by
  have hxl := hx.1
  have hxm := hx.2.1
  have HE : Hid (Ext w ((w.alloc (.cells #[.int .i64 L, .int .i64 C, .slice ao n c] 30)).alloc (.cells #[.int .i64 0, .int .i64 0] 51))) := Lib.hid (((Ext.refl w).alloc _).alloc _)
  have A : Three ((w.alloc (.cells #[.int .i64 L, .int .i64 C, .slice ao n c] 30)).alloc (.cells #[.int .i64 0, .int .i64 0] 51)) w.heap.size (.int .i64 L) (.int .i64 C) (.slice ao n c) := (Three.new w _ _ _ _).ext ((Ext.refl _).alloc _)
  have HB0 : Hid (Box 51 ((w.alloc (.cells #[.int .i64 L, .int .i64 C, .slice ao n c] 30)).alloc (.cells #[.int .i64 0, .int .i64 0] 51)) w.heap.size (w.heap.size + 1) [.int .i64 0, .int .i64 0]) := Lib.hid (by
    have := Box.new 51 (w.alloc (.cells #[.int .i64 L, .int .i64 C, .slice ao n c] 30)) w.heap.size [.int .i64 0, .int .i64 0] (by simp)
    rw [World.size_alloc] at this
    exact this)
  have H1 := Lib.hid (fun W (e : Ext w W) => i_ValidFront L C ao n c os W (hx.ext e) hnc)
  by_cases hv : validF L C os = true
  · rw [hv] at H1
    have HWk := Lib.hid (fun W => i_within k 0 ((n : Int) - 1) W)
    have HWb := Lib.hid (fun W => i_within b 0 20 W)
    by_cases hk : inB k 0 ((n : Int) - 1) = true
    · by_cases hb : inB b 0 20 = true
      · rw [hk] at HWk
        rw [hb] at HWb
        have ⟨k1, k2⟩ := inB_iff.1 hk
        have ⟨b1, b2⟩ := inB_iff.1 hb
        obtain ⟨⟨l1, l2⟩, ⟨c1, c2⟩, n8, hok⟩ := validF_bd hv
        obtain ⟨j, rfl⟩ : ∃ j : Nat, k = j := ⟨k.toNat, by omega⟩
        have hjn : j < n := by omega
        have ho := isOpn_iff.1 (okTo_opn hok (show j < os.length by omega))
        have hC : ltC L C j b os = if (os.getD j default).fr - b < 0 ∨ L < (os.getD j default).en + b ∨ (os.getD j default).hi = C then 6 else 0 := by
          unfold ltC
          rw [if_pos hv, hxl, hk, hb, Int.toNat_natCast]
          rfl
        have hG := fun h => ltV_good (L := L) (C := C) (k := j) (b := b) (os := os) h
        rw [Int.toNat_natCast] at hG
        obtain ⟨bb, off, rfl, d0, d1, d2, d3⟩ := hx.2.2.1 j hjn
        obtain ⟨x, hxk⟩ : ∃ x, os.getD j default = x := ⟨_, rfl⟩
        rw [hxk] at d0 d1 d2 d3 ho hC hG
        have HC := Lib.hid hC
        have HG := Lib.hid hG
        obtain ⟨x1, x2, x3, x4⟩ := x
        have HK : Hid (Four w bb (off + j * 4) x1 x2 x3 x4) := Lib.hid ⟨d0, d1, d2, d3⟩
        have ho' : 0 ≤ x1 ∧ x1 < x2 ∧ x2 ≤ L ∧ 0 ≤ x3 ∧ x3 < x4 ∧ x4 ≤ C := ho
        clear hk hb hok d0 d1 d2 d3 hxk ho hC hG hv hxl hx
        have hjn2 : (j : Int) < (n : Int) := by omega
        rcases or_three (x1 - b < 0) (L < x2 + b) (x4 = C) with hbad | ⟨g1, g2, g3⟩
        · have HV : Hid (ltC L C j b os = 6) := Lib.hid (by rw [HC.out, if_pos (by rcases hbad with h | h | h; exact .inl h; exact .inr (.inl h.2); exact .inr (.inr h.2.2))])
          rcases hbad with g1 | ⟨g1, g2⟩ | ⟨g1, g2, g3⟩
          · go_enter Try.func43, Try.ntmps43
            go_wp2_with (first | (go_at_call 51; refine (H1.out _ HE.out).mono ?_; rintro e w1 ⟨rfl, e1⟩; replace A := A.ext e1; obtain ⟨K0, K1, K2, K3⟩ := HK.out.ext (HE.out.trans e1); obtain ⟨p0, q0⟩ := (HB0.out.ext (e1.alloc (.cells #[.int .i64 x1, .int .i64 x2, .int .i64 x3, .int .i64 x4] 34))).at 0 (by simp) _ rfl; obtain ⟨p1, q1⟩ := (HB0.out.ext (e1.alloc (.cells #[.int .i64 x1, .int .i64 x2, .int .i64 x3, .int .i64 x4] 34))).at 1 (by simp) _ rfl; have A2 := A.ext ((Ext.refl w1).alloc (.cells #[.int .i64 x1, .int .i64 x2, .int .i64 x3, .int .i64 x4] 34)); have EF := Lib.hid (HE.out.trans (e1.alloc (.cells #[.int .i64 x1, .int .i64 x2, .int .i64 x3, .int .i64 x4] 34)))) | (go_at_call_of 79 (Value.int .i64 20); refine (HWb.out _).mono ?_; rintro e w' ⟨rfl, rfl⟩) | (go_at_call 79; refine (HWk.out _).mono ?_; rintro e w' ⟨rfl, rfl⟩))
            refine bodyPost_ret (v := .tuple #[.agg #[.int .i64 0, .int .i64 0], .int .i64 6]) (by simp [results, Try.results43, go_sem, p0, p1]) rfl (RetE.mk (ltV_bad HV.out (by decide)) ?_)
            repeat' (first | exact EF.out | (dsimp only; omega) | refine Ext.setCell ?_ ?_ _ | refine Ext.alloc ?_ _)
          · go_enter Try.func43, Try.ntmps43
            go_wp2_with (first | (go_at_call 51; refine (H1.out _ HE.out).mono ?_; rintro e w1 ⟨rfl, e1⟩; replace A := A.ext e1; obtain ⟨K0, K1, K2, K3⟩ := HK.out.ext (HE.out.trans e1); obtain ⟨p0, q0⟩ := (HB0.out.ext (e1.alloc (.cells #[.int .i64 x1, .int .i64 x2, .int .i64 x3, .int .i64 x4] 34))).at 0 (by simp) _ rfl; obtain ⟨p1, q1⟩ := (HB0.out.ext (e1.alloc (.cells #[.int .i64 x1, .int .i64 x2, .int .i64 x3, .int .i64 x4] 34))).at 1 (by simp) _ rfl; have A2 := A.ext ((Ext.refl w1).alloc (.cells #[.int .i64 x1, .int .i64 x2, .int .i64 x3, .int .i64 x4] 34)); have EF := Lib.hid (HE.out.trans (e1.alloc (.cells #[.int .i64 x1, .int .i64 x2, .int .i64 x3, .int .i64 x4] 34)))) | (go_at_call_of 79 (Value.int .i64 20); refine (HWb.out _).mono ?_; rintro e w' ⟨rfl, rfl⟩) | (go_at_call 79; refine (HWk.out _).mono ?_; rintro e w' ⟨rfl, rfl⟩))
            refine bodyPost_ret (v := .tuple #[.agg #[.int .i64 0, .int .i64 0], .int .i64 6]) (by simp [results, Try.results43, go_sem, p0, p1]) rfl (RetE.mk (ltV_bad HV.out (by decide)) ?_)
            repeat' (first | exact EF.out | (dsimp only; omega) | refine Ext.setCell ?_ ?_ _ | refine Ext.alloc ?_ _)
          · subst g3
            go_enter Try.func43, Try.ntmps43
            go_wp2_with (first | (go_at_call 51; refine (H1.out _ HE.out).mono ?_; rintro e w1 ⟨rfl, e1⟩; replace A := A.ext e1; obtain ⟨K0, K1, K2, K3⟩ := HK.out.ext (HE.out.trans e1); obtain ⟨p0, q0⟩ := (HB0.out.ext (e1.alloc (.cells #[.int .i64 x1, .int .i64 x2, .int .i64 x3, .int .i64 x4] 34))).at 0 (by simp) _ rfl; obtain ⟨p1, q1⟩ := (HB0.out.ext (e1.alloc (.cells #[.int .i64 x1, .int .i64 x2, .int .i64 x3, .int .i64 x4] 34))).at 1 (by simp) _ rfl; have A2 := A.ext ((Ext.refl w1).alloc (.cells #[.int .i64 x1, .int .i64 x2, .int .i64 x3, .int .i64 x4] 34)); have EF := Lib.hid (HE.out.trans (e1.alloc (.cells #[.int .i64 x1, .int .i64 x2, .int .i64 x3, .int .i64 x4] 34)))) | (go_at_call_of 79 (Value.int .i64 20); refine (HWb.out _).mono ?_; rintro e w' ⟨rfl, rfl⟩) | (go_at_call 79; refine (HWk.out _).mono ?_; rintro e w' ⟨rfl, rfl⟩))
            refine bodyPost_ret (v := .tuple #[.agg #[.int .i64 0, .int .i64 0], .int .i64 6]) (by simp [results, Try.results43, go_sem, p0, p1]) rfl (RetE.mk (ltV_bad HV.out (by decide)) ?_)
            repeat' (first | exact EF.out | (dsimp only; omega) | refine Ext.setCell ?_ ?_ _ | refine Ext.alloc ?_ _)
        · have HV := Lib.hid (HG.out (by rw [HC.out, if_neg (by simp only [not_or]; exact ⟨g1, g2, g3⟩)]))
          have t3 : (x4 == C) = false := by simp [g3]
          clear g3
          go_enter Try.func43, Try.ntmps43
          go_wp2_with (first | (go_at_call 51; refine (H1.out _ HE.out).mono ?_; rintro e w1 ⟨rfl, e1⟩; replace A := A.ext e1; obtain ⟨K0, K1, K2, K3⟩ := HK.out.ext (HE.out.trans e1); obtain ⟨p0, q0⟩ := (HB0.out.ext (e1.alloc (.cells #[.int .i64 x1, .int .i64 x2, .int .i64 x3, .int .i64 x4] 34))).at 0 (by simp) _ rfl; obtain ⟨p1, q1⟩ := (HB0.out.ext (e1.alloc (.cells #[.int .i64 x1, .int .i64 x2, .int .i64 x3, .int .i64 x4] 34))).at 1 (by simp) _ rfl; have A2 := A.ext ((Ext.refl w1).alloc (.cells #[.int .i64 x1, .int .i64 x2, .int .i64 x3, .int .i64 x4] 34)); have EF := Lib.hid (HE.out.trans (e1.alloc (.cells #[.int .i64 x1, .int .i64 x2, .int .i64 x3, .int .i64 x4] 34)))) | (go_at_call_of 79 (Value.int .i64 20); refine (HWb.out _).mono ?_; rintro e w' ⟨rfl, rfl⟩) | (go_at_call 79; refine (HWk.out _).mono ?_; rintro e w' ⟨rfl, rfl⟩))
          refine bodyPost_ret (v := .tuple #[.agg #[.int .i64 (x1 - b), .int .i64 (x2 + b)], .int .i64 0]) (by simp [results, Try.results43, go_sem, p0, p1]) rfl (RetE.mk HV.out ?_)
          repeat' (first | exact EF.out | (dsimp only; omega) | refine Ext.setCell ?_ ?_ _ | refine Ext.alloc ?_ _)
      · rw [Bool.not_eq_true] at hb
        have HV : Hid (ltC L C k b os = 2) := Lib.hid (by unfold ltC; rw [if_pos hv, hb, Bool.and_false]; rfl)
        rw [hk] at HWk
        rw [hb] at HWb
        clear hk hb hv
        go_enter Try.func43, Try.ntmps43
        go_wp2_with (first | (go_at_call 51; refine (H1.out _ HE.out).mono ?_; rintro e w1 ⟨rfl, e1⟩; replace A := A.ext e1; obtain ⟨p0, q0⟩ := (HB0.out.ext e1).at 0 (by simp) _ rfl; obtain ⟨p1, q1⟩ := (HB0.out.ext e1).at 1 (by simp) _ rfl; have EF := Lib.hid (HE.out.trans e1)) | (go_at_call_of 79 (Value.int .i64 20); refine (HWb.out _).mono ?_; rintro e w' ⟨rfl, rfl⟩) | (go_at_call 79; refine (HWk.out _).mono ?_; rintro e w' ⟨rfl, rfl⟩))
        refine bodyPost_ret (v := .tuple #[.agg #[.int .i64 0, .int .i64 0], .int .i64 2]) (by simp [results, Try.results43, go_sem, p0, p1]) rfl (RetE.mk (ltV_bad HV.out (by decide)) ?_)
        repeat' (first | exact EF.out | (dsimp only; omega) | refine Ext.setCell ?_ ?_ _ | refine Ext.alloc ?_ _)
    · rw [Bool.not_eq_true] at hk
      have HV : Hid (ltC L C k b os = 2) := Lib.hid (by unfold ltC; rw [if_pos hv, hxl, hk, Bool.false_and]; rfl)
      rw [hk] at HWk
      clear hk hv
      go_enter Try.func43, Try.ntmps43
      go_wp2_with (first | (go_at_call 51; refine (H1.out _ HE.out).mono ?_; rintro e w1 ⟨rfl, e1⟩; replace A := A.ext e1; obtain ⟨p0, q0⟩ := (HB0.out.ext e1).at 0 (by simp) _ rfl; obtain ⟨p1, q1⟩ := (HB0.out.ext e1).at 1 (by simp) _ rfl; have EF := Lib.hid (HE.out.trans e1)) | (go_at_call 79; refine (HWk.out _).mono ?_; rintro e w' ⟨rfl, rfl⟩))
      refine bodyPost_ret (v := .tuple #[.agg #[.int .i64 0, .int .i64 0], .int .i64 2]) (by simp [results, Try.results43, go_sem, p0, p1]) rfl (RetE.mk (ltV_bad HV.out (by decide)) ?_)
      repeat' (first | exact EF.out | (dsimp only; omega) | refine Ext.setCell ?_ ?_ _ | refine Ext.alloc ?_ _)
  · rw [Bool.not_eq_true] at hv
    have HV := Lib.hid (ltV_bad (show ltC L C k b os = 1 by unfold ltC; rw [hv]; rfl) (by decide))
    rw [hv] at H1
    clear hv
    go_enter Try.func43, Try.ntmps43
    go_wp2_with (first | (go_at_call 51; refine (H1.out _ HE.out).mono ?_; rintro e w1 ⟨rfl, e1⟩; obtain ⟨p0, q0⟩ := (HB0.out.ext e1).at 0 (by simp) _ rfl; obtain ⟨p1, q1⟩ := (HB0.out.ext e1).at 1 (by simp) _ rfl; have EF := Lib.hid (HE.out.trans e1)))
    refine bodyPost_ret (v := .tuple #[.agg #[.int .i64 0, .int .i64 0], .int .i64 1]) (by simp [results, Try.results43, go_sem, p0, p1]) rfl (RetE.mk HV.out ?_)
    repeat' (first | exact EF.out | (dsimp only; omega) | refine Ext.setCell ?_ ?_ _ | refine Ext.alloc ?_ _)
end Go.Proofs.Ytnhmcmohnpbcjaa
