/- The narrowest pier: both sides. -/
import Derived.Test.YtnhmcmohnpbcjaaFrontQ
namespace Go.Proofs.Ytnhmcmohnpbcjaa
open Go.RowKit
set_option linter.unusedSimpArgs false
set_option linter.unusedVariables false
set_option linter.unnecessarySimpa false

def minP (best : Int) (p : Int × Int) : Int := if best < 0 ∨ p.2 - p.1 < best then p.2 - p.1 else best
def narTo (L : Int) (os : List Opn) : Nat → Int
  | 0 => -1
  | k + 1 => (partsI L k os).foldl minP (narTo L os k)
def narC (L C : Int) (os : List Opn) : Int := if validF L C os then (if narTo L os C.toNat < 0 then 3 else 0) else 1
def narN (L C : Int) (os : List Opn) : Int := if narC L C os = 0 then narTo L os C.toNat else 0
def narV (L C : Int) (os : List Opn) : Value := .tuple #[.int .i64 (narN L C os), .int .i64 (narC L C os)]
theorem narV_bad {L C k : Int} {os : List Opn} (h : narC L C os = k) (hk : k ≠ 0) : Value.tuple #[.int .i64 0, .int .i64 k] = narV L C os := by
  unfold narV narN
  rw [if_neg (by rw [h]; exact hk), h]
theorem narV_good {L C : Int} {os : List Opn} (h : narC L C os = 0) : Value.tuple #[.int .i64 (narTo L os C.toNat), .int .i64 0] = narV L C os := by
  unfold narV narN
  rw [if_pos h, h]
theorem gI_bd {L : Int} : ∀ (l : List Opn) (st : Int × List (Int × Int)), (∀ o ∈ l, 0 ≤ o.fr ∧ o.fr < o.en ∧ o.en ≤ L) → 0 ≤ st.1 ∧ (∀ p ∈ st.2, 0 ≤ p.1 ∧ p.1 < p.2 ∧ p.2 ≤ L) → 0 ≤ (l.foldl gI st).1 ∧ ∀ p ∈ (l.foldl gI st).2, 0 ≤ p.1 ∧ p.1 < p.2 ∧ p.2 ≤ L := by
  intro l
  induction l with
  | nil => intro st _ h; exact h
  | cons o r ih =>
    intro st hl h
    rw [List.foldl_cons]
    refine ih _ (fun x hx => hl x (List.mem_cons_of_mem _ hx)) ⟨?_, ?_⟩
    · have := hl o (List.mem_cons_self ..); unfold gI; simp only []; omega
    · intro p hp
      have ho := hl o (List.mem_cons_self ..)
      unfold gI addI at hp
      simp only [] at hp
      split at hp
      · rcases List.mem_append.1 hp with hp | hp
        · exact h.2 p hp
        · simp only [List.mem_singleton] at hp; subst hp; simp only []; omega
      · exact h.2 p hp
theorem parts_bd {L C c : Int} {os : List Opn} (h : okTo L C os os.length = true) : ∀ p ∈ partsI L c os, 0 ≤ p.1 ∧ p.1 < p.2 ∧ p.2 ≤ L := by
  have h1 := gI_bd (L := L) ((os.take os.length).filter (inC c)) (0, []) (fun o ho => by
    have := okTo_mem h (List.mem_of_mem_take (List.mem_filter.1 ho).1)
    omega) ⟨by decide, by simp⟩
  intro p hp
  unfold partsI addI at hp
  split at hp
  · rcases List.mem_append.1 hp with hp | hp
    · exact h1.2 p hp
    · simp only [List.mem_singleton] at hp
      subst hp
      simp only []
      have := h1.1
      unfold stI at *
      omega
  · exact h1.2 p hp
theorem minP_bd {L : Int} (hL : L ≤ 200) : ∀ (l : List (Int × Int)) (b : Int), (∀ p ∈ l, 0 ≤ p.1 ∧ p.1 < p.2 ∧ p.2 ≤ L) → -1 ≤ b ∧ b ≤ 200 → -1 ≤ l.foldl minP b ∧ l.foldl minP b ≤ 200 := by
  intro l
  induction l with
  | nil => intro b _ h; exact h
  | cons p r ih =>
    intro b hl h
    rw [List.foldl_cons]
    refine ih _ (fun x hx => hl x (List.mem_cons_of_mem _ hx)) ?_
    have := hl p (List.mem_cons_self ..)
    unfold minP
    split <;> omega
theorem narTo_bd {L C : Int} {os : List Opn} (hL : L ≤ 200) (h : okTo L C os os.length = true) (k : Nat) : -1 ≤ narTo L os k ∧ narTo L os k ≤ 200 := by
  induction k with
  | zero => unfold narTo; omega
  | succ k ih => exact minP_bd hL _ _ (parts_bd h) ih
theorem foldl_take_succ {α β : Type} (f : α → β → α) (a : α) (l : List β) (d : β) (k : Nat) (hk : k < l.length) : (l.take (k + 1)).foldl f a = f ((l.take k).foldl f a) (l.getD k d) := by
  rw [List.take_succ_eq_append_getElem hk, List.foldl_append, List.getD_eq_getElem?_getD, List.getElem?_eq_getElem hk]
  rfl
theorem partsI_len (L c : Int) (os : List Opn) : (partsI L c os).length ≤ os.length + 1 := by
  have := stI_num c os os.length
  unfold partsI addI
  split
  · simp; omega
  · omega
set_option maxRecDepth 100000 in
set_option maxHeartbeats 2000000 in
theorem i_NarrowestPier (L C : Int) (ao : Option Addr) (n c : Nat) (os : List Opn) (w : World) (hx : Opens w ao n os) (hnc : n ≤ c) :
    Calls Try.prog 22 #[.agg #[.int .i64 L, .int .i64 C, .slice ao n c]] w (RetE (narV L C os) w) := by
  have HE : Hid (Ext w (w.alloc (.cells #[.int .i64 L, .int .i64 C, .slice ao n c] 30))) := Lib.hid ((Ext.refl w).alloc _)
  have H1 := Lib.hid (fun W (e : Ext w W) => i_ValidFront L C ao n c os W (hx.ext e) hnc)
  have A : Three (w.alloc (.cells #[.int .i64 L, .int .i64 C, .slice ao n c] 30)) w.heap.size (.int .i64 L) (.int .i64 C) (.slice ao n c) := Three.new w _ _ _ _
  cases hv : validF L C os with
  | true =>
    obtain ⟨⟨l1, l2⟩, ⟨c1, c2⟩, n8, hok⟩ := validF_bd hv
    have hxl := hx.1
    have H2 := Lib.hid (fun W (e : Ext w W) (k : Nat) => i_partsOf L C ao n c os k W (hx.ext e) (by omega))
    obtain ⟨M, rfl⟩ : ∃ M : Nat, C = M := ⟨C.toNat, by omega⟩
    have HB := Lib.hid (fun k => narTo_bd l2 hok k)
    have HMB := Lib.hid (fun (k : Nat) j => minP_bd l2 ((partsI L k os).take j) (narTo L os k) (fun p hp => parts_bd hok p (List.mem_of_mem_take hp)) (narTo_bd l2 hok k))
    have HPB := Lib.hid (fun (k : Nat) => parts_bd (c := k) hok)
    have HLen := Lib.hid (fun (k : Nat) => partsI_len L k os)
    have HSucc : Hid (∀ k : Nat, narTo L os (k + 1) = (partsI L k os).foldl minP (narTo L os k)) := Lib.hid (fun k => rfl)
    have HGood : Hid (¬ narTo L os M < 0 → Value.tuple #[.int .i64 (narTo L os M), .int .i64 0] = narV L M os) := Lib.hid (fun h => narV_good (by unfold narC; rw [if_pos hv, Int.toNat_natCast, if_neg h]))
    have HBad : Hid (narTo L os M < 0 → Value.tuple #[.int .i64 0, .int .i64 3] = narV L M os) := Lib.hid (fun h => narV_bad (by unfold narC; rw [if_pos hv, Int.toNat_natCast, if_pos h]) (by decide))
    rw [hv] at H1
    clear hv hok hx hxl
    go_enter Try.func22, Try.ntmps22
    go_wp2_with (go_at_call 51; refine (H1.out _ HE.out).mono ?_; rintro e w1 ⟨rfl, e1⟩; replace A := A.ext e1)
    have HW1 := Lib.hid (HE.out.trans e1)
    clear e1
    go_loopw [4, 14] (fun s i wr => ∃ (k : Nat) (b : Int), k ≤ M ∧ i = .int .i64 k ∧ s = .int .i64 b ∧ Hid (narTo L os k = b) ∧ Ext w1 wr) (fun _ i _ => M - (intOf i).toNat)
    case atStart => exact ⟨0, -1, Nat.zero_le _, rfl, rfl, Lib.hid rfl, Ext.refl _⟩
    case round =>
      obtain ⟨k, b, hk, rfl, rfl, HS, er⟩ := hrel
      replace A := A.ext er
      have HER := Lib.hid er
      by_cases hlt : k < M
      · have HP := Lib.hid (H2.out _ (HW1.out.trans er) k)
        have hlen := HLen.out k
        obtain ⟨ps, hps⟩ : ∃ ps, partsI L k os = ps := ⟨_, rfl⟩
        have hbd := HMB.out k
        have hpb := HPB.out k
        have hsu := HSucc.out k
        rw [hps] at HP hlen hbd hpb hsu
        rw [HS.out] at hbd hsu
        have HBD := Lib.hid hbd
        have HPB2 := Lib.hid hpb
        have HSU := Lib.hid hsu
        clear hbd hpb hsu hps er
        go_wp2_with (go_at_call 66; refine HP.out.mono ?_; rintro e w2 ⟨a2, c2, rfl, o2, e2⟩; have HO2 := Lib.hid o2; clear o2)
        have HE2 := Lib.hid e2
        clear e2
        go_loopw [4, 21] (fun s i wi => ∃ (j : Nat) (b2 : Int), j ≤ ps.length ∧ i = .int .i64 j ∧ s = .int .i64 b2 ∧ Hid ((ps.take j).foldl minP b = b2) ∧ Ext w2 wi) (fun _ i _ => ps.length - (intOf i).toNat)
        case atStart => exact ⟨0, b, Nat.zero_le _, rfl, rfl, Lib.hid (by simp), Ext.refl _⟩
        case round =>
          obtain ⟨j, b2, hj, rfl, rfl, HS2, ei⟩ := hrel
          have HEI := Lib.hid ei
          by_cases hjl : j < ps.length
          · obtain ⟨g, rfl, d0, d1⟩ := (HO2.out.ext ei).at hjl
            have hb2 := HBD.out j
            have hnx := foldl_take_succ minP b ps (0, 0) j hjl
            have hp := HPB2.out (ps.getD j (0, 0)) (by rw [List.getD_eq_getElem?_getD, List.getElem?_eq_getElem hjl]; exact List.getElem_mem _)
            obtain ⟨p, hpe⟩ : ∃ p, ps.getD j (0, 0) = p := ⟨_, rfl⟩
            rw [hpe] at d0 d1 hnx hp
            rw [HS2.out] at hb2 hnx
            obtain ⟨x, y⟩ := p
            have d0' : wr.cell? ⟨g, j * 2, none⟩ = some (.int .i64 x) := d0
            have d1' : wr.cell? ⟨g, j * 2 + 1, none⟩ = some (.int .i64 y) := d1
            have hp' : 0 ≤ x ∧ x < y ∧ y ≤ L := hp
            have HNX : Hid ((ps.take (j + 1)).foldl minP b = if b2 < 0 ∨ y - x < b2 then y - x else b2) := Lib.hid hnx
            clear d0 d1 hp hnx hpe ei
            by_cases hc : b2 < 0
            · have HN := Lib.hid (HNX.out.trans (if_pos (.inl hc)))
              go_wp2
              go_roundw
              case rel => first | exact ⟨j + 1, _, by omega, by go_num, rfl, HN, HEI.out.alloc _⟩ | ((repeat apply Exists.intro); exact ⟨⟨j + 1, _, by omega, by go_num, rfl, HN, HEI.out.alloc _⟩, rfl⟩)
              case measure => (simp [intOf] <;> omega)
            · by_cases hc2 : y - x < b2
              · have HN := Lib.hid (HNX.out.trans (if_pos (.inr hc2)))
                go_wp2
                go_roundw
                case rel => first | exact ⟨j + 1, _, by omega, by go_num, rfl, HN, HEI.out.alloc _⟩ | ((repeat apply Exists.intro); exact ⟨⟨j + 1, _, by omega, by go_num, rfl, HN, HEI.out.alloc _⟩, rfl⟩)
                case measure => (simp [intOf] <;> omega)
              · have HN := Lib.hid (HNX.out.trans (if_neg (fun h => h.elim hc hc2)))
                go_wp2
                go_roundw
                case rel => first | exact ⟨j + 1, _, by omega, by go_num, rfl, HN, HEI.out.alloc _⟩ | ((repeat apply Exists.intro); exact ⟨⟨j + 1, _, by omega, by go_num, rfl, HN, HEI.out.alloc _⟩, rfl⟩)
                case measure => (simp [intOf] <;> omega)
          · obtain rfl : j = ps.length := by omega
            have HN : Hid (narTo L os (k + 1) = b2) := Lib.hid (by rw [HSU.out, ← HS2.out, List.take_of_length_le (Nat.le_refl _)])
            go_wp2
            go_roundw
            case rel => first | exact ⟨k + 1, b2, by omega, by go_num, rfl, HN, (HER.out.trans HE2.out).trans HEI.out⟩ | ((repeat apply Exists.intro); exact ⟨⟨k + 1, b2, by omega, by go_num, rfl, HN, (HER.out.trans HE2.out).trans HEI.out⟩, rfl⟩)
            case measure => (simp [intOf] <;> omega)
      · obtain rfl : k = M := by omega
        have hb := HB.out k
        rw [HS.out] at hb
        have hg := HGood.out
        have hbd := HBad.out
        rw [HS.out] at hg hbd
        have HG2 := Lib.hid hg
        have HB2 := Lib.hid hbd
        clear hg hbd
        by_cases hneg : b < 0
        · go_wp2
          go_ret2
          exact RetE.mk (HB2.out hneg) (HW1.out.trans HER.out)
        · go_wp2
          go_ret2
          exact RetE.mk (HG2.out hneg) (HW1.out.trans HER.out)
  | false =>
    have HV := Lib.hid (narV_bad (show narC L C os = 1 by unfold narC; rw [hv]; rfl) (by decide))
    rw [hv] at H1
    clear hv
    go_enter Try.func22, Try.ntmps22
    go_wp2_with (go_at_call 51; refine (H1.out _ HE.out).mono ?_; rintro e w1 ⟨rfl, e1⟩)
    go_ret2
    exact RetE.mk HV.out (HE.out.trans e1)
end Go.Proofs.Ytnhmcmohnpbcjaa
