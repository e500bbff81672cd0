/- What a mould's text is, and that a mould is read back from it: plain laws. Nothing here speaks of the program. -/
import Derived.Test.YtdedamamjkpcpaaGreatDoorGaSm
import Derived.Test.YtdedamamjkpcpaaGreatDoorMould0
import Derived.Test.YtdedamamjkpcpaaGreatDoorMould7
import Derived.Lib.IndexMore
namespace Go.Proofs.YtdedamamjkpcpaaGreatDoor
open Go.Lib
set_option linter.unusedSimpArgs false
set_option linter.unusedVariables false
set_option linter.unnecessarySimpa false

def usedL : List UInt8 := [117, 115, 101, 100]
def usedS : List UInt8 := [32, 117, 115, 101, 100, 32]
def sizT (a b c : Int) : List UInt8 := join [itoa a, itoa b, itoa c] [120]
/-- the text of a mould -/
def mtxt (a b c d : Int) : List UInt8 := join [sizT a b c, usedL, itoa d] [32]
theorem itoa_dg {n : Int} (h : 0 ≤ n) : ∀ x ∈ itoa n, 48 ≤ x.toNat ∧ x.toNat ≤ 57 := by
  intro x hx
  obtain ⟨u, rfl⟩ := Int.eq_ofNat_of_zero_le h
  rw [itoa_nonneg] at hx
  exact isDg_iff.1 ((List.all_eq_true.1 (decDigits_all u).1) x hx)
theorem dg_ne32 {x : UInt8} (h : 48 ≤ x.toNat ∧ x.toNat ≤ 57) : x ≠ 32 := by rintro rfl; exact absurd h.1 (by decide)
theorem dg_ne120 {x : UInt8} (h : 48 ≤ x.toNat ∧ x.toNat ≤ 57) : x ≠ 120 := by rintro rfl; exact absurd h.2 (by decide)
theorem sizT_eq (a b c : Int) : sizT a b c = itoa a ++ ([120] ++ (itoa b ++ ([120] ++ itoa c))) := by
  unfold sizT join
  rw [List.intercalate_cons_cons, List.intercalate_cons_cons]
  simp [List.intercalate, List.intersperse]
theorem mtxt_eq (a b c d : Int) : mtxt a b c d = sizT a b c ++ (usedS ++ itoa d) := by
  unfold mtxt join
  rw [List.intercalate_cons_cons, List.intercalate_cons_cons]
  simp [List.intercalate, List.intersperse, usedL, usedS]
theorem sizT_free {a b c : Int} (h1 : 0 ≤ a) (h2 : 0 ≤ b) (h3 : 0 ≤ c) : ∀ x ∈ sizT a b c, x ≠ 32 := by
  intro x hx
  rw [sizT_eq] at hx
  simp only [List.mem_append, List.mem_singleton] at hx
  rcases hx with h | rfl | h | rfl | h
  · exact dg_ne32 (itoa_dg h1 x h)
  · decide
  · exact dg_ne32 (itoa_dg h2 x h)
  · decide
  · exact dg_ne32 (itoa_dg h3 x h)
theorem spl_sizT {a b c : Int} (h1 : 0 ≤ a) (h2 : 0 ≤ b) (h3 : 0 ≤ c) : splL 120 (sizT a b c) = [itoa a, itoa b, itoa c] := by
  refine splL_free 120 _ (by simp) (fun w hw x hx => ?_)
  simp only [List.mem_cons, List.not_mem_nil, or_false] at hw
  rcases hw with rfl | rfl | rfl
  · exact dg_ne120 (itoa_dg h1 x hx)
  · exact dg_ne120 (itoa_dg h2 x hx)
  · exact dg_ne120 (itoa_dg h3 x hx)
theorem spl_mtxt {a b c d : Int} (h1 : 0 ≤ a) (h2 : 0 ≤ b) (h3 : 0 ≤ c) (h4 : 0 ≤ d) : splL 32 (mtxt a b c d) = [sizT a b c, usedL, itoa d] := by
  refine splL_free 32 _ (by simp) (fun w hw x hx => ?_)
  simp only [List.mem_cons, List.not_mem_nil, or_false] at hw
  rcases hw with rfl | rfl | rfl
  · exact sizT_free h1 h2 h3 x hx
  · simp [usedL] at hx
    rcases hx with rfl | rfl | rfl | rfl <;> decide
  · exact dg_ne32 (itoa_dg h4 x hx)
theorem rd_small {n : Int} (h : 0 ≤ n) (h2 : n ≤ 100000) : rdB (itoa n) = true ∧ rdV (itoa n) = n := rd_itoa (by omega) (by omega)
/-- all that the text of a valid mould is parted into -/
theorem mtxt_words {a b c d : Int} (h : mouldB a b c d = true) : splL 32 (mtxt a b c d) = [sizT a b c, usedL, itoa d] ∧ splL 120 (sizT a b c) = [itoa a, itoa b, itoa c] ∧
    (rdB (itoa a) = true ∧ rdV (itoa a) = a) ∧ (rdB (itoa b) = true ∧ rdV (itoa b) = b) ∧ (rdB (itoa c) = true ∧ rdV (itoa c) = c) ∧ (rdB (itoa d) = true ∧ rdV (itoa d) = d) := by
  obtain ⟨⟨a0, a1⟩, ⟨b0, b1⟩, ⟨c0, c1⟩, ⟨d0, d1⟩⟩ := mouldB_bd h
  exact ⟨spl_mtxt (by omega) (by omega) (by omega) d0, spl_sizT (by omega) (by omega) (by omega), rd_small (by omega) (by omega), rd_small (by omega) (by omega), rd_small (by omega) (by omega), rd_small d0 d1⟩
theorem mtxt_inj {a b c d a' b' c' d' : Int} (h : mouldB a b c d = true) (h' : mouldB a' b' c' d' = true) (e : mtxt a b c d = mtxt a' b' c' d') : a = a' ∧ b = b' ∧ c = c' ∧ d = d' := by
  obtain ⟨p1, p2, ⟨_, p3⟩, ⟨_, p4⟩, ⟨_, p5⟩, ⟨_, p6⟩⟩ := mtxt_words h
  obtain ⟨q1, q2, ⟨_, q3⟩, ⟨_, q4⟩, ⟨_, q5⟩, ⟨_, q6⟩⟩ := mtxt_words h'
  rw [e, q1] at p1
  simp only [List.cons.injEq, and_true, true_and] at p1
  rw [← p1.1, q2] at p2
  simp only [List.cons.injEq, and_true] at p2
  exact ⟨by rw [← p3, ← p2.1, q3], by rw [← p4, ← p2.2.1, q4], by rw [← p5, ← p2.2.2, q5], by rw [← p6, ← p1.2, q6]⟩
theorem index_used : ∀ (p r : List UInt8), (∀ x ∈ p, x ≠ 32) → index (p ++ (usedS ++ r)) usedS = (p.length : Int)
  | [], r, _ => by
    have h : usedS.isPrefixOf (32 :: ([117, 115, 101, 100, 32] ++ r)) = true := by simp [usedS, List.isPrefixOf]
    rw [List.nil_append]
    show index (32 :: ([117, 115, 101, 100, 32] ++ r)) usedS = 0
    unfold index
    rw [if_pos h]
  | c :: p, r, h => by
    have ih := index_used p r (fun x hx => h x (List.mem_cons_of_mem _ hx))
    have hc : usedS.isPrefixOf (c :: (p ++ (usedS ++ r))) = false := by
      have h2 : (32 == c) = false := by
        have := h c (by simp)
        rw [beq_eq_false_iff_ne]
        exact fun e => this e.symm
      show ((32 == c) && _) = false
      rw [h2]; rfl
    rw [List.cons_append]
    unfold index
    rw [hc, ih]
    have h3 : (((p.length : Nat) : Int) == -1) = false := by rw [beq_eq_false_iff_ne]; omega
    simp [h3]
theorem cut_used (p r : List UInt8) (h : ∀ x ∈ p, x ≠ 32) : cut (p ++ (usedS ++ r)) usedS = (p, r, true) := by
  unfold cut
  rw [index_used p r h, if_pos (by omega), Int.toNat_natCast, List.take_left]
  have e : (p ++ (usedS ++ r)).drop (p.length + usedS.length) = r := by
    rw [← List.append_assoc, ← List.length_append, List.drop_left]
  rw [e]
theorem cut_mtxt {a b c d : Int} (h : mouldB a b c d = true) : cut (mtxt a b c d) usedS = (sizT a b c, itoa d, true) := by
  obtain ⟨⟨a0, a1⟩, ⟨b0, b1⟩, ⟨c0, c1⟩, ⟨d0, d1⟩⟩ := mouldB_bd h
  rw [mtxt_eq]
  exact cut_used _ _ (sizT_free (by omega) (by omega) (by omega))
theorem rn3_sizT {a b c d : Int} (h : mouldB a b c d = true) : rn3 (sizT a b c) = true := by
  obtain ⟨_, p2, ⟨p3, _⟩, ⟨p4, _⟩, ⟨p5, _⟩, _⟩ := mtxt_words h
  unfold rn3
  rw [p2]
  simp [p3, p4, p5]
theorem itoa_small_len {n : Int} (h : 0 ≤ n) (h2 : n ≤ 100000) : (itoa n).length ≤ 20 := by
  obtain ⟨u, rfl⟩ := Int.eq_ofNat_of_zero_le h
  rw [itoa_natP]
  have := decP_len (u := u) (by omega)
  split <;> simp <;> omega
theorem mtxt_len {a b c d : Int} (h : mouldB a b c d = true) : (mtxt a b c d).length ≤ 100 := by
  obtain ⟨⟨a0, a1⟩, ⟨b0, b1⟩, ⟨c0, c1⟩, ⟨d0, d1⟩⟩ := mouldB_bd h
  have e1 := itoa_small_len (n := a) (by omega) (by omega)
  have e2 := itoa_small_len (n := b) (by omega) (by omega)
  have e3 := itoa_small_len (n := c) (by omega) (by omega)
  have e4 := itoa_small_len (n := d) (by omega) (by omega)
  rw [mtxt_eq, sizT_eq]
  simp only [List.length_append, List.length_cons, List.length_nil, usedS]
  omega
theorem mtxt_ne (a b c d : Int) : mtxt a b c d ≠ [] := by
  rw [mtxt_eq]
  intro e
  have := congrArg List.length e
  simp [usedS] at this
/-- no mould has the text -/
def noRM (l : List UInt8) : Prop := ∀ a b c d, mouldB a b c d = true → l ≠ mtxt a b c d
theorem rn3_three {l : List UInt8} (h : rn3 l = true) : ∃ x y z, (splL 120 l).map rdV = [x, y, z] ∧ l = sizT x y z := by
  unfold rn3 at h
  simp only [Bool.and_eq_true, decide_eq_true_eq] at h
  have hj := join_splL 120 l
  obtain ⟨hl, ha⟩ := h
  match hs : splL 120 l, hl with
  | [u, v, t], _ =>
    rw [hs] at ha hj
    simp only [List.all_cons, List.all_nil, Bool.and_true, Bool.and_eq_true] at ha
    have r1 := (rdB_iff.1 ha.1).2.2.2
    have r2 := (rdB_iff.1 ha.2.1).2.2.2
    have r3 := (rdB_iff.1 ha.2.2).2.2.2
    refine ⟨rdV u, rdV v, rdV t, rfl, ?_⟩
    unfold sizT
    rw [r1, r2, r3, hj]
/-- the reference's road: the words of a text that is a mould's -/
theorem rm_words {l w0 w2 v0 v1 v2 : List UInt8} (h1 : splL 32 l = [w0, usedL, w2]) (h2 : splL 120 w0 = [v0, v1, v2]) (b0 : rdB v0 = true) (b1 : rdB v1 = true) (b2 : rdB v2 = true) (b3 : rdB w2 = true) : l = mtxt (rdV v0) (rdV v1) (rdV v2) (rdV w2) := by
  have j1 := join_splL 32 l
  have j2 := join_splL 120 w0
  rw [h1] at j1
  rw [h2] at j2
  unfold mtxt sizT
  rw [(rdB_iff.1 b0).2.2.2, (rdB_iff.1 b1).2.2.2, (rdB_iff.1 b2).2.2.2, (rdB_iff.1 b3).2.2.2, j2, j1]
theorem noRM_len {l : List UInt8} (h : (splL 32 l).length ≠ 3) : noRM l := by
  rintro a b c d hm rfl
  rw [(mtxt_words hm).1] at h
  exact h rfl
theorem noRM_used {l w0 w1 w2 : List UInt8} (h : splL 32 l = [w0, w1, w2]) (hu : w1 ≠ usedL) : noRM l := by
  rintro a b c d hm rfl
  rw [(mtxt_words hm).1] at h
  simp only [List.cons.injEq, and_true] at h
  exact hu h.2.1.symm
theorem noRM_v {l w0 w1 w2 : List UInt8} (h : splL 32 l = [w0, w1, w2]) (hu : (splL 120 w0).length ≠ 3) : noRM l := by
  rintro a b c d hm rfl
  rw [(mtxt_words hm).1] at h
  simp only [List.cons.injEq, and_true] at h
  rw [← h.1, (mtxt_words hm).2.1] at hu
  exact hu rfl
theorem noRM_rd {l w0 w1 w2 v0 v1 v2 : List UInt8} (h : splL 32 l = [w0, w1, w2]) (h2 : splL 120 w0 = [v0, v1, v2]) (hb : (rdB v0 && (rdB v1 && (rdB v2 && (rdB w2 && mouldB (rdV v0) (rdV v1) (rdV v2) (rdV w2))))) = false) : noRM l := by
  rintro a b c d hm rfl
  obtain ⟨p1, p2, ⟨p3, p3'⟩, ⟨p4, p4'⟩, ⟨p5, p5'⟩, ⟨p6, p6'⟩⟩ := mtxt_words hm
  rw [p1] at h
  simp only [List.cons.injEq, and_true] at h
  obtain ⟨rfl, rfl, rfl⟩ := h
  rw [p2] at h2
  simp only [List.cons.injEq, and_true] at h2
  obtain ⟨rfl, rfl, rfl⟩ := h2
  rw [p3, p4, p5, p6, p3', p4', p5', p6', hm] at hb
  exact absurd hb (by decide)
/-- the program's road -/
theorem noRM_cut {l p q : List UInt8} {z : Bool} (h : cut l usedS = (p, q, z)) (hb : rn3 p = false ∨ rdB q = false) : noRM l := by
  rintro a b c d hm rfl
  rw [cut_mtxt hm] at h
  simp only [Prod.mk.injEq] at h
  obtain ⟨rfl, rfl, _⟩ := h
  rcases hb with hb | hb
  · rw [rn3_sizT hm] at hb; exact absurd hb (by decide)
  · rw [(mtxt_words hm).2.2.2.2.2.1] at hb; exact absurd hb (by decide)
theorem cut_val {l p q : List UInt8} {z : Bool} {x y u : Int} (h : cut l usedS = (p, q, z)) (h3 : (splL 120 p).map rdV = [x, y, u]) {a b c d : Int} (hm : mouldB a b c d = true) (hl : l = mtxt a b c d) : x = a ∧ y = b ∧ u = c ∧ rdV q = d := by
  subst hl
  rw [cut_mtxt hm] at h
  simp only [Prod.mk.injEq] at h
  obtain ⟨rfl, rfl, _⟩ := h
  obtain ⟨p1, p2, ⟨p3, p3'⟩, ⟨p4, p4'⟩, ⟨p5, p5'⟩, ⟨p6, p6'⟩⟩ := mtxt_words hm
  rw [p2] at h3
  simp only [List.map_cons, List.map_nil, List.cons.injEq, and_true] at h3
  exact ⟨by rw [← h3.1, p3'], by rw [← h3.2.1, p4'], by rw [← h3.2.2, p5'], p6'⟩
theorem rn3_nil : rn3 [] = false := by decide
theorem cut_nil : cut [] usedS = ([], [], false) := by decide
end Go.Proofs.YtdedamamjkpcpaaGreatDoor
