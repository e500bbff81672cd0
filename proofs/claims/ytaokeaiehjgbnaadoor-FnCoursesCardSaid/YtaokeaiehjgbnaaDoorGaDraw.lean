/- A group of texts, one behind the other: DrawMath, Draw. -/
import Derived.Test.YtaokeaiehjgbnaaDoorGaSrc
import Derived.Test.YtaokeaiehjgbnaaDoorGaStrs
import Derived.Test.YtaokeaiehjgbnaaDoorCourse
/- A course that is drawn letter by letter comes to its end: behind the bytes, the simple sequence brings a closer in the end. No program in sight. -/
namespace Go.Proofs.YtaokeaiehjgbnaaDoor
set_option linter.unusedSimpArgs false
set_option linter.unusedVariables false
set_option linter.unnecessarySimpa false

def e48 : Nat := 281474976710656
theorem e48_eq : 2 ^ 48 = e48 := by decide
/-- behind the bytes -/
def Src.past (bs : List UInt8) (st : Src) : Prop := bs.length ≤ st.at_
theorem past_next {bs : List UInt8} {st : Src} (h : st.past bs) : (st.next bs).past bs := Nat.le_succ_of_le h
theorem next_seed {bs : List UInt8} {st : Src} (h : st.past bs) : (st.next bs).seed % e48 = (srcA * st.seed + srcC) % e48 := by
  have h0 : byteAt bs st.at_ = 0 := byteAt_end h
  unfold Src.next
  dsimp only
  rw [h0]
  unfold srcA srcC m64 e48
  omega
theorem out_past {bs : List UInt8} {st : Src} (h : st.past bs) : st.out bs = (srcA * st.seed + srcC) % e48 / 1099511627776 := by
  have h1 := next_seed h
  unfold Src.out
  rw [if_neg (by unfold Src.past at h; omega)]
  rw [← h1]
  unfold e48
  omega
def itN (bs : List UInt8) : Nat → Src → Src
  | 0, s => s
  | n + 1, s => itN bs n (s.next bs)
theorem itF_mod {a c x y : Nat} (h : x % e48 = y % e48) (n : Nat) : itF a c n x % e48 = itF a c n y % e48 := by
  induction n generalizing x y with
  | zero => exact h
  | succ n ih =>
    refine ih ?_
    rw [Nat.add_mod, Nat.mul_mod, h, ← Nat.mul_mod, ← Nat.add_mod]
theorem itN_seed {bs : List UInt8} (n : Nat) : ∀ {st : Src}, st.past bs → (itN bs n st).seed % e48 = itF srcA srcC n st.seed % e48 := by
  induction n with
  | zero => intro st _; rfl
  | succ n ih =>
    intro st h
    show (itN bs n (st.next bs)).seed % e48 = itF srcA srcC n (srcA * st.seed + srcC) % e48
    rw [ih (past_next h)]
    exact itF_mod (next_seed h) n
theorem itN_reach {bs : List UInt8} {st : Src} (h : st.past bs) (t : Nat) : ∃ j, j < e48 ∧ (itN bs j st).seed % e48 = t % e48 := by
  obtain ⟨j, hj, hr⟩ := itF_reach (a := srcA) (c := srcC) (u := 1591034055961698251) (v := 721347520444481703) (by unfold srcA; rfl) (by unfold srcC; rfl) 48 st.seed t
  rw [e48_eq] at hj hr
  exact ⟨j, hj, (itN_seed j h).trans hr⟩
/-- three draws behind a certain place -/
theorem tgt_one {bs : List UInt8} {st : Src} (h : st.past bs) (ht : st.seed % e48 = 281) : st.out bs % 10 = 9 ∧ (st.next bs).seed % e48 = (srcA * 281 + srcC) % e48 := by
  have h1 := next_seed h
  have h2 := out_past h
  have h3 : (srcA * st.seed + srcC) % e48 = (srcA * 281 + srcC) % e48 := by
    rw [Nat.add_mod, Nat.mul_mod, ht]
    conv => rhs; rw [Nat.add_mod, Nat.mul_mod]
    rfl
  rw [h3] at h1 h2
  exact ⟨by rw [h2]; decide +kernel, h1⟩
theorem tgt_step {bs : List UInt8} {st : Src} {x y : Nat} (h : st.past bs) (ht : st.seed % e48 = x % e48) (hy : (srcA * x + srcC) % e48 = y % e48) (ho : y % e48 / 1099511627776 % 10 = 9) : st.out bs % 10 = 9 ∧ (st.next bs).seed % e48 = y % e48 := by
  have h1 := next_seed h
  have h2 := out_past h
  have h3 : (srcA * st.seed + srcC) % e48 = (srcA * x + srcC) % e48 := by
    rw [Nat.add_mod, Nat.mul_mod, ht, ← Nat.mul_mod, ← Nat.add_mod]
  rw [h3, hy] at h1 h2
  exact ⟨by rw [h2]; exact ho, h1⟩
theorem tgt_three {bs : List UInt8} {st : Src} (h : st.past bs) (ht : st.seed % e48 = 281) : st.out bs % 10 = 9 ∧ (st.next bs).out bs % 10 = 9 ∧ ((st.next bs).next bs).out bs % 10 = 9 := by
  have a1 := tgt_step (x := 281) (y := srcA * 281 + srcC) h (by rw [ht]; rfl) rfl (by decide +kernel)
  have a2 := tgt_step (x := srcA * 281 + srcC) (y := srcA * (srcA * 281 + srcC) + srcC) (past_next h) a1.2 rfl (by decide +kernel)
  have a3 := tgt_step (x := srcA * (srcA * 281 + srcC) + srcC) (y := srcA * (srcA * (srcA * 281 + srcC) + srcC) + srcC) (past_next (past_next h)) a2.2 rfl (by decide +kernel)
  exact ⟨a1.1, a2.1, a3.1⟩
/-- one round: three or two draws -/
def roundOne (bs : List UInt8) (st : Src) : Int := pickV bs (st.next bs) 2
def roundS (bs : List UInt8) (st : Src) : Src := if roundOne bs st = 0 then ((st.next bs).next bs).next bs else (st.next bs).next bs
def roundB (bs : List UInt8) (st : Src) : UInt8 := if roundOne bs st = 0 then (if pickV bs ((st.next bs).next bs) 2 = 0 then 83 else 72) else [83, 72, 84, 66, 67].getD (pickV bs st 5).toNat 0
theorem pick5 (bs : List UInt8) (st : Src) : pickV bs st 5 = ((st.out bs % 5 : Nat) : Int) := by unfold pickV; rw [if_neg (by omega), if_pos (by omega)]; omega
theorem pick2 (bs : List UInt8) (st : Src) : pickV bs st 2 = ((st.out bs % 2 : Nat) : Int) := by unfold pickV; rw [if_neg (by omega), if_pos (by omega)]; omega
theorem pickS5 (bs : List UInt8) (st : Src) : pickS bs st 5 = st.next bs := by unfold pickS; rw [if_neg (by omega), if_pos (by omega)]
theorem pickS2 (bs : List UInt8) (st : Src) : pickS bs st 2 = st.next bs := by unfold pickS; rw [if_neg (by omega), if_pos (by omega)]
def gooD (bs : List UInt8) (st : Src) : Prop := pickV bs st 5 = 4 ∧ roundOne bs st ≠ 0
theorem gooD_B {bs : List UInt8} {st : Src} (h : gooD bs st) : roundB bs st = 67 := by unfold roundB; rw [if_neg h.2, h.1]; rfl
theorem roundB_pc (bs : List UInt8) (st : Src) : roundB bs st = 83 ∨ roundB bs st = 72 ∨ roundB bs st = 84 ∨ roundB bs st = 66 ∨ roundB bs st = 67 := by
  unfold roundB
  split
  · split
    · exact .inl rfl
    · exact .inr (.inl rfl)
  · rw [pick5]
    have : st.out bs % 5 < 5 := Nat.mod_lt _ (by decide)
    generalize st.out bs % 5 = k at this
    have h5 : k = 0 ∨ k = 1 ∨ k = 2 ∨ k = 3 ∨ k = 4 := by omega
    rcases h5 with rfl | rfl | rfl | rfl | rfl
    · exact .inl rfl
    · exact .inr (.inl rfl)
    · exact .inr (.inr (.inl rfl))
    · exact .inr (.inr (.inr (.inl rfl)))
    · exact .inr (.inr (.inr (.inr rfl)))
def itR (bs : List UInt8) : Nat → Src → Src
  | 0, s => s
  | n + 1, s => itR bs n (roundS bs s)
theorem gooD_of {bs : List UInt8} {st : Src} (h1 : st.out bs % 10 = 9) (h2 : (st.next bs).out bs % 10 = 9) : gooD bs st := by
  refine ⟨by rw [pick5]; omega, ?_⟩
  unfold roundOne
  rw [pick2]
  omega
theorem comes (bs : List UInt8) : ∀ (j : Nat) (st : Src), st.past bs → (itN bs j st).seed % e48 = 281 → ∃ n, n ≤ j + 1 ∧ gooD bs (itR bs n st) := by
  intro j
  induction j using Nat.strongRecOn with
  | ind j ih =>
    intro st h ht
    have hj : j = 0 ∨ j = 1 ∨ j = 2 ∨ ∃ i, j = i + 3 := by
      by_cases h3 : 3 ≤ j
      · exact .inr (.inr (.inr ⟨j - 3, by omega⟩))
      · omega
    rcases hj with rfl | rfl | rfl | ⟨i, rfl⟩
    · have a := tgt_three (st := st) h ht
      exact ⟨0, Nat.zero_le _, gooD_of a.1 a.2.1⟩
    · have a := tgt_three (past_next h) ht
      have hr : roundS bs st = (st.next bs).next bs := by
        unfold roundS roundOne
        rw [pick2, if_neg (by have := a.1; omega)]
      refine ⟨1, by omega, ?_⟩
      show gooD bs (roundS bs st)
      rw [hr]
      exact gooD_of a.2.1 a.2.2
    · have a := tgt_three (past_next (past_next h)) ht
      refine ⟨1, by omega, ?_⟩
      show gooD bs (roundS bs st)
      unfold roundS
      split
      · exact gooD_of a.2.1 a.2.2
      · exact gooD_of a.1 a.2.1
    · by_cases h0 : roundOne bs st = 0
      · have hr : roundS bs st = ((st.next bs).next bs).next bs := by unfold roundS; rw [if_pos h0]
        obtain ⟨n, hn, hg⟩ := ih i (by omega) (roundS bs st) (by rw [hr]; exact past_next (past_next (past_next h))) (by rw [hr]; exact ht)
        exact ⟨n + 1, by omega, hg⟩
      · have hr : roundS bs st = (st.next bs).next bs := by unfold roundS; rw [if_neg h0]
        obtain ⟨n, hn, hg⟩ := ih (i + 1) (by omega) (roundS bs st) (by rw [hr]; exact past_next (past_next h)) (by rw [hr]; exact ht)
        exact ⟨n + 1, by omega, hg⟩
theorem exists_min {p : Nat → Prop} (h : ∃ n, p n) : ∃ n, p n ∧ ∀ m, m < n → ¬ p m := by
  obtain ⟨n, hn⟩ := h
  induction n using Nat.strongRecOn with
  | ind n ih =>
    by_cases h2 : ∃ m, m < n ∧ p m
    · obtain ⟨m, hm, hp⟩ := h2
      exact ih m hm hp
    · exact ⟨n, hn, fun m hm hp => h2 ⟨m, hm, hp⟩⟩
open Classical in
/-- how many rounds until a closer -/
noncomputable def roundsTo (bs : List UInt8) (st : Src) : Nat := if h : ∃ n, gooD bs (itR bs n st) then (exists_min h).choose else 0
theorem roundsTo_le {bs : List UInt8} {st : Src} {n : Nat} (h : gooD bs (itR bs n st)) : roundsTo bs st ≤ n := by
  have h1 : ∃ n, gooD bs (itR bs n st) := ⟨n, h⟩
  unfold roundsTo
  rw [dif_pos h1]
  have h2 := (exists_min h1).choose_spec.2 n
  by_cases h3 : n < (exists_min h1).choose
  · exact absurd h (h2 h3)
  · omega
theorem roundsTo_good {bs : List UInt8} {st : Src} (h : ∃ n, gooD bs (itR bs n st)) : gooD bs (itR bs (roundsTo bs st) st) := by
  unfold roundsTo
  rw [dif_pos h]
  exact (exists_min h).choose_spec.1
theorem comes_past {bs : List UInt8} {st : Src} (h : st.past bs) : ∃ n, n ≤ e48 ∧ gooD bs (itR bs n st) := by
  obtain ⟨j, hj, hr⟩ := itN_reach h 281
  obtain ⟨n, hn, hg⟩ := comes bs j st h hr
  exact ⟨n, by omega, hg⟩
theorem roundsTo_bd {bs : List UInt8} {st : Src} (h : st.past bs) : roundsTo bs st ≤ e48 := by
  obtain ⟨n, hn, hg⟩ := comes_past h
  exact Nat.le_trans (roundsTo_le hg) hn
theorem roundsTo_less {bs : List UInt8} {st : Src} (h : st.past bs) (hb : ¬ gooD bs st) : roundsTo bs (roundS bs st) < roundsTo bs st := by
  obtain ⟨n, _, hg⟩ := comes_past h
  have hg2 := roundsTo_good ⟨n, hg⟩
  cases hk : roundsTo bs st with
  | zero => rw [hk] at hg2; exact absurd hg2 hb
  | succ k => rw [hk] at hg2; exact Nat.lt_succ_of_le (roundsTo_le hg2)
/-- what is left of the drawing -/
noncomputable def phase (bs : List UInt8) (st : Src) : Nat := if st.at_ < bs.length then (bs.length - st.at_) + 2 * e48 else roundsTo bs st
noncomputable def toDo (bs : List UInt8) (st : Src) (left : Nat) : Nat := left * (4 * e48) + phase bs st
theorem phase_bd {bs : List UInt8} (hb : bs.length ≤ 1000000000) (st : Src) : phase bs st < 4 * e48 := by
  unfold phase
  split
  · unfold e48; omega
  · rename_i h
    have := roundsTo_bd (bs := bs) (st := st) (by unfold Src.past; omega)
    unfold e48 at *; omega
theorem roundS_at (bs : List UInt8) (st : Src) : st.at_ + 2 ≤ (roundS bs st).at_ ∧ (roundS bs st).at_ ≤ st.at_ + 3 := by
  unfold roundS
  split
  · exact ⟨Nat.le_succ _, Nat.le_refl _⟩
  · exact ⟨Nat.le_refl _, Nat.le_succ _⟩
theorem roundS_seed (bs : List UInt8) (st : Src) : (roundS bs st).seed < m64 := by
  unfold roundS
  split <;> exact Nat.mod_lt _ (by decide)
theorem phase_less {bs : List UInt8} {st : Src} (hb : ¬ gooD bs st) : phase bs (roundS bs st) < phase bs st := by
  have h1 := roundS_at bs st
  unfold phase
  by_cases h : st.at_ < bs.length
  · rw [if_pos h]
    split
    · omega
    · rename_i h2
      have := roundsTo_bd (bs := bs) (st := roundS bs st) (by unfold Src.past; omega)
      omega
  · rw [if_neg h, if_neg (by omega)]
    exact roundsTo_less (by unfold Src.past; omega) hb
theorem toDo_less {bs : List UInt8} {st : Src} {left : Nat} (hb : ¬ gooD bs st) : toDo bs (roundS bs st) left < toDo bs st left := by
  have := phase_less hb
  unfold toDo; omega
theorem toDo_taken {bs : List UInt8} (hl : bs.length ≤ 1000000000) {st : Src} {left left' : Nat} (h : left' < left) : toDo bs (roundS bs st) left' < toDo bs st left := by
  have := phase_bd hl (roundS bs st)
  have h2 : (left' + 1) * (4 * e48) ≤ left * (4 * e48) := Nat.mul_le_mul_right _ h
  rw [Nat.add_mul, Nat.one_mul] at h2
  unfold toDo; omega
theorem toDo_bd {bs : List UInt8} (hl : bs.length ≤ 1000000000) (st : Src) {left : Nat} (h : left ≤ 40) : toDo bs st left ≤ 50000000000000000 := by
  have := phase_bd hl st
  have h2 : left * (4 * e48) ≤ 40 * (4 * e48) := Nat.mul_le_mul_right _ h
  have h3 : 40 * (4 * e48) + 4 * e48 ≤ 50000000000000000 := by decide +kernel
  unfold toDo
  exact Nat.le_trans (Nat.le_of_lt (Nat.add_lt_add_of_le_of_lt h2 this)) h3
end Go.Proofs.YtaokeaiehjgbnaaDoor

/- A course that is drawn: the reference's drawing ends, and what it gives is a course of the length that was asked. -/
namespace Go.Proofs.YtaokeaiehjgbnaaDoor
open Go.RowKit
set_option linter.unusedSimpArgs false
set_option linter.unusedVariables false
set_option linter.unnecessarySimpa false

theorem grown_then {a b c : World} {row row' : Option Nat} (h : a.grownBy b row) (k : b.grownBy c row') (hr : ∀ j, row' = some j → a.heap.size ≤ j) : a.grownBy c row := by
  refine ⟨k.os.trans h.os, k.tape.trans h.tape, k.output.trans h.output, Nat.le_trans h.size k.size, fun i hi hne => ?_⟩
  refine (k.block i (Nat.lt_of_lt_of_le hi h.size) (fun e => ?_)).trans (h.block i hi hne)
  have := hr i e.symm
  omega
theorem blk_grownS {w w' : World} {row : Option Nat} {b : Nat} {o : Obj} (h : w.heap[b]? = some o) (g : w.grownBy w' row) (hne : some b ≠ row) : w'.heap[b]? = some o := (g.block b (lt_of_block h) hne).trans h
/-- a byte is appended; the rest is as it was -/
theorem wpList_append_u8h {w0 w : World} {base : Nat} {ops : Array Oper} {rest : List Oper} {o : Oper} {a : Act} {Q : Exit → Act → World → Prop} (hgd : o.guard = none) (s x : Operand)
    (ho : o.op = .call { callee := .builtin .append, args := #[s, x], argTypes := #[38, 38] })
    (v : Value) (l : List UInt8) (b : UInt8) (hs : a.eval s = v) (hw : w = w0.alloc (.cells #[.int .u8 (b.toNat : Int)] 5)) (hx : a.eval x = .slice (some ⟨w0.heap.size, 0, none⟩) 1 1)
    (hown : OwnB w0 base v l) (hbase : base ≤ w0.heap.size) (hlen : l.length ≤ 10000000)
    (h : ∀ v' w', OwnB w' base v' (l ++ [b]) → w0.grownBy w' v.ownBlock → wpList Tryd.prog ops Q rest (a.put o.dst v') w') : wpList Tryd.prog ops Q (o :: rest) a w := by
  obtain ⟨i0, hi, hz0, hz1, hz2⟩ := info_parts info_u8
  subst hw
  refine wpList_append_own _ hgd s x 38 ho base 5 i0 (.int .u8 0) 1 1 Tryd.underlying38 hi hz0 hz1 hz2 rfl (by decide) v l.length (l.map u8V) hs (World.ownsRow.alloc hown _)
    ⟨w0.heap.size, 0, none⟩ 1 1 [.int .u8 (b.toNat : Int)] hx rfl (cells_new _ _ _) (by intro u hu; simp at hu; subst hu; rfl) (by unfold maxLen; omega) (by omega) (by simp; omega) ?_
  intro v' w' ho' hg _
  refine h v' w' ?_ ((World.grownBy_alloc w0 _ _).trans hg)
  unfold OwnB; simpa [u8V] using ho'
theorem OwnB.blk {w : World} {base n cap : Nat} {ao : Option Addr} {l : List UInt8} (h : OwnB w base (.slice ao n cap) l) : ∀ k, (Value.slice ao n cap).ownBlock = some k → base ≤ k ∧ k < w.heap.size := World.ownsRow.lt h
theorem OwnB.kept {w w' : World} {base : Nat} {v : Value} {l : List UInt8} {row : Option Nat} (h : OwnB w base v l) (hg : w.grownBy w' row) (hne : ∀ k, row = some k → k < base) : OwnB w' base v l := by
  refine World.ownsRow.kept h hg ?_
  cases hr : row with
  | none => cases hv : v.ownBlock <;> simp
  | some k =>
    right
    intro e
    have := World.ownsRow.lt h k e
    have := hne k hr
    omega
/-- the source in a world -/
def srcOf (w : World) (g : Nat) : Src := ⟨(match w.cell? ⟨g, 1, none⟩ with | some (.int _ a) => a.toNat | _ => 0), (match w.cell? ⟨g, 2, none⟩ with | some (.int _ a) => a.toNat | _ => 0)⟩
theorem srcOf_at {w : World} {g : Nat} {ao : Option Addr} {n c : Nat} {st : Src} (h : SrcAt w g ao n c st) : srcOf w g = st := by
  have hc := h.cells
  unfold srcOf
  rw [hc.2.1, hc.2.2.1]
  simp
def ordS : ByteArray := ⟨#[83, 72, 84, 66, 67]⟩
theorem ordS_size : ordS.size = 5 := rfl
theorem ordS_at (j : Nat) (h : j < ordS.size) : ordS[j] = [83, 72, 84, 66, 67].getD j 0 := by
  obtain ⟨h1, h2⟩ := byte_at ordS j h
  have h3 : [83, 72, 84, 66, 67].getD j 0 = (bts ordS).getD j 0 := rfl
  rw [h3, List.getD_eq_getElem?_getD, List.getElem?_eq_getElem h1, Option.getD_some]
  exact h2.symm
theorem isPc_round (bs : List UInt8) (st : Src) : isPc (roundB bs st) = true := by
  rcases roundB_pc bs st with h | h | h | h | h <;> rw [h] <;> decide
theorem qB_round (bs : List UInt8) (st : Src) : 1 ≤ qB (roundB bs st) := by
  rcases roundB_pc bs st with h | h | h | h | h <;> rw [h] <;> decide
theorem draw_take {bs : List UInt8} (hl : bs.length ≤ 1000000000) {st : Src} {lf q : Nat} {K : Nat} (hq : 1 ≤ q) (hf : q ≤ lf) (hK : st.at_ + 3 * toDo bs st lf ≤ K) :
    toDo bs (roundS bs st) (lf - q) < toDo bs st lf ∧ (roundS bs st).at_ + 3 * toDo bs (roundS bs st) (lf - q) ≤ K := by
  have h1 := toDo_taken hl (st := st) (left := lf) (left' := lf - q) (by omega)
  have h2 := (roundS_at bs st).2
  exact ⟨h1, by omega⟩
theorem draw_skip {bs : List UInt8} {st : Src} {lf : Nat} {K : Nat} (h0 : 1 ≤ lf) (hf : ¬ qB (roundB bs st) ≤ (lf : Int)) (hK : st.at_ + 3 * toDo bs st lf ≤ K) :
    toDo bs (roundS bs st) lf < toDo bs st lf ∧ (roundS bs st).at_ + 3 * toDo bs (roundS bs st) lf ≤ K := by
  have h1 := toDo_less (bs := bs) (st := st) (left := lf) (fun hg => hf (by rw [gooD_B hg, show qB 67 = 1 by decide]; omega))
  have h2 := (roundS_at bs st).2
  exact ⟨h1, by omega⟩
theorem qSum_ge' {l : List UInt8} (h : l.all isPc = true) : (l.length : Int) ≤ qSum l := by
  induction l with
  | nil => simp [qSum_nil]
  | cons a l ih =>
    rw [List.all_cons, Bool.and_eq_true] at h
    have h1 := ih h.2
    have h2 : qB a ≠ 0 := by have := h.1; unfold isPc at this; simpa using this
    have := qB_bd a
    rw [qSum_cons, List.length_cons]
    omega
theorem s_l06OrderO (w : World) : Calls Tryd.prog 76 #[] w (RetV (.string ordS) w) := by
  go_enter Tryd.func76, Tryd.ntmps76
  go_wp2
  go_ret
  exact RetV.mk rfl
/-- a drawn course is handed back, and the source has gone on -/
def RetDrawn (g : Nat) (ao : Option Addr) (n c : Nat) (L : Nat) (B : Nat) (w : World) (e : Ending) (w' : World) : Prop :=
  ∃ l st', e = .returned (.string (mkS l)) ∧ l.all isPc = true ∧ qSum l = (L : Int) ∧ st'.Ok B ∧ SrcAt w' g ao n c st' ∧ w.grownBy w' (some g)
set_option maxRecDepth 100000 in
set_option maxHeartbeats 4000000 in
theorem s_l06Draw (g : Nat) (ao : Option Addr) (n c : Nat) (bs : List UInt8) (st0 : Src) (L : Nat) (w : World) (h : SrcAt w g ao n c st0) (W0 : World) (e0 : Ext W0 w) (hbW : U8s W0 ao n bs) (hg : W0.heap.size ≤ g) (B : Nat) (hB : B ≤ 2000000000000000000) (ha : st0.Ok B) (hL1 : 1 ≤ L) (hL2 : L ≤ 40) :
    Calls Tryd.prog 51 #[.pointer (some ⟨g, 0, none⟩), .int .i64 L] w (RetDrawn g ao n c L (B + 150000000000000000) w) := by
  have hlen : bs.length ≤ 1000000000 := by rw [hbW.1]; exact hbW.2.1
  have hK : st0.at_ + 3 * toDo bs st0 L ≤ B + 150000000000000000 := by have := toDo_bd hlen st0 hL2; have := ha.at_; omega
  have hgs : g < w.heap.size := h.cells.2.2.2.2.2
  have HGS : Hid (g < w.heap.size) := Lib.hid hgs
  have HH := Lib.hid h
  have HW0 := Lib.hid hbW
  have HG0 : Hid (W0.heap.size ≤ g) := Lib.hid hg
  have HE0 := Lib.hid e0
  have HLEN := Lib.hid hlen
  have HSD := Lib.hid ha.seed
  have HBB := Lib.hid hB
  have HK := Lib.hid hK
  clear h hbW ha e0 hK hlen hgs hg hB
  go_enter Tryd.func51, Tryd.ntmps51
  go_wp2
  go_loopw [5, 6] (fun v q wr => ∃ (st : Src) (l : List UInt8) (lf : Nat), q = .int .i64 lf ∧ lf ≤ L ∧ Hid (OwnB wr w.heap.size v l) ∧ Hid (l.all isPc = true) ∧ Hid (qSum l + lf = (L : Int)) ∧ Hid (SrcAt wr g ao n c st) ∧ Hid (st.at_ + 3 * toDo bs st lf ≤ B + 150000000000000000) ∧ Hid (st.seed < m64) ∧ Hid (w.grownBy wr (some g))) (fun _ q wr => toDo bs (srcOf wr g) (intOf q).toNat)
  case atStart => exact ⟨st0, [], L, rfl, Nat.le_refl _, Lib.hid (OwnB.empty (Ext.refl w)), Lib.hid rfl, Lib.hid (by rw [qSum_nil]; omega), Lib.hid (blk_grownS HH.out (World.grownBy_alloc w _ none) (by simp)), HK, HSD, Lib.hid (World.grownBy_alloc w _ _)⟩
  case round =>
    obtain ⟨st, l, lf, rfl, hlf, HO, HPC, HQS, HS, HKK, HSE, HGR⟩ := hrel
    have HE := Lib.hid (HE0.out.grown HGR.out (fun k hk => by cases hk; exact HG0.out))
    have hll := qSum_ge' (l := l) HPC.out
    have hqs := HQS.out
    have hl40 : l.length ≤ 40 := by omega
    clear hll hqs
    by_cases hpos : 0 < lf
    · have hposI : (0 : Int) < (lf : Int) := by omega
      have hok : st.Ok (B + 150000000000000000) := ⟨by have := HKK.out; omega, HSE.out⟩
      have hP1 := s_pick g ao n c bs st 5 wr HS.out (HW0.out.ext HE.out) W0 HE.out HW0.out HG0.out (hok.mono (by have := HBB.out; omega)) (by decide)
      rw [pick5, pickS5] at hP1
      have hO1 := fun W (hs : SrcAt W g ao n c (st.next bs)) (he : Ext W0 W) => s_one g ao n c bs (st.next bs) 2 W hs W0 he HW0.out HG0.out (hok.next.mono (by have := HBB.out; omega)) (by decide)
      rw [pickS2] at hO1
      have hP2 := fun W (hs : SrcAt W g ao n c ((st.next bs).next bs)) (he : Ext W0 W) => s_pick g ao n c bs ((st.next bs).next bs) 2 W hs (HW0.out.ext he) W0 he HW0.out HG0.out (hok.next.next.mono (by have := HBB.out; omega)) (by decide)
      rw [pickS2, pick2] at hP2
      obtain ⟨j, hj⟩ : ∃ j, st.out bs % 5 = j := ⟨_, rfl⟩
      have hj5 : j < ordS.size := by rw [ordS_size, ← hj]; exact Nat.mod_lt _ (by decide)
      have hrB : roundOne bs st ≠ 0 → roundB bs st = ordS[j] := fun h => by
        unfold roundB; rw [if_neg h, pick5, hj, ordS_at j hj5]; rfl
      have hrB0 : roundOne bs st = 0 → ((st.next bs).next bs).out bs % 2 = 0 → roundB bs st = 83 := fun h h2 => by
        unfold roundB; rw [if_pos h, pick2, h2]; rfl
      have hrB1 : roundOne bs st = 0 → ((st.next bs).next bs).out bs % 2 = 1 → roundB bs st = 72 := fun h h2 => by
        unfold roundB; rw [if_pos h, pick2, h2]; rfl
      have hrS : roundOne bs st ≠ 0 → roundS bs st = (st.next bs).next bs := fun h => by unfold roundS; rw [if_neg h]
      have hrS0 : roundOne bs st = 0 → roundS bs st = ((st.next bs).next bs).next bs := fun h => by unfold roundS; rw [if_pos h]
      have hTK := fun q => @draw_take bs HLEN.out st lf q (B + 150000000000000000)
      have hSK := @draw_skip bs st lf (B + 150000000000000000) (by omega)
      have hQ1 := qB_round bs st
      have hQ4 := qB_bd (roundB bs st)
      have hPCR := isPc_round bs st
      have HRSD := Lib.hid (roundS_seed bs st)
      have hroe : roundOne bs st = pickV bs (st.next bs) 2 := rfl
      rw [← hroe] at hO1
      obtain ⟨x2, hx2⟩ : ∃ x, ((st.next bs).next bs).out bs % 2 = x := ⟨_, rfl⟩
      have hx22 : x2 < 2 := by omega
      rw [hx2] at hP2 hrB0 hrB1
      rw [hj] at hP1
      have hjI : (j : Int) < (ordS.size : Int) := by omega
      obtain ⟨bb, hbb⟩ : ∃ bb, roundB bs st = bb := ⟨_, rfl⟩
      rw [hbb] at hrB hrB0 hrB1 hSK hQ1 hQ4 hPCR
      obtain ⟨q, hq⟩ := Int.eq_ofNat_of_zero_le (show 0 ≤ qB bb by omega)
      have HQB : Hid (qB bb = (q : Int)) := Lib.hid hq
      rw [hq] at hSK hQ1 hQ4
      have HTK := Lib.hid hTK
      have HSK := Lib.hid hSK
      have HP1 := Lib.hid hP1
      have HO1 := Lib.hid hO1
      have HP2 := Lib.hid hP2
      have HRB := Lib.hid hrB
      have HRB0 := Lib.hid hrB0
      have HRB1 := Lib.hid hrB1
      have HRS := Lib.hid hrS
      have HRS0 := Lib.hid hrS0
      have HPCR := Lib.hid hPCR
      clear hTK hSK hP1 hO1 hP2 hrB hrB0 hrB1 hrS hrS0 hq hbb hj hx2 hroe hok hPCR
      have HGr := HGR
      have HOWr := HO
      by_cases hr : roundOne bs st = 0
      · have hrb : (roundOne bs st == 0) = true := by simp [hr]
        have HR := Lib.hid (HRS0.out hr)
        rw [hrb] at HO1
        have hx01 : x2 = 0 ∨ x2 = 1 := by omega
        rcases hx01 with rfl | rfl
        · have HA : Hid (bb = 83) := Lib.hid (HRB0.out hr rfl)
          have HQC : Hid (∀ W, Calls Tryd.prog 78 #[.int .u8 (83 : Int)] W (RetV (.int .i64 q) W)) := Lib.hid (fun W => by have h := s_l02Quarters (83 : Int) W; rw [show qI (83 : Int) = (q : Int) from by rw [← HQB.out, HA.out]; rfl] at h; exact h)
          clear hr hrb
          by_cases hfit : q ≤ lf
          · have hfitI : (q : Int) ≤ (lf : Int) := by omega
            go_wp2_with (go_at_call 76; refine (s_l06OrderO _).mono ?_; rintro e w' ⟨rfl, rfl⟩)
            refine HP1.out.mono ?_
            rintro e w1 ⟨rfl, s1, g1⟩
            have HS1 := Lib.hid s1
            have HG1 := Lib.hid (HGr.out.trans g1)
            have HE1 := Lib.hid (HE0.out.grown HG1.out (fun k hk => by cases hk; exact HG0.out))
            have HOW1 := Lib.hid (HOWr.out.kept g1 (fun k hk => by cases hk; exact HGS.out))
            clear s1 g1
            go_wp2_with fail
            refine (HO1.out _ HS1.out HE1.out).mono ?_
            rintro e w2 ⟨rfl, s2, g2⟩
            have HS2 := Lib.hid s2
            have HG2 := Lib.hid (HG1.out.trans g2)
            have HE2 := Lib.hid (HE0.out.grown HG2.out (fun k hk => by cases hk; exact HG0.out))
            have HOW2 := Lib.hid (HOW1.out.kept g2 (fun k hk => by cases hk; exact HGS.out))
            clear s2 g2
            go_wp2_with fail
            refine (HP2.out _ HS2.out HE2.out).mono ?_
            rintro e w3 ⟨rfl, s3, g3⟩
            have HS3 := Lib.hid s3
            have HG3 := Lib.hid (HG2.out.trans g3)
            have HE3 := Lib.hid (HE0.out.grown HG3.out (fun k hk => by cases hk; exact HG0.out))
            have HOW3 := Lib.hid (HOW2.out.kept g3 (fun k hk => by cases hk; exact HGS.out))
            clear s3 g3
            go_wp2_with (first
              | (go_at_call 78; refine (HQC.out _).mono ?_; rintro e w' ⟨rfl, rfl⟩)
              | (at_builtin; refine wpList_append_u8h (base := w.heap.size) rfl _ _ rfl _ l 83 rfl rfl rfl HOW3.out HG3.out.size (by omega) ?_; intro v' w4 ho4 g4; have HO4 := Lib.hid ho4; have HS4 := Lib.hid (blk_grownS HS3.out g4 (fun e => by have h1 := (World.ownsRow.lt HOW3.out g e.symm).1; have h2 := HGS.out; omega)); have HG4 := Lib.hid (grown_then HG3.out g4 (fun k hk => (World.ownsRow.lt HOW3.out k hk).1)); clear ho4 g4))
            go_roundw
            case rel =>
              refine ⟨roundS bs st, l ++ [bb], lf - q, int_eq (by omega), by omega, Lib.hid (by rw [HA.out]; exact HO4.out), Lib.hid (by rw [List.all_append, HPC.out, List.all_cons, HPCR.out]; rfl), Lib.hid (by rw [qSum_snoc, HQB.out]; have := HQS.out; omega), Lib.hid (by rw [HR.out]; exact HS4.out), Lib.hid (HTK.out q (by omega) hfit HKK.out).2, HRSD, HG4⟩
            case measure =>
              have hm := (HTK.out q (by omega) hfit HKK.out).1
              rw [HR.out] at hm
              simp only [intOf]
              rw [srcOf_at HS4.out, srcOf_at HS.out, Int.toNat_natCast, show ((lf : Int) - (q : Int)).toNat = lf - q by omega]
              exact hm
          · have hfitI : ¬ (q : Int) ≤ (lf : Int) := by omega
            go_wp2_with (go_at_call 76; refine (s_l06OrderO _).mono ?_; rintro e w' ⟨rfl, rfl⟩)
            refine HP1.out.mono ?_
            rintro e w1 ⟨rfl, s1, g1⟩
            have HS1 := Lib.hid s1
            have HG1 := Lib.hid (HGr.out.trans g1)
            have HE1 := Lib.hid (HE0.out.grown HG1.out (fun k hk => by cases hk; exact HG0.out))
            have HOW1 := Lib.hid (HOWr.out.kept g1 (fun k hk => by cases hk; exact HGS.out))
            clear s1 g1
            go_wp2_with fail
            refine (HO1.out _ HS1.out HE1.out).mono ?_
            rintro e w2 ⟨rfl, s2, g2⟩
            have HS2 := Lib.hid s2
            have HG2 := Lib.hid (HG1.out.trans g2)
            have HE2 := Lib.hid (HE0.out.grown HG2.out (fun k hk => by cases hk; exact HG0.out))
            have HOW2 := Lib.hid (HOW1.out.kept g2 (fun k hk => by cases hk; exact HGS.out))
            clear s2 g2
            go_wp2_with fail
            refine (HP2.out _ HS2.out HE2.out).mono ?_
            rintro e w3 ⟨rfl, s3, g3⟩
            have HS3 := Lib.hid s3
            have HG3 := Lib.hid (HG2.out.trans g3)
            have HE3 := Lib.hid (HE0.out.grown HG3.out (fun k hk => by cases hk; exact HG0.out))
            have HOW3 := Lib.hid (HOW2.out.kept g3 (fun k hk => by cases hk; exact HGS.out))
            clear s3 g3
            go_wp2_with (first
              | (go_at_call 78; refine (HQC.out _).mono ?_; rintro e w' ⟨rfl, rfl⟩))
            go_roundw
            case rel =>
              refine ⟨roundS bs st, l, lf, rfl, hlf, HOW3, HPC, HQS, Lib.hid (by rw [HR.out]; exact HS3.out), Lib.hid (HSK.out hfitI HKK.out).2, HRSD, HG3⟩
            case measure =>
              have hm := (HSK.out hfitI HKK.out).1
              rw [HR.out] at hm
              simp only [intOf]
              rw [srcOf_at HS3.out, srcOf_at HS.out, Int.toNat_natCast]
              exact hm
        · have HA : Hid (bb = 72) := Lib.hid (HRB1.out hr rfl)
          have HQC : Hid (∀ W, Calls Tryd.prog 78 #[.int .u8 (72 : Int)] W (RetV (.int .i64 q) W)) := Lib.hid (fun W => by have h := s_l02Quarters (72 : Int) W; rw [show qI (72 : Int) = (q : Int) from by rw [← HQB.out, HA.out]; rfl] at h; exact h)
          clear hr hrb
          by_cases hfit : q ≤ lf
          · have hfitI : (q : Int) ≤ (lf : Int) := by omega
            go_wp2_with (go_at_call 76; refine (s_l06OrderO _).mono ?_; rintro e w' ⟨rfl, rfl⟩)
            refine HP1.out.mono ?_
            rintro e w1 ⟨rfl, s1, g1⟩
            have HS1 := Lib.hid s1
            have HG1 := Lib.hid (HGr.out.trans g1)
            have HE1 := Lib.hid (HE0.out.grown HG1.out (fun k hk => by cases hk; exact HG0.out))
            have HOW1 := Lib.hid (HOWr.out.kept g1 (fun k hk => by cases hk; exact HGS.out))
            clear s1 g1
            go_wp2_with fail
            refine (HO1.out _ HS1.out HE1.out).mono ?_
            rintro e w2 ⟨rfl, s2, g2⟩
            have HS2 := Lib.hid s2
            have HG2 := Lib.hid (HG1.out.trans g2)
            have HE2 := Lib.hid (HE0.out.grown HG2.out (fun k hk => by cases hk; exact HG0.out))
            have HOW2 := Lib.hid (HOW1.out.kept g2 (fun k hk => by cases hk; exact HGS.out))
            clear s2 g2
            go_wp2_with fail
            refine (HP2.out _ HS2.out HE2.out).mono ?_
            rintro e w3 ⟨rfl, s3, g3⟩
            have HS3 := Lib.hid s3
            have HG3 := Lib.hid (HG2.out.trans g3)
            have HE3 := Lib.hid (HE0.out.grown HG3.out (fun k hk => by cases hk; exact HG0.out))
            have HOW3 := Lib.hid (HOW2.out.kept g3 (fun k hk => by cases hk; exact HGS.out))
            clear s3 g3
            go_wp2_with (first
              | (go_at_call 78; refine (HQC.out _).mono ?_; rintro e w' ⟨rfl, rfl⟩)
              | (at_builtin; refine wpList_append_u8h (base := w.heap.size) rfl _ _ rfl _ l 72 rfl rfl rfl HOW3.out HG3.out.size (by omega) ?_; intro v' w4 ho4 g4; have HO4 := Lib.hid ho4; have HS4 := Lib.hid (blk_grownS HS3.out g4 (fun e => by have h1 := (World.ownsRow.lt HOW3.out g e.symm).1; have h2 := HGS.out; omega)); have HG4 := Lib.hid (grown_then HG3.out g4 (fun k hk => (World.ownsRow.lt HOW3.out k hk).1)); clear ho4 g4))
            go_roundw
            case rel =>
              refine ⟨roundS bs st, l ++ [bb], lf - q, int_eq (by omega), by omega, Lib.hid (by rw [HA.out]; exact HO4.out), Lib.hid (by rw [List.all_append, HPC.out, List.all_cons, HPCR.out]; rfl), Lib.hid (by rw [qSum_snoc, HQB.out]; have := HQS.out; omega), Lib.hid (by rw [HR.out]; exact HS4.out), Lib.hid (HTK.out q (by omega) hfit HKK.out).2, HRSD, HG4⟩
            case measure =>
              have hm := (HTK.out q (by omega) hfit HKK.out).1
              rw [HR.out] at hm
              simp only [intOf]
              rw [srcOf_at HS4.out, srcOf_at HS.out, Int.toNat_natCast, show ((lf : Int) - (q : Int)).toNat = lf - q by omega]
              exact hm
          · have hfitI : ¬ (q : Int) ≤ (lf : Int) := by omega
            go_wp2_with (go_at_call 76; refine (s_l06OrderO _).mono ?_; rintro e w' ⟨rfl, rfl⟩)
            refine HP1.out.mono ?_
            rintro e w1 ⟨rfl, s1, g1⟩
            have HS1 := Lib.hid s1
            have HG1 := Lib.hid (HGr.out.trans g1)
            have HE1 := Lib.hid (HE0.out.grown HG1.out (fun k hk => by cases hk; exact HG0.out))
            have HOW1 := Lib.hid (HOWr.out.kept g1 (fun k hk => by cases hk; exact HGS.out))
            clear s1 g1
            go_wp2_with fail
            refine (HO1.out _ HS1.out HE1.out).mono ?_
            rintro e w2 ⟨rfl, s2, g2⟩
            have HS2 := Lib.hid s2
            have HG2 := Lib.hid (HG1.out.trans g2)
            have HE2 := Lib.hid (HE0.out.grown HG2.out (fun k hk => by cases hk; exact HG0.out))
            have HOW2 := Lib.hid (HOW1.out.kept g2 (fun k hk => by cases hk; exact HGS.out))
            clear s2 g2
            go_wp2_with fail
            refine (HP2.out _ HS2.out HE2.out).mono ?_
            rintro e w3 ⟨rfl, s3, g3⟩
            have HS3 := Lib.hid s3
            have HG3 := Lib.hid (HG2.out.trans g3)
            have HE3 := Lib.hid (HE0.out.grown HG3.out (fun k hk => by cases hk; exact HG0.out))
            have HOW3 := Lib.hid (HOW2.out.kept g3 (fun k hk => by cases hk; exact HGS.out))
            clear s3 g3
            go_wp2_with (first
              | (go_at_call 78; refine (HQC.out _).mono ?_; rintro e w' ⟨rfl, rfl⟩))
            go_roundw
            case rel =>
              refine ⟨roundS bs st, l, lf, rfl, hlf, HOW3, HPC, HQS, Lib.hid (by rw [HR.out]; exact HS3.out), Lib.hid (HSK.out hfitI HKK.out).2, HRSD, HG3⟩
            case measure =>
              have hm := (HSK.out hfitI HKK.out).1
              rw [HR.out] at hm
              simp only [intOf]
              rw [srcOf_at HS3.out, srcOf_at HS.out, Int.toNat_natCast]
              exact hm
      · have hrb : (roundOne bs st == 0) = false := by simp [hr]
        have HA : Hid (bb = ordS[j]) := Lib.hid (HRB.out hr)
        have HR := Lib.hid (HRS.out hr)
        rw [hrb] at HO1
        have HQC : Hid (∀ W, Calls Tryd.prog 78 #[.int .u8 (ordS[j].toNat : Int)] W (RetV (.int .i64 q) W)) := Lib.hid (fun W => by have h := s_l02Quarters (ordS[j].toNat : Int) W; rw [show qI (ordS[j].toNat : Int) = (q : Int) from by rw [← HQB.out, HA.out]; rfl] at h; exact h)
        clear hr hrb
        by_cases hfit : q ≤ lf
        · have hfitI : (q : Int) ≤ (lf : Int) := by omega
          go_wp2_with (go_at_call 76; refine (s_l06OrderO _).mono ?_; rintro e w' ⟨rfl, rfl⟩)
          refine HP1.out.mono ?_
          rintro e w1 ⟨rfl, s1, g1⟩
          have HS1 := Lib.hid s1
          have HG1 := Lib.hid (HGr.out.trans g1)
          have HE1 := Lib.hid (HE0.out.grown HG1.out (fun k hk => by cases hk; exact HG0.out))
          have HOW1 := Lib.hid (HOWr.out.kept g1 (fun k hk => by cases hk; exact HGS.out))
          clear s1 g1
          go_wp2_with fail
          refine (HO1.out _ HS1.out HE1.out).mono ?_
          rintro e w2 ⟨rfl, s2, g2⟩
          have HS2 := Lib.hid s2
          have HG2 := Lib.hid (HG1.out.trans g2)
          have HE2 := Lib.hid (HE0.out.grown HG2.out (fun k hk => by cases hk; exact HG0.out))
          have HOW2 := Lib.hid (HOW1.out.kept g2 (fun k hk => by cases hk; exact HGS.out))
          clear s2 g2
          go_wp2_with (first
            | (go_at_call 78; refine (HQC.out _).mono ?_; rintro e w' ⟨rfl, rfl⟩)
            | (at_builtin; refine wpList_append_u8h (base := w.heap.size) rfl _ _ rfl _ l ordS[j] rfl rfl rfl HOW2.out HG2.out.size (by omega) ?_; intro v' w4 ho4 g4; have HO4 := Lib.hid ho4; have HS4 := Lib.hid (blk_grownS HS2.out g4 (fun e => by have h1 := (World.ownsRow.lt HOW2.out g e.symm).1; have h2 := HGS.out; omega)); have HG4 := Lib.hid (grown_then HG2.out g4 (fun k hk => (World.ownsRow.lt HOW2.out k hk).1)); clear ho4 g4))
          go_roundw
          case rel =>
            refine ⟨roundS bs st, l ++ [bb], lf - q, int_eq (by omega), by omega, Lib.hid (by rw [HA.out]; exact HO4.out), Lib.hid (by rw [List.all_append, HPC.out, List.all_cons, HPCR.out]; rfl), Lib.hid (by rw [qSum_snoc, HQB.out]; have := HQS.out; omega), Lib.hid (by rw [HR.out]; exact HS4.out), Lib.hid (HTK.out q (by omega) hfit HKK.out).2, HRSD, HG4⟩
          case measure =>
            have hm := (HTK.out q (by omega) hfit HKK.out).1
            rw [HR.out] at hm
            simp only [intOf]
            rw [srcOf_at HS4.out, srcOf_at HS.out, Int.toNat_natCast, show ((lf : Int) - (q : Int)).toNat = lf - q by omega]
            exact hm
        · have hfitI : ¬ (q : Int) ≤ (lf : Int) := by omega
          go_wp2_with (go_at_call 76; refine (s_l06OrderO _).mono ?_; rintro e w' ⟨rfl, rfl⟩)
          refine HP1.out.mono ?_
          rintro e w1 ⟨rfl, s1, g1⟩
          have HS1 := Lib.hid s1
          have HG1 := Lib.hid (HGr.out.trans g1)
          have HE1 := Lib.hid (HE0.out.grown HG1.out (fun k hk => by cases hk; exact HG0.out))
          have HOW1 := Lib.hid (HOWr.out.kept g1 (fun k hk => by cases hk; exact HGS.out))
          clear s1 g1
          go_wp2_with fail
          refine (HO1.out _ HS1.out HE1.out).mono ?_
          rintro e w2 ⟨rfl, s2, g2⟩
          have HS2 := Lib.hid s2
          have HG2 := Lib.hid (HG1.out.trans g2)
          have HE2 := Lib.hid (HE0.out.grown HG2.out (fun k hk => by cases hk; exact HG0.out))
          have HOW2 := Lib.hid (HOW1.out.kept g2 (fun k hk => by cases hk; exact HGS.out))
          clear s2 g2
          go_wp2_with (first
            | (go_at_call 78; refine (HQC.out _).mono ?_; rintro e w' ⟨rfl, rfl⟩))
          go_roundw
          case rel =>
            refine ⟨roundS bs st, l, lf, rfl, hlf, HOW2, HPC, HQS, Lib.hid (by rw [HR.out]; exact HS2.out), Lib.hid (HSK.out hfitI HKK.out).2, HRSD, HG2⟩
          case measure =>
            have hm := (HSK.out hfitI HKK.out).1
            rw [HR.out] at hm
            simp only [intOf]
            rw [srcOf_at HS2.out, srcOf_at HS.out, Int.toNat_natCast]
            exact hm
    · obtain rfl : lf = 0 := by omega
      have HNE : Hid (l ≠ []) := Lib.hid (fun h => by have := HQS.out; rw [h, qSum_nil] at this; omega)
      have htx := HO.out.text HNE.out
      go_wp2
      go_ret
      refine ⟨l, st, rfl, HPC.out, by have := HQS.out; omega, ⟨by have := HKK.out; omega, HSE.out⟩, HS.out, HGR.out⟩
end Go.Proofs.YtaokeaiehjgbnaaDoor
