/- Regions that draw their order, whose writing operations come up one behind the other: one walk, in the order of the text. Worlds are numbered: F 0 ahead of the first write, F 1 behind it, and so on; all other operations yield one value in each of these worlds. Nothing here speaks of the program. -/
import Derived.Test.YtciamgnfbhijlaaLawInts
import Derived.Deep.QuietTactic
import Derived.BigQuiet
import Derived.StillTail
namespace Go.Proofs.Ytciamgnfbhijlaa
open Go.RowKit
set_option linter.unusedSimpArgs false
set_option linter.unusedVariables false
set_option linter.unnecessarySimpa false

section
variable {P : Program} {ops : Array Oper} {md : Region.Mode} {F : Nat → World} {wr : Nat → Bool}

/-- an operation that reads at most, and calls nothing -/
def plainOp : Op → Bool
  | .move _ | .assign _ | .pick _ _ _ | .load _ _ | .binOp _ _ _ _ _ | .unOp _ _ _ | .fieldAddr _ _ _ | .field _ _ _ | .indexAddr _ _ _ | .index _ _ _ | .lookup _ _ _ _ | .extract _ _ | .build _ _ => true
  | .nilCheck _ => true
  | _ => false
def noEnter : Next → Bool
  | .enter _ _ => false
  | _ => true
theorem run_value_ok {s : Sem Value} {w w' : World} {n : Next} (h : (do pure (Next.value (← s)) : Sem Next).run P w = .ok n w') : noEnter n = true := by
  rw [Sem.run_bind] at h
  cases hs : s.run P w with
  | ok v u => rw [hs] at h; simp [Result.andThen, Sem.run_pure] at h; rw [← h.1]; rfl
  | halt x u => rw [hs] at h; simp [Result.andThen] at h
theorem run_bind_ok {α β : Type} {s : Sem α} {f : α → Sem β} {w w' : World} {n : β} (h : (s >>= f).run P w = .ok n w') : ∃ v u, s.run P w = .ok v u ∧ (f v).run P u = .ok n w' := by
  rw [Sem.run_bind] at h
  cases hs : s.run P w with
  | ok v u => rw [hs] at h; exact ⟨v, u, rfl, h⟩
  | halt x u => rw [hs] at h; simp [Result.andThen] at h
theorem run_nilDeref {α : Type} {w w' : World} {n : α} (h : (runtimePanic .nilDeref : Sem α).run P w = .ok n w') : False := by
  unfold runtimePanic at h
  obtain ⟨p, u, _, h⟩ := run_bind_ok h
  dsimp only at h
  cases h
theorem plain_noEnter {ρ : Operand → Value} {o : Oper} {w w' : World} {n : Next} (hp : plainOp o.op = true) (h : (execOp ρ o).run P w = .ok n w') : noEnter n = true := by
  obtain ⟨d, op, ty, ps, af, gd⟩ := o
  dsimp only at hp
  unfold execOp at h
  cases op
  case nilCheck x =>
    dsimp only at h
    generalize ρ x = y at h
    have hret : ∀ {z : Value}, (pure (Next.value z) : Sem Next).run P w = .ok n w' → noEnter n = true := fun {z} hz => by
      simp [Sem.run_pure] at hz; rw [← hz.1]; rfl
    have hpan : (runtimePanic .nilDeref : Sem Next).run P w = .ok n w' → noEnter n = true := fun hz => by
      exact (run_nilDeref hz).elim
    split at h
    · exact hpan h
    · exact hpan h
    · exact hpan h
    · split at h
      · exact hpan h
      · obtain ⟨_, _, _, h⟩ := run_bind_ok h
        obtain ⟨_, _, _, h⟩ := run_bind_ok h
        split at h
        · obtain ⟨_, _, _, h⟩ := run_bind_ok h
          simp [Sem.run_pure] at h
          rw [← h.1]; rfl
        · simp [Sem.run_pure] at h
          rw [← h.1]; rfl
      · exact hret h
    · exact hret h
  case pick c a b =>
    dsimp only at h
    exact run_value_ok (s := (do pure (if (← asBool (ρ c)) then ρ a else ρ b))) (by simpa using h)
  case move x => simp [Sem.run_pure] at h; rw [← h.1]; rfl
  case assign x => simp [Sem.run_pure] at h; rw [← h.1]; rfl
  all_goals first | (simp [plainOp] at hp; done) | exact run_value_ok h

def writeUpon (F' : World) (v : Value) : Result Next → Prop
  | .ok (.value u) w' => w' = F' ∧ u = v
  | .ok .skip w' => w' = F' ∧ v = undef
  | _ => False
def writeAt (P : Program) (o : Oper) (a : Act) (w w' : World) (v : Value) : Prop := writeUpon w' v ((execOp a.eval o).run P w)
abbrev AnyF (F : Nat → World) : World → Prop := fun w => ∃ z, w = F z

def phOp (P : Program) (ops : Array Oper) (F : Nat → World) (wr : Nat → Bool) (i : Nat) (K : Act → Nat → Prop) (a : Act) (p : Nat) : Prop :=
  match ops[i]? with
  | none => K a p
  | some o => if Region.wanted o (yielded ops a.tmps) then
      (if wr i then ∃ v, writeAt P o a (F p) (F (p + 1)) v ∧ K (a.put o.dst v) (p + 1) else ∃ v, (∀ w, AnyF F w → o.quietAt P a (AnyF F) w v) ∧ K (a.put o.dst v) p)
    else K (a.put o.dst undef) p
def wpPh (P : Program) (ops : Array Oper) (F : Nat → World) (wr : Nat → Bool) (Q : Act → Nat → Prop) : Nat → List Oper → Act → Nat → Prop
  | _, [], a, p => Q a p
  | k, o :: rest, a, p => if Region.wanted o (yielded ops a.tmps) then
      (if wr k then ∃ v, writeAt P o a (F p) (F (p + 1)) v ∧ wpPh P ops F wr Q (k + 1) rest (a.put o.dst v) (p + 1) else ∃ v, (∀ w, AnyF F w → o.quietAt P a (AnyF F) w v) ∧ wpPh P ops F wr Q (k + 1) rest (a.put o.dst v) p)
    else wpPh P ops F wr Q (k + 1) rest (a.put o.dst undef) p
theorem phOp_mono {i p : Nat} {a : Act} {K K' : Act → Nat → Prop} (h : ∀ a p, K a p → K' a p) (hh : phOp P ops F wr i K a p) : phOp P ops F wr i K' a p := by
  unfold phOp at *
  split
  · rename_i ho; simp only [ho] at hh; exact h _ _ hh
  · rename_i o ho
    simp only [ho] at hh
    split
    · rename_i hw
      simp only [hw, if_true] at hh
      split
      · rename_i hr; simp only [hr, if_true] at hh; obtain ⟨v, h1, h2⟩ := hh; exact ⟨v, h1, h _ _ h2⟩
      · rename_i hr; simp only [hr] at hh; obtain ⟨v, h1, h2⟩ := hh; exact ⟨v, h1, h _ _ h2⟩
    · rename_i hw; simp only [hw] at hh; exact h _ _ hh
def wpAnyPh (P : Program) (md : Region.Mode) (ops : Array Oper) (F : Nat → World) (wr : Nat → Bool) (Q : Act → Nat → Prop) : Nat → Array Bool → Act → Nat → Prop
  | 0, listed, a, p => Region.ready md ops listed = [] ∧ Q a p
  | fuel + 1, listed, a, p =>
    (Region.ready md ops listed = [] → Q a p) ∧
    ∀ i ∈ Region.ready md ops listed, phOp P ops F wr i (wpAnyPh P md ops F wr Q fuel (listed.setIfInBounds i true)) a p

/-- all operations but the writing ones are plain -/
def restPlain (ops : Array Oper) (wr : Nat → Bool) : Bool := (List.range ops.size).all fun i => wr i || (match ops[i]? with | some o => plainOp o.op | none => true)
theorem restPlain_spec (h : restPlain ops wr = true) {i : Nat} {o : Oper} (hi : ops[i]? = some o) (hw : wr i = false) : plainOp o.op = true := by
  have hlt : i < ops.size := (Array.getElem?_eq_some_iff.1 hi).1
  have := List.all_eq_true.1 h i (List.mem_range.2 hlt)
  rw [hw, hi] at this
  simpa using this
theorem wpOp_of_phOp {i p : Nat} {a : Act} {K : Act → Nat → Prop} {K' : Act → World → Prop} {Q' : Exit → Act → World → Prop} (hp : restPlain ops wr = true) (h : ∀ a q, K a q → K' a (F q)) (hh : phOp P ops F wr i K a p) : wpOp P ops Q' i K' a (F p) := by
  unfold phOp at hh
  unfold wpOp
  split
  · rename_i ho; simp only [ho] at hh; exact h _ _ hh
  · rename_i o ho
    simp only [ho] at hh
    split
    · rename_i hw
      simp only [hw, if_true] at hh
      left
      unfold Oper.wp
      cases hr : wr i with
      | true =>
        simp only [hr, if_true] at hh
        obtain ⟨v, h1, h2⟩ := hh
        unfold writeAt at h1
        generalize (execOp a.eval o).run P (F p) = r at h1
        cases r with
        | ok n w' =>
          cases n <;> simp only [writeUpon] at h1 <;> simp only [Oper.upon]
          case value u => obtain ⟨e1, e2⟩ := h1; rw [e1, e2]; exact h _ _ h2
          case skip => obtain ⟨e1, e2⟩ := h1; rw [e1, ← e2]; exact h _ _ h2
        | halt x w' => simp only [writeUpon] at h1
      | false =>
        simp only [hr] at hh
        obtain ⟨v, h1, h2⟩ := hh
        have h3 := h1 _ ⟨p, rfl⟩
        have hpl := restPlain_spec hp ho hr
        unfold Oper.quietAt at h3
        generalize hrr : (execOp a.eval o).run P (F p) = r at h3
        cases r with
        | ok n w' =>
          have hne := plain_noEnter hpl hrr
          cases n <;> simp only [Oper.quietUpon] at h3 <;> simp only [Oper.upon]
          case value u => obtain ⟨e1, e2⟩ := h3; rw [e1, e2]; exact h _ _ h2
          case skip => obtain ⟨e1, e2⟩ := h3; rw [e1, ← e2]; exact h _ _ h2
          case enter f args => simp [noEnter] at hne
        | halt x w' => simp only [Oper.quietUpon] at h3
    · rename_i hw; simp only [hw] at hh; exact h _ _ hh
theorem wpAny_of_ph {Q : Act → Nat → Prop} {Q' : Exit → Act → World → Prop} (hp : restPlain ops wr = true) (hQ : ∀ a q, Q a q → Q' .normal a (F q)) : ∀ (fuel : Nat) (listed : Array Bool) (a : Act) (p : Nat),
    wpAnyPh P md ops F wr Q fuel listed a p → wpAny P md ops Q' fuel listed a (F p)
  | 0, _, _, _, h => ⟨h.1, hQ _ _ h.2⟩
  | fuel + 1, _, _, _, h => ⟨fun h0 => hQ _ _ (h.1 h0), fun i hi => wpOp_of_phOp hp (fun a' q => wpAny_of_ph hp hQ fuel _ a' q) (h.2 i hi)⟩
/-- what operation i yields in state a, and by how much it moves the number of the world -/
def YieldsPh (P : Program) (ops : Array Oper) (F : Nat → World) (wr : Nat → Bool) (i : Nat) (o : Oper) (v : Value) (d : Nat) (a : Act) (p : Nat) : Prop :=
  (Region.wanted o (yielded ops a.tmps) = true ∧ wr i = true ∧ d = 1 ∧ writeAt P o a (F p) (F (p + 1)) v) ∨
  (Region.wanted o (yielded ops a.tmps) = true ∧ wr i = false ∧ d = 0 ∧ ∀ w, AnyF F w → o.quietAt P a (AnyF F) w v) ∨
  (Region.wanted o (yielded ops a.tmps) = false ∧ d = 0 ∧ v = undef)
theorem YieldsPh.phOp {i p d : Nat} {o : Oper} {v : Value} {a : Act} (hi : ops[i]? = some o) (hy : YieldsPh P ops F wr i o v d a p) {K : Act → Nat → Prop} (h : K (a.put o.dst v) (p + d)) : phOp P ops F wr i K a p := by
  unfold Go.Proofs.Ytciamgnfbhijlaa.phOp
  simp only [hi]
  rcases hy with ⟨hw, hr, rfl, hv⟩ | ⟨hw, hr, rfl, hv⟩ | ⟨hw, rfl, rfl⟩
  · simp only [hw, hr, if_true]; exact ⟨v, hv, h⟩
  · simp only [hw, hr, if_true, Bool.false_eq_true, if_false]; exact ⟨v, hv, h⟩
  · simp only [hw, Bool.false_eq_true, if_false]; exact h
theorem YieldsPh.of_same {i p q d : Nat} {o : Oper} {v : Value} {a a' : Act} (hy : YieldsPh P ops F wr i o v d a p) (he : execOp a'.eval o = execOp a.eval o)
    (hw : Region.wanted o (yielded ops a'.tmps) = Region.wanted o (yielded ops a.tmps)) (hq : q = p ∨ wr i = false) : YieldsPh P ops F wr i o v d a' q := by
  unfold YieldsPh Oper.quietAt writeAt at *
  rw [he, hw]
  rcases hy with ⟨h1, h2, h3, h4⟩ | h | h
  · rcases hq with rfl | hq
    · exact .inl ⟨h1, h2, h3, h4⟩
    · rw [hq] at h2; cases h2
  · exact .inr (.inl h)
  · exact .inr (.inr h)
theorem yieldsPh_of_phOp {i p : Nat} {o : Oper} {a : Act} {K : Act → Nat → Prop} (hi : ops[i]? = some o) (h : phOp P ops F wr i K a p) : ∃ v d, YieldsPh P ops F wr i o v d a p ∧ K (a.put o.dst v) (p + d) := by
  unfold phOp at h
  simp only [hi] at h
  by_cases hw : Region.wanted o (yielded ops a.tmps) = true
  · simp only [hw, if_true] at h
    cases hr : wr i with
    | true =>
      simp only [hr, if_true] at h
      obtain ⟨v, h1, h2⟩ := h
      exact ⟨v, 1, .inl ⟨hw, hr, rfl, h1⟩, h2⟩
    | false =>
      simp only [hr] at h
      obtain ⟨v, h1, h2⟩ := h
      exact ⟨v, 0, .inr (.inl ⟨hw, hr, rfl, h1⟩), h2⟩
  · simp only [hw] at h
    exact ⟨undef, 0, .inr (.inr ⟨by simpa using hw, rfl, rfl⟩), h⟩
theorem phOp_put {i j p d : Nat} {oi oj : Oper} {v : Value} (hj : ops[j]? = some oj) (hap : oi.apart ops oj = true) (hnw : wr i = true → wr j = false)
    (hsi : ∀ cs b, oi.op ≠ .select cs b) (hsj : ∀ cs b, oj.op ≠ .select cs b) {K : Act → Nat → Prop} {a : Act}
    (hy : YieldsPh P ops F wr i oi v d a p) (h : phOp P ops F wr j K (a.put oi.dst v) (p + d)) :
    phOp P ops F wr j (fun a' q => YieldsPh P ops F wr i oi v d a' q ∧ K (a'.put oi.dst v) (q + d)) a p := by
  obtain ⟨h1, h2, h3⟩ := Oper.apart_spec hap
  have keep : ∀ u q, (q = p ∨ wr i = false) → YieldsPh P ops F wr i oi v d (a.put oj.dst u) q := fun u q hq =>
    hy.of_same (execOp_put oi hsi a oj.dst u h3) (wanted_put oi a oj.dst u h3) hq
  unfold phOp at *
  simp only [hj] at *
  rw [wanted_put oj a oi.dst v h1] at h
  split
  · rename_i hw
    simp only [hw, if_true] at h
    cases hr : wr j with
    | true =>
      have hri : wr i = false := by
        cases hri : wr i with
        | false => rfl
        | true => have := hnw hri; rw [hr] at this; cases this
      have hd : d = 0 := by
        rcases hy with ⟨_, h4, _⟩ | ⟨_, _, h4, _⟩ | ⟨_, h4, _⟩
        · rw [hri] at h4; cases h4
        · exact h4
        · exact h4
      subst hd
      simp only [hr, if_true] at h ⊢
      obtain ⟨u, hu, hn⟩ := h
      refine ⟨u, ?_, keep u _ (.inr hri), by rw [← Act.put_comm a v u h2]; exact hn⟩
      unfold writeAt at *
      rwa [execOp_put oj hsj a oi.dst v h1] at hu
    | false =>
      simp only [hr, Bool.false_eq_true, if_false] at h ⊢
      obtain ⟨u, hu, hn⟩ := h
      refine ⟨u, fun w hw' => ?_, keep u _ (.inl rfl), by rw [← Act.put_comm a v u h2]; exact hn⟩
      have := hu w hw'
      unfold Oper.quietAt at *
      rwa [execOp_put oj hsj a oi.dst v h1] at this
  · rename_i hw
    simp only [hw] at h
    exact ⟨keep _ _ (.inl rfl), by rw [← Act.put_comm a v undef h2]; exact h⟩
/-- of two writing operations the later one waits for the earlier one -/
def Region.wrB (md : Region.Mode) (ops : Array Oper) (wr : Nat → Bool) : Bool := (List.range ops.size).all fun j => (List.range j).all fun i => !(wr i && wr j) || Region.waitsFor md ops j i
theorem wrB_spec (h : Region.wrB md ops wr = true) {i j : Nat} (hij : i < j) (hj : j < ops.size) (wi : wr i = true) (wj : wr j = true) : Region.waitsFor md ops j i = true := by
  have h1 := List.all_eq_true.1 h j (List.mem_range.2 hj)
  have h2 := List.all_eq_true.1 h1 i (List.mem_range.2 hij)
  rw [wi, wj] at h2
  simpa using h2
theorem not_both (hW : Region.wrB md ops wr = true) {i j : Nat} {listed : Array Bool} (hi : i ∈ Region.ready md ops listed) (hj : j ∈ Region.ready md ops listed) (hne : j ≠ i) : wr i = true → wr j = false := by
  intro wi
  cases wj : wr j with
  | false => rfl
  | true =>
    exfalso
    have key : ∀ {x y : Nat}, x ∈ Region.ready md ops listed → y ∈ Region.ready md ops listed → x < y → wr x = true → wr y = true → False := fun {x y} hx hy hlt wx wy => by
      obtain ⟨_, oy, hoy, hall⟩ := mem_ready.1 hy
      have hys : y < ops.size := (Array.getElem?_eq_some_iff.1 hoy).1
      obtain ⟨o', ho', e, he, hb, hon⟩ := Region.waitsFor_spec (wrB_spec hW hlt hys wx wy)
      have : o' = oy := Option.some.inj (ho'.symm.trans hoy)
      subst this
      have h1 := hall e he hb
      have h0 := (mem_ready.1 hx).1
      rw [hon] at h1
      rw [getD_both h0] at h1
      cases h1
    rcases Nat.lt_or_gt_of_ne hne with h | h
    · exact key hj hi h wj wi
    · exact key hi hj h wi wj
theorem wpAnyPh_first {Q : Act → Nat → Prop} (hW : Region.wrB md ops wr = true) {i d : Nat} {oi : Oper} {v : Value} (hi : ops[i]? = some oi) (hsel : ∀ (j : Nat) (o : Oper) cs b, ops[j]? = some o → o.op ≠ .select cs b) :
    ∀ (fuel : Nat) (listed : Array Bool) (a : Act) (p : Nat),
      (∀ j oj, ops[j]? = some oj → j ≠ i → listed.getD j true = false → (∀ e ∈ oj.after, Region.binds md e = true → e.on ≠ i) → oi.apart ops oj = true) →
      i ∈ Region.ready md ops listed → YieldsPh P ops F wr i oi v d a p →
      wpAnyPh P md ops F wr Q fuel (listed.setIfInBounds i true) (a.put oi.dst v) (p + d) → wpAnyPh P md ops F wr Q (fuel + 1) listed a p := by
  intro fuel
  induction fuel with
  | zero =>
    intro listed a p _ hr hy H
    refine ⟨fun h => (by rw [h] at hr; cases hr), fun j hj => ?_⟩
    by_cases hji : j = i
    · subst hji; exact hy.phOp hi H
    · have := ready_mono hj hji
      rw [H.1] at this
      cases this
  | succ fuel ih =>
    intro listed a p hfree hr hy H
    refine ⟨fun h => (by rw [h] at hr; cases hr), fun j hj => ?_⟩
    by_cases hji : j = i
    · subst hji; exact hy.phOp hi H
    · have h1 := H.2 j (ready_mono hj hji)
      obtain ⟨hjun, oj, hoj, hall⟩ := mem_ready.1 hj
      have hnot : ∀ e ∈ oj.after, Region.binds md e = true → e.on ≠ i := fun e he hb heq => by
        have h1 := hall e he hb
        have h0 := (mem_ready.1 hr).1
        rw [heq, getD_both h0] at h1
        cases h1
      have h2 := phOp_put hoj (hfree j oj hoj hji hjun hnot) (not_both hW hr hj hji) (fun cs b => hsel i oi cs b hi) (fun cs b => hsel j oj cs b hoj) hy h1
      have hfree' : ∀ k ok, ops[k]? = some ok → k ≠ i → (listed.setIfInBounds j true).getD k true = false →
          (∀ e ∈ ok.after, Region.binds md e = true → e.on ≠ i) → oi.apart ops ok = true := fun k ok hk hki hun hno => by
        refine hfree k ok hk hki ?_ hno
        by_cases hjk : j = k
        · subst hjk; exact hjun
        · rw [getD_set_ne true hjk] at hun; exact hun
      refine phOp_mono (fun a' q h3 => ih (listed.setIfInBounds j true) a' q hfree' (ready_mono hr (Ne.symm hji)) h3.1 ?_) h2
      rw [Array.setIfInBounds_comm _ _ hji]
      exact h3.2
theorem wpAnyPh_lex {Q : Act → Nat → Prop} (hW : Region.wrB md ops wr = true) (hs : Region.noSelect ops = true) : ∀ (l : List Oper) (k : Nat) (listed : Array Bool) (a : Act) (p : Nat), (∀ j, l[j]? = ops[k + j]?) →
    Region.lexFrom md ops l.length k listed = true → wpPh P ops F wr Q k l a p → wpAnyPh P md ops F wr Q l.length listed a p
  | [], _, _, _, _, _, hB, h => ⟨by simpa [Region.lexFrom] using hB, h⟩
  | o :: l, k, listed, a, p, hl, hB, h => by
    have h0 : ops[k]? = some o := by simpa using (hl 0).symm
    simp only [List.length_cons, Region.lexFrom, Bool.and_eq_true] at hB
    obtain ⟨⟨hr, hf⟩, hB'⟩ := hB
    have hst : phOp P ops F wr k (wpPh P ops F wr Q (k + 1) l) a p := by unfold phOp; simp only [h0]; exact h
    obtain ⟨v, d, hy, hK⟩ := yieldsPh_of_phOp h0 hst
    exact wpAnyPh_first hW h0 (Region.noSelect_spec hs) l.length listed a p (Region.free_spec h0 hf) (by simpa using hr) hy
      (wpAnyPh_lex hW hs l (k + 1) _ _ _ (fun j => by have := hl (j + 1); simpa [Nat.add_assoc, Nat.add_comm 1 j] using this) hB' hK)
/-- the theorem: a region whose operations are written out -/
theorem wp_region_phased (F : Nat → World) (wr : Nat → Bool) {id : Nat} {Q : Exit → Act → World → Prop} {a : Act} {w : World} {l : List Oper} (hm : P.follows .mixedOrders = true) (hB : Region.lexB .any l.toArray = true)
    (hW : Region.wrB .any l.toArray wr = true) (hp : restPlain l.toArray wr = true) (h0 : w.drew = F 0)
    (h : wpPh P l.toArray F wr (fun a' p => Q .normal a' (F p)) 0 l a 0) : (Code.region id l.toArray true).wp P Q a w := by
  simp only [Region.lexB, Bool.and_eq_true] at hB
  refine wp_region_any hm ?_
  have e : ({ w with drawn := w.drawn + 1 } : World) = F 0 := h0
  rw [e]
  refine wpAny_of_ph (Q := fun a' p => Q .normal a' (F p)) hp (fun _ _ h => h) _ _ _ _ ?_
  have := wpAnyPh_lex hW hB.1 l 0 (Array.replicate l.toArray.size false) a 0 (by simp) (by simpa using hB.2) h
  simpa using this
theorem wpPh_quiet {Q : Act → Nat → Prop} {k p : Nat} {o : Oper} {rest : List Oper} {a : Act} (hw : Region.wanted o (yielded ops a.tmps) = true) (hr : wr k = false)
    (h : ∀ K : Act → Prop, (∀ a, wpPh P ops F wr Q (k + 1) rest a p → K a) → o.quiet P a (fun w => ∃ z, w = F z) K) : wpPh P ops F wr Q k (o :: rest) a p := by
  unfold wpPh
  simp only [hw, hr, if_true, Bool.false_eq_true, if_false]
  exact h _ (fun _ h => h)
theorem wpPh_skip {Q : Act → Nat → Prop} {k p : Nat} {o : Oper} {rest : List Oper} {a : Act} (hw : Region.wanted o (yielded ops a.tmps) = false)
    (h : ∀ K : Act → Prop, (∀ a, wpPh P ops F wr Q (k + 1) rest a p → K a) → K (a.put o.dst undef)) : wpPh P ops F wr Q k (o :: rest) a p := by
  unfold wpPh
  simp only [hw, Bool.false_eq_true, if_false]
  exact h _ (fun _ h => h)
theorem wpPh_write {Q : Act → Nat → Prop} {k p : Nat} {o : Oper} {rest : List Oper} {a : Act} {v : Value} (hw : Region.wanted o (yielded ops a.tmps) = true) (hr : wr k = true) (hv : writeAt P o a (F p) (F (p + 1)) v)
    (h : ∀ K : Act → Prop, (∀ a, wpPh P ops F wr Q (k + 1) rest a (p + 1) → K a) → K (a.put o.dst v)) : wpPh P ops F wr Q k (o :: rest) a p := by
  unfold wpPh
  simp only [hw, hr, if_true]
  exact ⟨v, hv, h _ (fun _ h => h)⟩
theorem wpPh_end {Q : Exit → Act → World → Prop} {k p : Nat} {a : Act} {W : World} (e : F p = W) (h : Q .normal a W) : wpPh P ops F wr (fun a' p => Q .normal a' (F p)) k [] a p := by
  subst e
  exact h
theorem write_entry {o : Oper} {a : Act} {w w' : World} {v mv kv : Value} {t : TypeId} {m k : Operand} (ho : o.op = .mapEntry t m k) (hm : a.eval m = mv) (hk : a.eval k = kv) (hr : (Instr.mapEntry t mv kv).run P w = .ok v w') : writeAt P o a w w' v := by
  unfold writeAt execOp
  rw [ho]
  dsimp only
  rw [hm, hk, Sem.run_bind, hr]
  exact ⟨rfl, rfl⟩
theorem write_entryStore {o : Oper} {a : Act} {w w' : World} {mv sv xv : Value} {t : TypeId} {m s x : Operand} (ho : o.op = .entryStore t m s x) (hm : a.eval m = mv) (hs : a.eval s = sv) (hx : a.eval x = xv) (hr : (Instr.entryStore t mv sv xv).run P w = .ok () w') : writeAt P o a w w' undef := by
  unfold writeAt execOp
  rw [ho]
  dsimp only
  rw [hm, hs, hx, Sem.run_bind, hr]
  exact ⟨rfl, rfl⟩
end
end Go.Proofs.Ytciamgnfbhijlaa
