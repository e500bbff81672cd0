/- A group of texts, one behind the other: Lex, LexH. -/
import Derived.Test.YtaokeaiehjgbnaaGreatDoorCls
import Derived.Still
import Derived.Test.YtaokeaiehjgbnaaGreatDoorProg
/- A large region whose operations may be walked in the order of the text: the check, in parts. Nothing here speaks of what the program computes. -/
namespace Go.Proofs.YtaokeaiehjgbnaaGreatDoor
open Go.RowKit
set_option linter.unusedSimpArgs false
set_option linter.unusedVariables false
set_option linter.unnecessarySimpa false

/-- the operations of the region with a number -/
def codeReg (id : Nat) : Code → Option (Array Oper)
  | .region i ops _ => if i = id then some ops else none
  | .seq a b => match codeReg id a with
    | some o => some o
    | none => codeReg id b
  | .cond _ a b => match codeReg id a with
    | some o => some o
    | none => codeReg id b
  | .block _ b => codeReg id b
  | .loop b => codeReg id b
  | .scope b => codeReg id b
  | _ => none
/-- the operation k waits for earlier ones alone, and none behind it hangs on when it comes -/
def okK (md : Region.Mode) (ops : Array Oper) (k : Nat) : Bool := match ops[k]? with
  | none => false
  | some o => o.after.all (fun e => !Region.binds md e || decide (e.on < k)) && (List.range ops.size).all (fun j => decide (j ≤ k) || match ops[j]? with
      | some oj => oj.after.any (fun e => Region.binds md e && e.on == k) || o.apart ops oj
      | none => true)
/-- the first k stand listed -/
def Pre (n k : Nat) (listed : Array Bool) : Prop := listed.size = n ∧ ∀ j, j < n → listed.getD j true = decide (j < k) ∧ listed.getD j false = decide (j < k)
theorem Pre.next {n k : Nat} {listed : Array Bool} (h : Pre n k listed) (hk : k < n) : Pre n (k + 1) (listed.setIfInBounds k true) := by
  refine ⟨by rw [Array.size_setIfInBounds]; exact h.1, fun j hj => ?_⟩
  have hh := h.2 j hj
  have hs := h.1
  simp only [Array.getD_eq_getD_getElem?] at hh ⊢
  by_cases e : k = j
  · subst e
    rw [Array.getElem?_setIfInBounds_self_of_lt (by omega)]
    simp
  · rw [Array.getElem?_setIfInBounds_ne e]
    have e2 : decide (j < k + 1) = decide (j < k) := decide_eq_decide.2 (by omega)
    rw [e2]
    exact hh
theorem Pre.zero (n : Nat) : Pre n 0 (Array.replicate n false) := by
  refine ⟨by simp, fun j hj => ?_⟩
  simp [Array.getD_eq_getD_getElem?, hj]
theorem lexFrom_pre {md : Region.Mode} {ops : Array Oper} (h : ∀ k, k < ops.size → okK md ops k = true) : ∀ (fuel k : Nat) (listed : Array Bool), fuel + k = ops.size → Pre ops.size k listed → Region.lexFrom md ops fuel k listed = true
  | 0, k, listed, hk, hp => by
    unfold Region.lexFrom Region.ready
    rw [List.isEmpty_iff, List.filter_eq_nil_iff]
    intro i hi
    have hi := List.mem_range.1 hi
    rw [(hp.2 i hi).1]
    simp
    intro h2
    omega
  | fuel + 1, k, listed, hk, hp => by
    have hkn : k < ops.size := by omega
    have ho := h k hkn
    unfold okK at ho
    cases hoo : ops[k]? with
    | none => rw [hoo] at ho; cases ho
    | some o =>
      rw [hoo] at ho
      simp only [Bool.and_eq_true] at ho
      have hr : k ∈ Region.ready md ops listed := by
        rw [mem_ready]
        refine ⟨by rw [(hp.2 k hkn).1]; simp, o, hoo, fun e he hb => ?_⟩
        have h1 := Array.all_eq_true_iff_forall_mem.1 ho.1 e he
        rw [hb] at h1
        simp only [Bool.not_true, Bool.false_or, decide_eq_true_eq] at h1
        rw [(hp.2 e.on (by omega)).2]
        simpa using h1
      have hf : Region.free md ops listed k = true := by
        unfold Region.free
        rw [hoo]
        simp only []
        rw [List.all_eq_true]
        intro j hj
        have h1 := List.all_eq_true.1 ho.2 j hj
        have hjn := List.mem_range.1 hj
        rw [(hp.2 j hjn).1]
        rcases Nat.lt_trichotomy j k with h2 | h2 | h2
        · rw [decide_eq_true h2]; simp
        · subst h2; simp
        · rw [decide_eq_false (by omega), Bool.false_or] at h1
          rw [decide_eq_false (by omega), Bool.or_false]
          simp only [Bool.or_eq_true]
          exact .inr h1
      unfold Region.lexFrom
      rw [hf, lexFrom_pre h fuel (k + 1) _ (by omega) (hp.next hkn)]
      simp [hr]
theorem lexB_of {md : Region.Mode} {ops : Array Oper} (h0 : Region.noSelect ops = true) (h : ∀ k, k < ops.size → okK md ops k = true) : Region.lexB md ops = true := by
  unfold Region.lexB
  rw [h0, lexFrom_pre h ops.size 0 _ (by omega) (Pre.zero _)]
  rfl
theorem range_all {p : Nat → Bool} {a m : Nat} (h : (List.range' a m).all p = true) {k : Nat} (h1 : a ≤ k) (h2 : k < a + m) : p k = true :=
  List.all_eq_true.1 h k (by rw [List.mem_range'_1]; omega)
end Go.Proofs.YtaokeaiehjgbnaaGreatDoor

/- The great region of the law FnHouses stands in an order that may be walked: checked in parts. -/
namespace Go.Proofs.YtaokeaiehjgbnaaGreatDoor
open Go.RowKit
set_option linter.unusedSimpArgs false
set_option linter.unusedVariables false
set_option linter.unnecessarySimpa false

theorem opsH_size : ((codeReg 20 ((Tryz.f3).body.getD .skip)).getD #[]).size = 98 := by kernel_rfl
theorem opsH_sel : Region.noSelect ((codeReg 20 ((Tryz.f3).body.getD .skip)).getD #[]) = true := by kernel_rfl
theorem okH0 : ((List.range' 0 7).all (okK .any ((codeReg 20 ((Tryz.f3).body.getD .skip)).getD #[]))) = true := by kernel_rfl
theorem okH7 : ((List.range' 7 7).all (okK .any ((codeReg 20 ((Tryz.f3).body.getD .skip)).getD #[]))) = true := by kernel_rfl
theorem okH14 : ((List.range' 14 7).all (okK .any ((codeReg 20 ((Tryz.f3).body.getD .skip)).getD #[]))) = true := by kernel_rfl
theorem okH21 : ((List.range' 21 7).all (okK .any ((codeReg 20 ((Tryz.f3).body.getD .skip)).getD #[]))) = true := by kernel_rfl
theorem okH28 : ((List.range' 28 7).all (okK .any ((codeReg 20 ((Tryz.f3).body.getD .skip)).getD #[]))) = true := by kernel_rfl
theorem okH35 : ((List.range' 35 7).all (okK .any ((codeReg 20 ((Tryz.f3).body.getD .skip)).getD #[]))) = true := by kernel_rfl
theorem okH42 : ((List.range' 42 7).all (okK .any ((codeReg 20 ((Tryz.f3).body.getD .skip)).getD #[]))) = true := by kernel_rfl
theorem okH49 : ((List.range' 49 7).all (okK .any ((codeReg 20 ((Tryz.f3).body.getD .skip)).getD #[]))) = true := by kernel_rfl
theorem okH56 : ((List.range' 56 7).all (okK .any ((codeReg 20 ((Tryz.f3).body.getD .skip)).getD #[]))) = true := by kernel_rfl
theorem okH63 : ((List.range' 63 7).all (okK .any ((codeReg 20 ((Tryz.f3).body.getD .skip)).getD #[]))) = true := by kernel_rfl
theorem okH70 : ((List.range' 70 7).all (okK .any ((codeReg 20 ((Tryz.f3).body.getD .skip)).getD #[]))) = true := by kernel_rfl
theorem okH77 : ((List.range' 77 7).all (okK .any ((codeReg 20 ((Tryz.f3).body.getD .skip)).getD #[]))) = true := by kernel_rfl
theorem okH84 : ((List.range' 84 7).all (okK .any ((codeReg 20 ((Tryz.f3).body.getD .skip)).getD #[]))) = true := by kernel_rfl
theorem okH91 : ((List.range' 91 7).all (okK .any ((codeReg 20 ((Tryz.f3).body.getD .skip)).getD #[]))) = true := by kernel_rfl
theorem lexH : Region.lexB .any ((codeReg 20 ((Tryz.f3).body.getD .skip)).getD #[]) = true := lexB_of opsH_sel (fun k hk => by
  rw [opsH_size] at hk
  by_cases h0 : k < 7
  · exact range_all okH0 (by omega) (by omega)
  by_cases h7 : k < 14
  · exact range_all okH7 (by omega) (by omega)
  by_cases h14 : k < 21
  · exact range_all okH14 (by omega) (by omega)
  by_cases h21 : k < 28
  · exact range_all okH21 (by omega) (by omega)
  by_cases h28 : k < 35
  · exact range_all okH28 (by omega) (by omega)
  by_cases h35 : k < 42
  · exact range_all okH35 (by omega) (by omega)
  by_cases h42 : k < 49
  · exact range_all okH42 (by omega) (by omega)
  by_cases h49 : k < 56
  · exact range_all okH49 (by omega) (by omega)
  by_cases h56 : k < 63
  · exact range_all okH56 (by omega) (by omega)
  by_cases h63 : k < 70
  · exact range_all okH63 (by omega) (by omega)
  by_cases h70 : k < 77
  · exact range_all okH70 (by omega) (by omega)
  by_cases h77 : k < 84
  · exact range_all okH77 (by omega) (by omega)
  by_cases h84 : k < 91
  · exact range_all okH84 (by omega) (by omega)
  by_cases h91 : k < 98
  · exact range_all okH91 (by omega) (by omega)
  omega)
end Go.Proofs.YtaokeaiehjgbnaaGreatDoor
