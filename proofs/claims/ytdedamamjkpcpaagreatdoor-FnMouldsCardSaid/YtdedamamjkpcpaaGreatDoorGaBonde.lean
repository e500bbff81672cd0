/- A group of texts, one behind the other: Bond5, Bond6. -/
import Derived.Test.YtdedamamjkpcpaaGreatDoorBond4
import Derived.Test.YtdedamamjkpcpaaGreatDoorGaStrs
/- Contracts: a course that is laid by a bond: both sides. -/
namespace Go.Proofs.YtdedamamjkpcpaaGreatDoor
open Go.RowKit
set_option linter.unusedSimpArgs false
set_option linter.unusedVariables false
set_option linter.unnecessarySimpa false

theorem OwnB.shape {w : World} {base : Nat} {v : Value} {l : List UInt8} (h : OwnB w base v l) : ∃ ao cap, v = .slice ao l.length cap := by
  rcases h.2 with ⟨rfl, h0⟩ | ⟨g, cap, cur, rfl, _⟩
  · rw [h0]; exact ⟨_, _, rfl⟩
  · exact ⟨_, _, rfl⟩
theorem OwnB.mono {w : World} {base base' : Nat} {v : Value} {l : List UInt8} (h : OwnB w base v l) (hb : base' ≤ base) : OwnB w base' v l := by
  obtain ⟨h1, h2⟩ := h
  refine ⟨h1, ?_⟩
  rcases h2 with h2 | ⟨g, cap, cur, hv, hg, r⟩
  · exact .inl h2
  · exact .inr ⟨g, cap, cur, hv, by omega, r⟩
/-- a byte is appended; blocks of other types stay -/
theorem wpList_append_u8g {W w0 w : World} {ops : Array Oper} {rest : List Oper} {o : Oper} {a : Act} {Q : Exit → Act → World → Prop} (hgd : o.guard = none) (s x : Operand)
    (ho : o.op = .call { callee := .builtin .append, args := #[s, x], argTypes := #[22, 22] })
    (v : Value) (l : List UInt8) (b : UInt8) (hs : a.eval s = v) (hw : w = w0.alloc (.cells #[.int .u8 (b.toNat : Int)] 5)) (hx : a.eval x = .slice (some ⟨w0.heap.size, 0, none⟩) 1 1)
    (hown : OwnB w0 W.heap.size v l) (e : Ext W w0) (hlen : l.length ≤ 10000000)
    (h : ∀ v' w', OwnB w' W.heap.size v' (l ++ [b]) → Ext W w' → (∀ (g : Nat) (cs : Array Value) (T : TypeId) (m : Nat × Nat), w0.heap[g]? = some (.cells cs T m) → T ≠ 5 → w'.heap[g]? = some (.cells cs T m)) → wpList Tryz.prog ops Q rest (a.put o.dst v') w') : wpList Tryz.prog ops Q (o :: rest) a w := by
  obtain ⟨i0, hi, hz0, hz1, hz2⟩ := info_parts info_u8
  subst hw
  refine wpList_append_own _ hgd s x 22 ho W.heap.size 5 i0 (.int .u8 0) 1 1 Tryz.underlying22 hi hz0 hz1 hz2 rfl (by decide) v l.length (l.map u8V) hs (World.ownsRow.alloc hown _)
    ⟨w0.heap.size, 0, none⟩ 1 1 [.int .u8 (b.toNat : Int)] hx rfl (cells_new _ _ _) (by intro u hu; simp at hu; subst hu; rfl) (by unfold maxLen; omega) (by omega) (by have := e.size; simp; omega) ?_
  intro v' w' ho' hg _
  refine h v' w' ?_ ((e.alloc _).grown hg (fun k hk => (hown.lt k hk).1)) (fun g cs T m hb hT => ?_)
  · unfold OwnB; simpa [u8V] using ho'
  · have h1 := blk_old (o := .cells #[.int .u8 (b.toNat : Int)] 5) hb
    refine (hg.block g (lt_of_block h1) (fun e2 => ?_)).trans h1
    rcases hown.2 with ⟨rfl, _⟩ | ⟨g2, cap, cur, rfl, _, hh, _⟩
    · simp [Value.ownBlock] at e2
    · have e3 : g2 = g := by simpa [Value.ownBlock] using e2.symm
      subst e3
      rw [hh] at hb
      simp at hb
      exact hT hb.2.1.symm
/-- what is laid, and a code -/
def layL (f : Nat → UInt8) (u : Int) : List UInt8 := if 60 < (layT f u).length then [] else layT f u
def layCd (f : Nat → UInt8) (u : Int) : Int := if 60 < (layT f u).length then 5 else 0
theorem lay_full (f : Nat → UInt8) (j : Nat) (r : Int) (u : Int) (h : layK f u = j) (hr : u - preQ f j = r) : layT f u = (List.range j).map f ++ tailB r := by
  unfold layT; rw [h, hr]
theorem range_len (f : Nat → UInt8) (j : Nat) : ((List.range j).map f).length = j := by simp
theorem range_snoc (f : Nat → UInt8) (j : Nat) : (List.range (j + 1)).map f = (List.range j).map f ++ [f j] := by rw [List.range_succ, List.map_append]; rfl
theorem ltrAt_eq (cs : List Crs) (k : Int) {x : Crs} (h : crsAt cs k = x) (j : Nat) : ltrAt cs k j = ltr (bts x.lead) (bts x.cyc) j := by unfold ltrAt; rw [h]; rfl
theorem crs_small {cs : List Crs} {n : Nat} (hl : cs.length = n) (hn1 : 1 ≤ n) (hok : cs.all crsOk = true) (k : Int) {x : Crs} (h : crsAt cs k = x) : x.lead.size ≤ 6 ∧ 1 ≤ x.cyc.size ∧ x.cyc.size ≤ 8 := by
  have h1 : crsB (bts x.lead) (bts x.cyc) = true := by have := crsAt_ok (cs := cs) (by omega) hok k; rw [h] at this; exact this
  have h2 := crsB_bd h1
  rw [bts_length, bts_length] at h2
  omega
end Go.Proofs.YtdedamamjkpcpaaGreatDoor

/- Contracts: a course that is laid by a bond: the reference's; and the two functions that answer. -/
namespace Go.Proofs.YtdedamamjkpcpaaGreatDoor
open Go.RowKit
set_option linter.unusedSimpArgs false
set_option linter.unusedVariables false
set_option linter.unnecessarySimpa false

def lcL (nm : List UInt8) (cs : List Crs) (k u : Int) : List UInt8 := if codeB nm cs k u = 0 then layL (ltrAt cs k) u else []
def lcC (nm : List UInt8) (cs : List Crs) (k u : Int) : Int := if codeB nm cs k u = 0 then layCd (ltrAt cs k) u else codeB nm cs k u
theorem codeB_0 {nm : List UInt8} {cs : List Crs} {k u : Int} (h : codeB nm cs k u = 0) : bondB nm cs = true ∧ 0 ≤ k ∧ k ≤ 1000 ∧ 1 ≤ u ∧ u ≤ 200 := by
  unfold codeB at h
  split at h
  · rename_i h1
    split at h
    · rename_i h2
      have h3 := inB_iff.1 h2.1
      have h4 := inB_iff.1 h2.2
      exact ⟨h1, h3.1, h3.2, h4.1, h4.2⟩
    · omega
  · omega
end Go.Proofs.YtdedamamjkpcpaaGreatDoor
