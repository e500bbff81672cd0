/- A map of the call's own with keys of three integers: what it holds, a look-up, a store by entry. -/
import Derived.Test.YtciamgnfbhijlaaChg
import Derived.Test.YtciamgnfbhijlaaGauge
import Derived.Maps.OwnSet
import Derived.WideKeyEntry
import Derived.DeepKeys4
namespace Go.Proofs.Ytciamgnfbhijlaa
open Go.RowKit Go.Maps
open Go.ChangeMaps (setBlock)
open Go.MapKept
set_option linter.unusedSimpArgs false
set_option linter.unusedVariables false
set_option linter.unnecessarySimpa false

theorem laidOutK : laidOutB Try.prog = true := by kernel_rfl
theorem rowK : (88 : TypeId) < Try.prog.types.size := of_decide_eq_true (by kernel_rfl)
theorem sizeK : 0 < Try.prog.types.size := of_decide_eq_true (by kernel_rfl)
theorem wideK : (match Try.prog.underlying 88 with | some (.array _ _) | some (.struct _) => true | _ => false) = true := by kernel_rfl
set_option maxRecDepth 100000 in
theorem lawK : WideMaps.KeyLaw Try.prog 88 := deep_law_laid laidOutK (m := 2) (by omega) rowK (by kernel_rfl) wideK
theorem keyedK : Keyed Try.prog 88 := Keyed.of_law lawK
def keyV (a b c : Int) : Value := .agg #[.int .i64 a, .int .i64 b, .int .i64 c]
theorem keyV_inj {a b c a' b' c' : Int} (h : keyV a b c = keyV a' b' c') : a = a' ∧ b = b' ∧ c = c' := by
  unfold keyV at h
  simp only [Value.agg.injEq] at h
  have h2 := congrArg Array.toList h
  simp only [List.cons.injEq, Value.int.injEq, true_and, and_true] at h2
  exact h2
theorem key_ok {a b c : Int} (ha : IsI64 a) (hb : IsI64 b) (hc : IsI64 c) : ∃ kl, keyOf Try.prog 88 (keyV a b c) = some kl := by
  have w : ∀ x, IsI64 x → (Lit.int .i64 x).wf = true := fun x hx => by
    unfold IsI64 at hx
    simp [Lit.wf, IntKind.min, IntKind.max, IntKind.signed, IntKind.bits]
    omega
  have h1 := w a ha
  have h2 := w b hb
  have h3 := w c hc
  have e : keyOf Try.prog 88 (keyV a b c) = some (.string (keyBytes [.int .i64 a, .int .i64 b, .int .i64 c])) := by
    have hl : Try.prog.keyLits (Try.prog.types.size + 1) 88 [.int .i64 a, .int .i64 b, .int .i64 c] = some [.int .i64 a, .int .i64 b, .int .i64 c] := by
      have hp := sizeK
      generalize Try.prog.types.size = N at hp ⊢
      obtain ⟨n, rfl⟩ : ∃ n, N = n + 1 := ⟨N - 1, by omega⟩
      unfold Program.keyLits
      rw [Try.underlying88]
      have hc : Try.prog.cellsOf 88 = 3 := by kernel_rfl
      have hc2 : Try.prog.cellsOf 2 = 1 := by kernel_rfl
      simp [hc, hc2, Program.keyLits, Try.underlying2, h1, h2, h3]
    unfold keyOf keyV
    rw [Try.underlying88]
    have hk : Try.prog.keyType 88 = true := by kernel_rfl
    have hc : Try.prog.cellsOf 88 = 3 := by kernel_rfl
    simp only [hk, Value.formed, Try.underlying88, hc, Value.cells]
    rw [hl]
    rfl
  exact ⟨_, e⟩
/-- an element reads as itself -/
def hR (v : Value) : Option (DataW Value × List MemPlace) := some (.held v, [])
/-- block b is a map of at most n entries that holds f, z where there is no entry -/
def MapIs (W : World) (b n : Nat) (f : Value → Value) (z : Value) : Prop :=
  ∃ D, W.ownsMap Try.prog 88 hR b n D ∧ ∀ key kl, keyOf Try.prog 88 key = some kl → D.atKey kl (.held z) = .held (f key)
theorem MapIs.made (w : World) (z : Value) : MapIs (w.alloc (.map #[] 0)) w.heap.size 0 (fun _ => z) z :=
  ⟨_, World.ownsMap_made w _ _ _, fun _ _ _ => rfl⟩
theorem MapIs.lt {W : World} {b n : Nat} {f : Value → Value} {z : Value} (h : MapIs W b n f z) : b < W.heap.size := let ⟨_, h, _⟩ := h; h.lt
theorem MapIs.ext {W W' : World} {b n : Nat} {f : Value → Value} {z : Value} (h : MapIs W b n f z) (e : Ext W W') : MapIs W' b n f z := by
  obtain ⟨D, ⟨es, cl, hb, r⟩, h2⟩ := h
  exact ⟨D, ⟨es, cl, e.block hb, r⟩, h2⟩
theorem MapIs.chg {S : Nat → Prop} {W W' : World} {b n : Nat} {f : Value → Value} {z : Value} (h : MapIs W b n f z) (c : ChgS S W W') (hs : ¬ S b) : MapIs W' b n f z := by
  obtain ⟨D, ⟨es, cl, hb, r⟩, h2⟩ := h
  exact ⟨D, ⟨es, cl, c.blk hb hs, r⟩, h2⟩
theorem MapIs.setOther {W : World} {b n : Nat} {f : Value → Value} {z : Value} (h : MapIs W b n f z) {k : Nat} (i : Nat) (v : Value) (hs : b ≠ k) : MapIs (W.setCell ⟨k, i, none⟩ v) b n f z := by
  obtain ⟨D, ⟨es, cl, hb, r⟩, h2⟩ := h
  exact ⟨D, ⟨es, cl, heap_setN _ _ _ hb hs, r⟩, h2⟩
theorem MapIs.grown {W W' : World} {b n r : Nat} {f : Value → Value} {z : Value} (h : MapIs W b n f z) (c : W.grownBy W' (some r)) (hs : b ≠ r) : MapIs W' b n f z := by
  obtain ⟨D, hb, h2⟩ := h
  exact ⟨D, hb.kept c (fun e => hs (by simpa using e)), h2⟩
theorem MapIs.look {W : World} {b n : Nat} {f : Value → Value} {z : Value} {t e : TypeId} (h : MapIs W b n f z) (ht : Try.prog.underlying t = some (.map 88 e)) (hz : (zeroValue e).run Try.prog W = .ok z W) {key : Value} {kl : Lit} (hk : keyOf Try.prog 88 key = some kl) :
    (Instr.lookup t (.map (some b)) key false).run Try.prog W = .ok (f key) W := by
  obtain ⟨D, h1, h2⟩ := h
  obtain ⟨v, ps, hrun, hv⟩ := h1.lookup keyedK ht hz (zd := .held z) (zp := []) rfl hk
  rw [h2 key kl hk] at hv
  unfold hR at hv
  simp only [Option.some.injEq, Prod.mk.injEq, DataW.held.injEq] at hv
  rw [hrun, hv.1]
open Classical in
/-- f with another value at a key -/
noncomputable def updF (f : Value → Value) (key val : Value) : Value → Value := fun k => if k = key then val else f k
theorem updF_same (f : Value → Value) (key val : Value) : updF f key val key = val := by unfold updF; rw [if_pos rfl]
theorem updF_other (f : Value → Value) (key val : Value) {k : Value} (h : k ≠ key) : updF f key val k = f k := by unfold updF; rw [if_neg h]
/-- an entry is found or made, and then written -/
theorem MapIs.entry {W : World} {b n : Nat} {f : Value → Value} {z : Value} {t e : TypeId} (h : MapIs W b n f z) (ht : Try.prog.underlying t = some (.map 88 e)) (hz : ∀ u, (zeroValue e).run Try.prog u = .ok z u) (hn : n < maxLen) {key : Value} {kl : Lit} (hk : keyOf Try.prog 88 key = some kl) (val : Value) :
    ∃ v0 st W1 W2, (Instr.mapEntry t (.map (some b)) key).run Try.prog W = .ok (.tuple #[v0, goInt st]) W1 ∧ W.grownBy W1 (some b) ∧ (Instr.entryStore t (.map (some b)) (goInt st) val).run Try.prog W1 = .ok () W2 ∧ W1.grownBy W2 (some b) ∧ MapIs W2 b (n + 1) (updF f key val) z := by
  obtain ⟨D, h1, h2⟩ := h
  obtain ⟨es, clock, hb, F, hs, hD⟩ := h1
  obtain ⟨v0, st, es1, clock1, r1, _, r3⟩ := WideElems.entry_then_store lawK ht hz hb F hk
  have hw1 := ChangeMaps.heap_setBlock_same hb (.map es1 clock1)
  obtain ⟨es', clock', r4, r5⟩ := r3 _ val hw1
  have ho : W.ownsMap Try.prog 88 hR b n D := ⟨es, clock, hb, F, hs, hD⟩
  obtain ⟨W', r6, o6, g6⟩ := ho.update keyedK ht hn hk (d := .held val) (ps := []) (val := val) rfl
  rw [r5] at r6
  have e6 : setBlock W b (.map es' clock') = W' := by
    simpa using r6
  have gr : ∀ (u : World) (es0 : Array MapEntry) (c0 : Nat) (o' : Obj), u.heap[b]? = some (.map es0 c0) → u.grownBy (setBlock u b o') (some b) := fun u es0 c0 o' hu =>
    ⟨rfl, rfl, rfl, by simp [setBlock], fun i _ hi => ChangeMaps.heap_setBlock_other hu _ (fun e => hi (by rw [e]))⟩
  refine ⟨v0, st, _, _, r1, gr W _ _ _ hb, r4, gr _ _ _ _ hw1, ?_⟩
  have hw2 := ChangeMaps.heap_setBlock_same hw1 (.map es' clock')
  obtain ⟨es2, cl2, hb2, r⟩ := o6
  have hb3 : W'.heap[b]? = some (.map es' clock') := by rw [← e6]; exact ChangeMaps.heap_setBlock_same hb _
  rw [hb3] at hb2
  refine ⟨D.put kl (.held val), ⟨es2, cl2, hw2.trans hb2, r⟩, fun k l hkl => ?_⟩
  by_cases hkk : k = key
  · subst hkk
    rw [hk] at hkl
    obtain rfl := Option.some.inj hkl
    rw [atKey_put_same ho.isMap (keyedK.key hk), updF_same]
  · have hne : l ≠ kl := fun e => hkk (keyedK.inj (by rw [e] at hkl; exact hkl) hk)
    rw [atKey_put_other hne, h2 k l hkl, updF_other _ _ _ hkk]
end Go.Proofs.Ytciamgnfbhijlaa
