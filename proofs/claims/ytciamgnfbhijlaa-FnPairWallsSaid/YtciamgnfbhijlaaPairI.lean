/- The program's search for the best pair of courses: what it keeps in memory. -/
import Derived.Test.YtciamgnfbhijlaaPairI0
import Derived.Test.YtciamgnfbhijlaaPairS
import Derived.Deep.RegionHeld3
import Derived.BigRegion
namespace Go.Proofs.Ytciamgnfbhijlaa
open Go.RowKit
set_option linter.unusedSimpArgs false
set_option linter.unusedVariables false
set_option linter.unnecessarySimpa false

/-! ### how many states are not yet known -/
def undone : Nat → (Nat → Bool) → Nat
  | 0, _ => 0
  | n + 1, d => undone n d + (if d n then 0 else 1)
theorem undone_mono (d d' : Nat → Bool) (h : ∀ j, d j = true → d' j = true) : ∀ n, undone n d' ≤ undone n d
  | 0 => Nat.le_refl _
  | n + 1 => by
    have ih := undone_mono d d' h n
    unfold undone
    cases e : d n with
    | true => rw [h n e]; simpa using ih
    | false => cases d' n <;> simp <;> omega
def addD (d : Nat → Bool) (i : Nat) : Nat → Bool := fun j => d j || j == i
theorem undone_less (d : Nat → Bool) (i : Nat) (hd : d i = false) : ∀ n, i < n → undone n (addD d i) + 1 ≤ undone n d
  | 0, h => by omega
  | n + 1, h => by
    unfold undone
    by_cases e : i = n
    · subst e
      have h1 := undone_mono d (addD d i) (fun j hj => by simp [addD, hj]) i
      rw [hd, show addD d i i = true by simp [addD]]
      simp; omega
    · have ih := undone_less d i hd n (by omega)
      have h2 : addD d i n = d n := by unfold addD; rw [show (n == i) = false by simp; omega]; simp
      rw [h2]; omega
def NS : Nat := 531441
theorem NS_le : NS ≤ 1000000 := by unfold NS; omega
def codeN (a b c : Int) : Nat := ((a * 81 + b) * 81 + c).toNat
theorem codeN_lt {a b c : Int} (a0 : 0 ≤ a) (a1 : a ≤ 80) (b0 : 0 ≤ b) (b1 : b ≤ 80) (c0 : 0 ≤ c) (c1 : c ≤ 80) : codeN a b c < NS := by unfold codeN NS; omega
theorem codeN_inj {a b c a' b' c' : Int} (a0 : 0 ≤ a) (b0 : 0 ≤ b) (b1 : b ≤ 80) (c0 : 0 ≤ c) (c1 : c ≤ 80) (a0' : 0 ≤ a') (b0' : 0 ≤ b') (b1' : b' ≤ 80) (c0' : 0 ≤ c') (c1' : c' ≤ 80) (h : codeN a b c = codeN a' b' c') : a = a' ∧ b = b' ∧ c = c' := by
  unfold codeN at h; omega
/-! ### what the search keeps -/
def cutI0 : Option PR → Int | none => 0 | some x => pcN x
def pbL (o : Option PR) : List Value := [.int .i64 (cutI0 o), .int .i64 (numO o), .string (lowO o), .string (highO o)]
def pbV (o : Option PR) : Value := .agg #[.int .i64 (cutI0 o), .int .i64 (numO o), .string (lowO o), .string (highO o)]
def zPB : Value := .agg #[.int .i64 0, .int .i64 0, .string ⟨#[]⟩, .string ⟨#[]⟩]
/-- the states that are known, with their answers -/
structure PI (L lap : Int) (g bm bk bb : Nat) (dn : Nat → Bool) (W : World) : Prop where
  box : PBox g L lap (.map (some bm)) (.map (some bk)) (.map (some bb)) W
  maps : ∃ n fk fb fm, MapIs W bk n fk (.bool false) ∧ MapIs W bb n fb (.bool false) ∧ MapIs W bm n fm zPB ∧ n + undone NS dn ≤ NS ∧
    ∀ a b c : Int, 0 ≤ a → a ≤ 80 → 0 ≤ b → b ≤ 80 → 0 ≤ c → c ≤ 80 → (dn (codeN a b c) = false ∧ fk (keyV a b c) = .bool false ∧ fb (keyV a b c) = .bool false) ∨
      (dn (codeN a b c) = true ∧ ∃ o, IsBest (SetI L lap a b c) o ∧ fk (keyV a b c) = .bool o.isSome ∧ fb (keyV a b c) = .bool (!o.isSome) ∧ fm (keyV a b c) = pbV o)
  ne : g ≠ bm ∧ g ≠ bk ∧ g ≠ bb ∧ bm ≠ bk ∧ bm ≠ bb ∧ bk ≠ bb
theorem PI.lt {L lap : Int} {g bm bk bb : Nat} {dn : Nat → Bool} {W : World} (h : PI L lap g bm bk bb dn W) : g < W.heap.size ∧ bm < W.heap.size ∧ bk < W.heap.size ∧ bb < W.heap.size := by
  obtain ⟨n, fk, fb, fm, h1, h2, h3, _⟩ := h.maps
  exact ⟨lt_of_block h.box, h3.lt, h1.lt, h2.lt⟩
theorem PI.ext {L lap : Int} {g bm bk bb : Nat} {dn : Nat → Bool} {W W' : World} (h : PI L lap g bm bk bb dn W) (e : Ext W W') : PI L lap g bm bk bb dn W' := by
  obtain ⟨h1, ⟨n, fk, fb, fm, m1, m2, m3, r⟩, hn⟩ := h
  exact ⟨e.block h1, ⟨n, fk, fb, fm, m1.ext e, m2.ext e, m3.ext e, r⟩, hn⟩
theorem PI.setOther {L lap : Int} {g bm bk bb : Nat} {dn : Nat → Bool} {W : World} (h : PI L lap g bm bk bb dn W) {b : Nat} (i : Nat) (v : Value) (n : b ≠ g ∧ b ≠ bm ∧ b ≠ bk ∧ b ≠ bb) : PI L lap g bm bk bb dn (W.setCell ⟨b, i, none⟩ v) := by
  obtain ⟨h1, ⟨nn, fk, fb, fm, m1, m2, m3, r⟩, hn⟩ := h
  exact ⟨heap_setN _ _ _ h1 (fun e => n.1 e.symm), ⟨nn, fk, fb, fm, m1.setOther _ _ (fun e => n.2.2.1 e.symm), m2.setOther _ _ (fun e => n.2.2.2 e.symm), m3.setOther _ _ (fun e => n.2.1 e.symm), r⟩, hn⟩
theorem i64_80 {a : Int} (h0 : 0 ≤ a) (h1 : a ≤ 80) : IsI64 a := by unfold IsI64; omega
theorem zero_bool (W : World) : (zeroValue 4).run Try.prog W = .ok (.bool false) W := by kernel_rfl
theorem zero_pb (W : World) : (zeroValue 54).run Try.prog W = .ok zPB W := by kernel_rfl
/-- what a look-up finds -/
theorem PI.look {L lap : Int} {g bm bk bb : Nat} {dn : Nat → Bool} {W : World} (h : PI L lap g bm bk bb dn W) {a b c : Int} (a0 : 0 ≤ a) (a1 : a ≤ 80) (b0 : 0 ≤ b) (b1 : b ≤ 80) (c0 : 0 ≤ c) (c1 : c ≤ 80) :
    (dn (codeN a b c) = false ∧ ∀ W', Ext W W' → (Instr.lookup 83 (.map (some bk)) (keyV a b c) false).run Try.prog W' = .ok (.bool false) W' ∧ (Instr.lookup 83 (.map (some bb)) (keyV a b c) false).run Try.prog W' = .ok (.bool false) W') ∨
    (dn (codeN a b c) = true ∧ ∃ o, IsBest (SetI L lap a b c) o ∧ ∀ W', Ext W W' → (Instr.lookup 83 (.map (some bk)) (keyV a b c) false).run Try.prog W' = .ok (.bool o.isSome) W' ∧ (Instr.lookup 83 (.map (some bb)) (keyV a b c) false).run Try.prog W' = .ok (.bool (!o.isSome)) W' ∧
      (Instr.lookup 82 (.map (some bm)) (keyV a b c) false).run Try.prog W' = .ok (pbV o) W') := by
  obtain ⟨h1, ⟨n, fk, fb, fm, m1, m2, m3, _, r⟩, hn⟩ := h
  obtain ⟨kl, hkl⟩ := key_ok (i64_80 a0 a1) (i64_80 b0 b1) (i64_80 c0 c1)
  rcases r a b c a0 a1 b0 b1 c0 c1 with ⟨r1, r2, r3⟩ | ⟨r1, o, r2, r3, r4, r5⟩
  · refine .inl ⟨r1, fun W' e => ⟨?_, ?_⟩⟩
    · rw [(m1.ext e).look Try.underlying83 (zero_bool _) hkl, r2]
    · rw [(m2.ext e).look Try.underlying83 (zero_bool _) hkl, r3]
  · refine .inr ⟨r1, o, r2, fun W' e => ⟨?_, ?_, ?_⟩⟩
    · rw [(m1.ext e).look Try.underlying83 (zero_bool _) hkl, r3]
    · rw [(m2.ext e).look Try.underlying83 (zero_bool _) hkl, r4]
    · rw [(m3.ext e).look Try.underlying82 (zero_pb _) hkl, r5]
def TM (bm bk bb : Nat) : Nat → Prop := fun i => i = bm ∨ i = bk ∨ i = bb
/-- an answer is kept: three entries are found or made, and written -/
theorem PI.keep {L lap : Int} {g bm bk bb : Nat} {dn : Nat → Bool} {W : World} (h : PI L lap g bm bk bb dn W) {a b c : Int} (a0 : 0 ≤ a) (a1 : a ≤ 80) (b0 : 0 ≤ b) (b1 : b ≤ 80) (c0 : 0 ≤ c) (c1 : c ≤ 80) (hd : dn (codeN a b c) = false) {o : Option PR} (ho : IsBest (SetI L lap a b c) o) :
    ∃ v1 s1 v2 s2 v3 s3 W1 W2 W3 W4 W5 W6,
      (Instr.mapEntry 83 (.map (some bk)) (keyV a b c)).run Try.prog W = .ok (.tuple #[v1, goInt s1]) W1 ∧ (Instr.entryStore 83 (.map (some bk)) (goInt s1) (.bool o.isSome)).run Try.prog W1 = .ok () W2 ∧
      (Instr.mapEntry 83 (.map (some bb)) (keyV a b c)).run Try.prog W2 = .ok (.tuple #[v2, goInt s2]) W3 ∧ (Instr.entryStore 83 (.map (some bb)) (goInt s2) (.bool (!o.isSome))).run Try.prog W3 = .ok () W4 ∧
      (Instr.mapEntry 82 (.map (some bm)) (keyV a b c)).run Try.prog W4 = .ok (.tuple #[v3, goInt s3]) W5 ∧ (Instr.entryStore 82 (.map (some bm)) (goInt s3) (pbV o)).run Try.prog W5 = .ok () W6 ∧
      PI L lap g bm bk bb (addD dn (codeN a b c)) W6 ∧ ChgS (TM bm bk bb) W W1 ∧ ChgS (TM bm bk bb) W W2 ∧ ChgS (TM bm bk bb) W W3 ∧ ChgS (TM bm bk bb) W W4 ∧ ChgS (TM bm bk bb) W W5 ∧ ChgS (TM bm bk bb) W W6 := by
  obtain ⟨h1, ⟨n, fk, fb, fm, m1, m2, m3, hc, r⟩, hn⟩ := h
  obtain ⟨n1, n2, n3, n4, n5, n6⟩ := hn
  obtain ⟨kl, hkl⟩ := key_ok (i64_80 a0 a1) (i64_80 b0 b1) (i64_80 c0 c1)
  have hlt := codeN_lt a0 a1 b0 b1 c0 c1
  have hu := undone_less dn (codeN a b c) hd NS hlt
  have hns := NS_le
  have hnm : n < maxLen := by unfold maxLen; omega
  obtain ⟨v1, s1, W1, W2, e1, g1, e2, g2, q1⟩ := m1.entry Try.underlying83 zero_bool hnm hkl (.bool o.isSome)
  obtain ⟨v2, s2, W3, W4, e3, g3, e4, g4, q2⟩ := ((m2.grown g1 n6.symm).grown g2 n6.symm).entry Try.underlying83 zero_bool hnm hkl (.bool (!o.isSome))
  obtain ⟨v3, s3, W5, W6, e5, g5, e6, g6, q3⟩ := ((((m3.grown g1 n4).grown g2 n4).grown g3 n5).grown g4 n5).entry Try.underlying82 zero_pb hnm hkl (pbV o)
  have C0 := ChgS.refl (TM bm bk bb) W
  have C1 := C0.grown g1 (.inl (.inr (.inl rfl)))
  have C2 := C1.grown g2 (.inl (.inr (.inl rfl)))
  have C3 := C2.grown g3 (.inl (.inr (.inr rfl)))
  have C4 := C3.grown g4 (.inl (.inr (.inr rfl)))
  have C5 := C4.grown g5 (.inl (.inl rfl))
  have C6 := C5.grown g6 (.inl (.inl rfl))
  refine ⟨v1, s1, v2, s2, v3, s3, W1, W2, W3, W4, W5, W6, e1, e2, e3, e4, e5, e6, ⟨C6.blk h1 (by unfold TM; omega), ⟨n + 1, _, _, _, (((q1.grown g3 n6).grown g4 n6).grown g5 n4.symm).grown g6 n4.symm, (q2.grown g5 n5.symm).grown g6 n5.symm, q3, by omega, fun x y z x0 x1 y0 y1 z0 z1 => ?_⟩, n1, n2, n3, n4, n5, n6⟩, C1, C2, C3, C4, C5, C6⟩
  by_cases e : keyV x y z = keyV a b c
  · obtain ⟨rfl, rfl, rfl⟩ := keyV_inj e
    exact .inr ⟨by simp [addD], o, ho, updF_same _ _ _, updF_same _ _ _, updF_same _ _ _⟩
  · have hne : codeN x y z ≠ codeN a b c := fun h => e (by obtain ⟨rfl, rfl, rfl⟩ := codeN_inj x0 y0 y1 z0 z1 a0 b0 b1 c0 c1 h; rfl)
    have hdn : addD dn (codeN a b c) (codeN x y z) = dn (codeN x y z) := by unfold addD; rw [show (codeN x y z == codeN a b c) = false by simp [hne]]; simp
    rw [hdn, updF_other _ _ _ e, updF_other _ _ _ e, updF_other _ _ _ e]
    exact r x y z x0 x1 y0 y1 z0 z1
/-- what stands in memory at each round's head -/
structure RI (w : World) (L lap at_ lo hi : Int) (g bm bk bb nb : Nat) (o : Option PR) (dn dn' : Nat → Bool) (W : World) : Prop where
  sb : W.heap[w.heap.size]? = some (.cells #[.int .i64 at_, .int .i64 lo, .int .i64 hi] 88 (0, 0))
  res : W.heap[w.heap.size + 1]? = some (.cells #[.int .i64 0, .int .i64 0, .string ⟨#[]⟩, .string ⟨#[]⟩] 54 (0, 0))
  now : W.heap[nb]? = some (.cells #[.int .i64 (cutI0 o), .int .i64 (numO o), .string (lowO o), .string (highO o)] 54 (0, 0))
  pi : PI L lap g bm bk bb dn' W
  ch : ChgS (TM bm bk bb) w W
  lt : w.heap.size + 1 < nb
  gs : g < w.heap.size ∧ bm < w.heap.size ∧ bk < w.heap.size ∧ bb < w.heap.size
  old : ∀ a b c : Int, 0 ≤ a → a ≤ at_ → 0 ≤ b → b ≤ 80 → 0 ≤ c → c ≤ 80 → dn' (codeN a b c) = dn (codeN a b c)
theorem RI.ext {w : World} {L lap at_ lo hi : Int} {g bm bk bb nb : Nat} {o : Option PR} {dn dn' : Nat → Bool} {W W' : World} (h : RI w L lap at_ lo hi g bm bk bb nb o dn dn' W) (e : Ext W W') : RI w L lap at_ lo hi g bm bk bb nb o dn dn' W' :=
  ⟨e.block h.sb, e.block h.res, e.block h.now, h.pi.ext e, h.ch.ext e, h.lt, h.gs, h.old⟩
theorem RI.call {w : World} {L lap at_ lo hi : Int} {g bm bk bb nb : Nat} {o : Option PR} {dn dn' dn2 : Nat → Bool} {W W' : World} (h : RI w L lap at_ lo hi g bm bk bb nb o dn dn' W) (p : PI L lap g bm bk bb dn2 W') (c : ChgS (TM bm bk bb) W W')
    (hd : ∀ a b c : Int, 0 ≤ a → a < at_ + 1 → 0 ≤ b → b ≤ 80 → 0 ≤ c → c ≤ 80 → dn2 (codeN a b c) = dn' (codeN a b c)) : RI w L lap at_ lo hi g bm bk bb nb o dn dn2 W' :=
  have h1 := h.gs
  have h2 := h.lt
  ⟨c.blk h.sb (by unfold TM; omega), c.blk h.res (by unfold TM; omega), c.blk h.now (by unfold TM; omega), p, h.ch.trans c, h.lt, h.gs, fun x y z x0 x1 y0 y1 z0 z1 => (hd x y z x0 (by omega) y0 y1 z0 z1).trans (h.old x y z x0 x1 y0 y1 z0 z1)⟩
theorem RI.put {w : World} {L lap at_ lo hi : Int} {g bm bk bb nb : Nat} {o : Option PR} {dn dn' : Nat → Bool} {W : World} (h : RI w L lap at_ lo hi g bm bk bb nb o dn dn' W) {b : Nat} (hb : nb < b) (i : Nat) (v : Value) : RI w L lap at_ lo hi g bm bk bb nb o dn dn' (W.setCell ⟨b, i, none⟩ v) :=
  have h1 := h.gs
  have h2 := h.lt
  ⟨heap_setN _ _ _ h.sb (by omega), heap_setN _ _ _ h.res (by omega), heap_setN _ _ _ h.now (by omega), h.pi.setOther i v ⟨by omega, by omega, by omega, by omega⟩, h.ch.set (.inr (by dsimp only; omega)) v, h.lt, h.gs, h.old⟩
theorem RI.better {w : World} {L lap at_ lo hi : Int} {g bm bk bb nb : Nat} {o : Option PR} {dn dn' : Nat → Bool} {W : World} (h : RI w L lap at_ lo hi g bm bk bb nb o dn dn' W) (y : PR) : RI w L lap at_ lo hi g bm bk bb nb (some y) dn dn' ((((W.setCell ⟨nb, 0, none⟩ (.int .i64 (pcN y))).setCell ⟨nb, 1, none⟩ (.int .i64 (ppN y))).setCell ⟨nb, 2, none⟩ (.string (mkS y.1))).setCell ⟨nb, 3, none⟩ (.string (mkS y.2))) := by
  have h1 := h.gs
  have h2 := h.lt
  refine ⟨?_, ?_, ?_, ?_, ?_, h.lt, h.gs, h.old⟩
  · exact heap_setN _ _ _ (heap_setN _ _ _ (heap_setN _ _ _ (heap_setN _ _ _ h.sb (by omega)) (by omega)) (by omega)) (by omega)
  · exact heap_setN _ _ _ (heap_setN _ _ _ (heap_setN _ _ _ (heap_setN _ _ _ h.res (by omega)) (by omega)) (by omega)) (by omega)
  · exact heap_setC 3 _ (heap_setC 2 _ (heap_setC 1 _ (heap_setC 0 _ h.now)))
  · have n : nb ≠ g ∧ nb ≠ bm ∧ nb ≠ bk ∧ nb ≠ bb := ⟨by omega, by omega, by omega, by omega⟩
    exact (((h.pi.setOther 0 _ n).setOther 1 _ n).setOther 2 _ n).setOther 3 _ n
  · have n : w.heap.size ≤ nb := by omega
    exact (((h.ch.set (.inr n) _).set (.inr n) _).set (.inr n) _).set (.inr n) _
end Go.Proofs.Ytciamgnfbhijlaa
