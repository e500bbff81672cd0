/- Rows of the call's own, of whatever element: appending one element; rows of bytes. -/
import Derived.Test.YtnhmcmohnpbcjaaBytes
namespace Go.Proofs.Ytnhmcmohnpbcjaa
open Go.RowKit
set_option linter.unusedSimpArgs false
set_option linter.unusedVariables false
set_option linter.unnecessarySimpa false

theorem cells_new (w : World) (news : List Value) (E : TypeId) : ∀ j u, news[j]? = some u → (w.alloc (.cells news.toArray E)).cell? ((⟨w.heap.size, 0, none⟩ : Addr).add j) = some u := by
  intro j u hu
  rw [Addr.add_lit, Nat.zero_add, World.cell?_alloc_new]
  simpa using hu

/-- one element is appended to a row of the call's own -/
theorem wpList_append_gen {P : Program} {W w0 w : World} {ops : Array Oper} {rest : List Oper} {o : Oper} {a : Act} {Q : Exit → Act → World → Prop} (T E : TypeId) (z : Value) (size bytes : Nat)
    (hT : P.underlying T = some (.slice E)) (hinfo : (P.info? E).map (fun i => (i.zero, i.size, i.bytes)) = some (some z, size, bytes)) (hzs : z.cells.size = size) (hsz : 0 < size) (hby : bytes ≤ 1000)
    (hgd : o.guard = none) (s x : Operand) (ho : o.op = .call { callee := .builtin .append, args := #[s, x], argTypes := #[T, T] })
    (v : Value) (n : Nat) (xs news : List Value) (hs : a.eval s = v) (hw : w = w0.alloc (.cells news.toArray E)) (hx : a.eval x = .slice (some ⟨w0.heap.size, 0, none⟩) 1 1)
    (hl : news.length = size) (h1 : ∀ u ∈ news, u.oneCell' = true)
    (hown : w0.ownsRow W.heap.size E size v n xs) (e : Ext W w0) (hlen : n ≤ 10000000)
    (h : ∀ v' w', w'.ownsRow W.heap.size E size v' (n + 1) (xs ++ news) → Ext W w' → wpList P ops Q rest (a.put o.dst v') w') : wpList P ops Q (o :: rest) a w := by
  obtain ⟨i0, hi, hz0, hz1, hz2⟩ := info_parts hinfo
  subst hw
  refine wpList_append_own _ hgd s x T ho W.heap.size E i0 z size bytes hT hi hz0 hz1 hz2 hzs hsz v n xs hs (hown.alloc _)
    ⟨w0.heap.size, 0, none⟩ 1 1 news hx (by rw [hl, Nat.one_mul]) (cells_new _ _ _) h1 (by unfold maxLen; omega) (by have : (n + 1) * bytes ≤ 10000001 * 1000 := Nat.mul_le_mul (by omega) hby; omega) (by have := e.size; simp; omega) ?_
  intro v' w' ho' hg _
  exact h v' w' ho' ((e.alloc _).grown hg (fun k hk => (hown.lt k hk).1))

/-- A row of the call's own that holds these bytes. -/
def OwnB (w : World) (base : Nat) (v : Value) (l : List UInt8) : Prop := w.ownsRow base 5 1 v l.length (l.map u8V)
theorem OwnB.ext {w w' : World} {base : Nat} {v : Value} {l : List UInt8} (h : OwnB w base v l) (e : Ext w w') : OwnB w' base v l := ownsRow_ext h e
theorem OwnB.empty {W w : World} (e : Ext W w) : OwnB (w.alloc (.cells #[] 5)) W.heap.size (.slice (some ⟨w.heap.size, 0, none⟩) 0 0) [] :=
  World.ownsRow_made w #[] 0 e.size (by unfold maxLen; omega) rfl
theorem info_u8 : (Try.prog.info? 5).map (fun i => (i.zero, i.size, i.bytes)) = some (some (.int .u8 0), 1, 1) := by kernel_rfl
theorem wpList_append_u8 {W w0 w : World} {ops : Array Oper} {rest : List Oper} {o : Oper} {a : Act} {Q : Exit → Act → World → Prop} (hgd : o.guard = none) (s x : Operand)
    (ho : o.op = .call { callee := .builtin .append, args := #[s, x], argTypes := #[39, 39] })
    (v : Value) (l : List UInt8) (b : UInt8) (hs : a.eval s = v) (hw : w = w0.alloc (.cells #[.int .u8 (b.toNat : Int)] 5)) (hx : a.eval x = .slice (some ⟨w0.heap.size, 0, none⟩) 1 1)
    (hown : OwnB w0 W.heap.size v l) (e : Ext W w0) (hlen : l.length ≤ 10000000)
    (h : ∀ v' w', OwnB w' W.heap.size v' (l ++ [b]) → Ext W w' → wpList Try.prog ops Q rest (a.put o.dst v') w') : wpList Try.prog ops Q (o :: rest) a w := by
  refine wpList_append_gen 39 5 (.int .u8 0) 1 1 Try.underlying39 info_u8 rfl (by decide) (by decide) hgd s x ho v l.length (l.map u8V) [.int .u8 (b.toNat : Int)] hs hw hx rfl (by intro u hu; simp at hu; subst hu; rfl) hown e hlen ?_
  intro v' w' ho' e'
  refine h v' w' ?_ e'
  unfold OwnB
  simpa [u8V] using ho'
/-- a row of bytes, turned into a text -/
theorem OwnB.text {w : World} {base : Nat} {v : Value} {l : List UInt8} (h : OwnB w base v l) (hne : l ≠ []) : (convert 39 9 v).run Try.prog w = .ok (.string (mkS l)) w := by
  have h' : w.ownsRow base 5 1 v l.length (l.map u8V) := h
  rcases h.2 with ⟨rfl, h0⟩ | ⟨g, cap, cur, rfl, _⟩
  · exact absurd (List.eq_nil_of_length_eq_zero h0) hne
  · refine run_convert_bytes_back (P := Try.prog) w 39 9 5 ⟨g, 0, none⟩ cap l Try.underlying39 Try.underlying5 Try.underlying9 (fun j hj => ?_)
    rw [Addr.add_lit, Nat.zero_add, h'.cellAt j (by omega), List.getElem?_map, List.getElem?_eq_getElem hj]
    rfl
end Go.Proofs.Ytnhmcmohnpbcjaa
