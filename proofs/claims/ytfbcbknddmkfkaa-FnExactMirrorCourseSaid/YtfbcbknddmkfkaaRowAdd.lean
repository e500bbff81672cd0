/- Rows of the call's own, of whatever element: appending one element; rows of bytes. -/
import Derived.Test.YtfbcbknddmkfkaaBytes
namespace Go.Proofs.Ytfbcbknddmkfkaa
open Go.RowKit
set_option linter.unusedSimpArgs false
set_option linter.unusedVariables false
set_option linter.unnecessarySimpa false

theorem cells_new (w : World) (news : List Value) (E : TypeId) : ∀ j u, news[j]? = some u → (w.alloc (.cells news.toArray E)).cell? ((⟨w.heap.size, 0, none⟩ : Addr).add j) = some u := by
  intro j u hu
  rw [Addr.add_lit, Nat.zero_add, World.cell?_alloc_new]
  simpa using hu

/-- one element is appended to a row of the call's own -/
theorem wpList_append_gen {P : Program} {W w0 w : World} {ops : Array Oper} {rest : List Oper} {o : Oper} {a : Act} {Q : Exit → Act → World → Prop} (T E : TypeId) (z : Value) (size bytes : Nat)
    (hT : P.underlying T = some (.slice E)) (hinfo : (P.info? E).map (fun i => (i.zero, i.size, i.bytes)) = some (some z, size, bytes)) (hzs : z.cells.size = size) (hsz : 0 < size) (hby : bytes ≤ 1000)
    (hgd : o.guard = none) (s x : Operand) (ho : o.op = .call { callee := .builtin .append, args := #[s, x], argTypes := #[T, T] })
    (v : Value) (n : Nat) (xs news : List Value) (hs : a.eval s = v) (hw : w = w0.alloc (.cells news.toArray E)) (hx : a.eval x = .slice (some ⟨w0.heap.size, 0, none⟩) 1 1)
    (hl : news.length = size) (h1 : ∀ u ∈ news, u.oneCell' = true)
    (hown : w0.ownsRow W.heap.size E size v n xs) (e : Ext W w0) (hlen : n ≤ 10000000)
    (h : ∀ v' w', w'.ownsRow W.heap.size E size v' (n + 1) (xs ++ news) → Ext W w' → wpList P ops Q rest (a.put o.dst v') w') : wpList P ops Q (o :: rest) a w := by
  obtain ⟨i0, hi, hz0, hz1, hz2⟩ := info_parts hinfo
  subst hw
  refine wpList_append_own _ hgd s x T ho W.heap.size E i0 z size bytes hT hi hz0 hz1 hz2 hzs hsz v n xs hs (hown.alloc _)
    ⟨w0.heap.size, 0, none⟩ 1 1 news hx (by rw [hl, Nat.one_mul]) (cells_new _ _ _) h1 (by unfold maxLen; omega) (by have : (n + 1) * bytes ≤ 10000001 * 1000 := Nat.mul_le_mul (by omega) hby; omega) (by have := e.size; simp; omega) ?_
  intro v' w' ho' hg _
  exact h v' w' ho' ((e.alloc _).grown hg (fun k hk => (hown.lt k hk).1))

/-- A row of the call's own that holds these bytes. -/
def OwnB (w : World) (base : Nat) (v : Value) (l : List UInt8) : Prop := w.ownsRow base 5 1 v l.length (l.map u8V)
theorem OwnB.ext {w w' : World} {base : Nat} {v : Value} {l : List UInt8} (h : OwnB w base v l) (e : Ext w w') : OwnB w' base v l := ownsRow_ext h e
theorem OwnB.empty {W w : World} (e : Ext W w) : OwnB (w.alloc (.cells #[] 5)) W.heap.size (.slice (some ⟨w.heap.size, 0, none⟩) 0 0) [] :=
  World.ownsRow_made w #[] 0 e.size (by unfold maxLen; omega) rfl
theorem info_u8 : (Try.prog.info? 5).map (fun i => (i.zero, i.size, i.bytes)) = some (some (.int .u8 0), 1, 1) := by kernel_rfl
theorem wpList_append_u8 {W w0 w : World} {ops : Array Oper} {rest : List Oper} {o : Oper} {a : Act} {Q : Exit → Act → World → Prop} (hgd : o.guard = none) (s x : Operand)
    (ho : o.op = .call { callee := .builtin .append, args := #[s, x], argTypes := #[67, 67] })
    (v : Value) (l : List UInt8) (b : UInt8) (hs : a.eval s = v) (hw : w = w0.alloc (.cells #[.int .u8 (b.toNat : Int)] 5)) (hx : a.eval x = .slice (some ⟨w0.heap.size, 0, none⟩) 1 1)
    (hown : OwnB w0 W.heap.size v l) (e : Ext W w0) (hlen : l.length ≤ 10000000)
    (h : ∀ v' w', OwnB w' W.heap.size v' (l ++ [b]) → Ext W w' → wpList Try.prog ops Q rest (a.put o.dst v') w') : wpList Try.prog ops Q (o :: rest) a w := by
  refine wpList_append_gen 67 5 (.int .u8 0) 1 1 Try.underlying67 info_u8 rfl (by decide) (by decide) hgd s x ho v l.length (l.map u8V) [.int .u8 (b.toNat : Int)] hs hw hx rfl (by intro u hu; simp at hu; subst hu; rfl) hown e hlen ?_
  intro v' w' ho' e'
  refine h v' w' ?_ e'
  unfold OwnB
  simpa [u8V] using ho'
/-- a row of bytes, turned into a text -/
theorem OwnB.text {w : World} {base : Nat} {v : Value} {l : List UInt8} (h : OwnB w base v l) (hne : l ≠ []) : (convert 67 9 v).run Try.prog w = .ok (.string (mkS l)) w := by
  have h' : w.ownsRow base 5 1 v l.length (l.map u8V) := h
  rcases h.2 with ⟨rfl, h0⟩ | ⟨g, cap, cur, rfl, _⟩
  · exact absurd (List.eq_nil_of_length_eq_zero h0) hne
  · refine run_convert_bytes_back (P := Try.prog) w 67 9 5 ⟨g, 0, none⟩ cap l Try.underlying67 Try.underlying5 Try.underlying9 (fun j hj => ?_)
    rw [Addr.add_lit, Nat.zero_add, h'.cellAt j (by omega), List.getElem?_map, List.getElem?_eq_getElem hj]
    rfl
set_option maxHeartbeats 400000 in
theorem s_MirrorCourse (s : ByteArray) (hs : s.size ≤ 9223372036854775807) (w : World) : Calls Try.prog 37 #[.string s] w (RetSC (mirC (bts s)) (sel (validC (bts s)) 0 1) w) := by
  by_cases g : validC (bts s) = true
  · have ⟨h1, h2, _, _⟩ := validC_bd g
    rw [bts_length] at h1 h2
    have eL : Hid (mirC (bts s) = (bts s).reverse) := if_pos g
    have eC : Hid (sel (validC (bts s)) 0 1 = 0) := sel_t g _ _
    go_enter Try.func37, Try.ntmps37
    go_wp2_with (go_at_call 62; refine (s_l06Ok _ hs _).mono ?_; rw [g]; rintro e w' ⟨rfl, rfl⟩)
    clear g
    go_loopw [4, 5] (fun v i wr => ∃ k : Nat, k ≤ s.size ∧ i = .int .i64 ((s.size : Int) - 1 - k) ∧ OwnB wr w.heap.size v ((bts s).reverse.take k) ∧ Ext w wr) (fun _ i _ => (intOf i + 1).toNat)
    case atStart => exact ⟨0, by omega, by simp, OwnB.empty (Ext.refl w), (Ext.refl w).alloc _⟩
    case round =>
      obtain ⟨k, hk, rfl, ho, er⟩ := hrel
      have hl : ((bts s).reverse.take k).length ≤ k := List.length_take_le _ _
      by_cases hlt : k < s.size
      · have hi : (0 : Int) ≤ (s.size : Int) - 1 - k := by omega
        have ht : ((s.size : Int) - 1 - k).toNat = s.size - 1 - k := by omega
        have hib : s.size - 1 - k < s.size := by omega
        have hb : (bts s).reverse.take (k + 1) = (bts s).reverse.take k ++ [s[s.size - 1 - k]] := by
          rw [List.take_succ_eq_append_getElem (by rw [List.length_reverse, bts_length]; omega), rev_at (bts s) s.size (bts_length s)]
          obtain ⟨h3, h4⟩ := byte_at s (s.size - 1 - k) hib
          rw [List.getD_eq_getElem?_getD, List.getElem?_eq_getElem h3, h4]
          rfl
        have HB := Lib.hid hb
        clear hb
        go_wp2_with (at_builtin; refine wpList_append_u8 rfl _ _ rfl _ _ s[s.size - 1 - k] rfl rfl rfl ho er (by omega) ?_)
        intro v' w1 ho1 er1
        clear ho er
        go_wp2
        go_roundw
        case rel => exact ⟨k + 1, by omega, by go_num, by rw [HB.out]; exact ho1, er1⟩
        case measure => simp [intOf]; omega
      · obtain rfl : k = s.size := by omega
        have hall : (bts s).reverse.take s.size = (bts s).reverse := List.take_of_length_le (by rw [List.length_reverse, bts_length]; omega)
        rw [hall] at ho
        have htx := ho.text (by intro h; have := congrArg List.length h; rw [List.length_reverse, bts_length, List.length_nil] at this; omega)
        clear ho hall
        go_wp2
        go_ret2
        exact RetSC.mk (by rw [eL.out]) eC.out.symm er
  · have eL : Hid (mirC (bts s) = []) := if_neg g
    have eC : Hid (sel (validC (bts s)) 0 1 = 1) := sel_f g _ _
    rw [Bool.not_eq_true] at g
    go_enter Try.func37, Try.ntmps37
    go_wp2_with (go_at_call 62; refine (s_l06Ok _ hs _).mono ?_; rw [g]; rintro e w' ⟨rfl, rfl⟩)
    go_ret2
    exact RetSC.mk (by rw [eL.out]; rfl) eC.out.symm (Ext.refl _)
end Go.Proofs.Ytfbcbknddmkfkaa
