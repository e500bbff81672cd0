/- Rows of integers put behind one another: an append of a whole slice, slices.Grow at nil, slices.Concat of two, a copy. -/
import Derived.Test.YtaokeaiehjgbnaaGreatDoorLawInts
import Derived.Lib.AppendZeros
namespace Go.Proofs.YtaokeaiehjgbnaaGreatDoor
open Go.RowKit
set_option linter.unusedSimpArgs false
set_option linter.unusedVariables false
set_option linter.unnecessarySimpa false

theorem ints_news {w : World} {a : Addr} {m : Nat} {ys : List Int} (h : Ints w (some a) m ys) : ∀ j u, (ys.map (Value.int .i64))[j]? = some u → w.cell? (a.add j) = some u := by
  intro j u hu
  rw [List.getElem?_map] at hu
  have hj : j < ys.length := by
    by_cases hj : j < ys.length
    · exact hj
    · rw [List.getElem?_eq_none (by omega)] at hu; simp at hu
  obtain ⟨b, off, he, hc⟩ := h.2.2.1 j (by rw [← h.1]; exact hj)
  obtain rfl := Option.some.inj he
  rw [List.getElem?_eq_getElem hj] at hu
  rw [List.getD_eq_getElem?_getD, List.getElem?_eq_getElem hj] at hc
  rw [Addr.add_lit, hc]
  exact hu
theorem ints_one {ys : List Int} : ∀ u ∈ ys.map (Value.int .i64), u.oneCell' = true := by
  intro u hu
  obtain ⟨y, _, rfl⟩ := List.mem_map.1 hu
  rfl
theorem cat_own {E : TypeId} {w' : World} {base n m : Nat} {v' : Value} {xs ys : List Int} (h : w'.ownsRow base E 1 v' (n + m) (xs.map (Value.int .i64) ++ ys.map (Value.int .i64))) (hn : xs.length = n) (hm : ys.length = m) (h1 : ∀ x ∈ xs, IsI64 x) (h2 : ∀ y ∈ ys, IsI64 y) : OwnInts E w' base v' (xs ++ ys) := by
  refine ⟨?_, fun z hz => ?_⟩
  · rw [List.length_append, hn, hm, List.map_append]; exact h
  · rcases List.mem_append.1 hz with hz | hz
    · exact h1 z hz
    · exact h2 z hz
theorem wpList_append_ints {W w : World} {ops : Array Oper} {rest : List Oper} {o : Oper} {a : Act} {Q : Exit → Act → World → Prop} (hgd : o.guard = none) (s x : Operand)
    (ho : o.op = .call { callee := .builtin .append, args := #[s, x], argTypes := #[24, 24] })
    (v : Value) (xs ys : List Int) (hs : a.eval s = v) (ad : Addr) (m c : Nat) (hx : a.eval x = .slice (some ad) m c)
    (hown : OwnInts 2 w W.heap.size v xs) (e : Ext W w) (hy : Ints w (some ad) m ys) (hlen : xs.length + ys.length ≤ 1000000000)
    (h : ∀ v' w', OwnInts 2 w' W.heap.size v' (xs ++ ys) → Ext W w' → wpList Tryz.prog ops Q rest (a.put o.dst v') w') : wpList Tryz.prog ops Q (o :: rest) a w := by
  obtain ⟨i0, hi, hz0, hz1, hz2⟩ := info_parts info_i64
  have hm := hy.1
  refine wpList_append_own _ hgd s x 24 ho W.heap.size 2 i0 (.int .i64 0) 1 8 Tryz.underlying24 hi hz0 hz1 hz2 rfl (by decide) v xs.length (xs.map (Value.int .i64)) hs hown.1
    ad m c (ys.map (Value.int .i64)) hx (by simp; omega) (ints_news hy) ints_one (by unfold maxLen; omega) (by omega) e.size ?_
  intro v' w' ho' hg _
  exact h v' w' (cat_own ho' rfl hm hown.2 hy.2.2.2) (e.grown hg (fun k hk => (hown.1.lt k hk).1))
theorem step_append_ints {W w : World} {ops : Array Oper} {o : Oper} {a : Act} {K : Act → World → Prop} {Q : Exit → Act → World → Prop} {E : Prop} (hgd : o.guard = none) (s x : Operand)
    (ho : o.op = .call { callee := .builtin .append, args := #[s, x], argTypes := #[24, 24] })
    (v : Value) (xs ys : List Int) (hs : a.eval s = v) (ad : Addr) (m c : Nat) (hx : a.eval x = .slice (some ad) m c)
    (hown : OwnInts 2 w W.heap.size v xs) (e : Ext W w) (hy : Ints w (some ad) m ys) (N : Nat) (hN : xs.length + ys.length = N) (hlen : N ≤ 1000000000)
    (h : ∀ ao cap w', OwnInts 2 w' W.heap.size (.slice ao N cap) (xs ++ ys) → Ext W w' → (∀ k o', w.heap[k]? = some o' → v.ownBlock ≠ some k → w'.heap[k]? = some o') → K (a.put o.dst (.slice ao N cap)) w') :
    if Region.wanted o (yielded ops a.tmps) = true then Oper.wp Tryz.prog o a w K Q else E := by
  have hw : Region.wanted o (yielded ops a.tmps) = true := by simp [Region.wanted, hgd]
  rw [if_pos hw]
  obtain ⟨i0, hi, hz0, hz1, hz2⟩ := info_parts info_i64
  have hm := hy.1
  refine wp_append_own w s x 24 ho W.heap.size 2 i0 (.int .i64 0) 1 8 Tryz.underlying24 hi hz0 hz1 hz2 rfl (by decide) v xs.length (xs.map (Value.int .i64)) hs hown.1
    ad m c (ys.map (Value.int .i64)) hx (by simp; omega) (ints_news hy) ints_one (by unfold maxLen; omega) (by omega) e.size ?_
  intro v' w' ho' hg _
  have ho2 := cat_own ho' rfl hm hown.2 hy.2.2.2
  obtain ⟨ao, cap, rfl, _, _⟩ := ho2.shape
  rw [List.length_append, hN] at ho2 ⊢
  exact h ao cap w' ho2 (e.grown hg (fun k hk => (hown.1.lt k hk).1)) (fun k o' hk hne => (hg.block k (by have := (Array.getElem?_eq_some_iff.1 hk).1; exact this) (fun e => hne (by simpa using e.symm))).trans hk)
theorem s_l00Own (ad : Addr) (n c : Nat) (xs : List Int) (w : World) (hx : Ints w (some ad) n xs) (hn : n ≤ 1000000000) : Calls Tryz.prog 32 #[.slice (some ad) n c] w (RetInts xs w) := by
  have hxl := hx.1
  have e1 : Ext w (w.alloc (.cells #[] 2)) := (Ext.refl w).alloc _
  have HX := Lib.hid (hx.ext e1)
  have HO := Lib.hid (OwnInts.empty (E := 2) (Ext.refl w))
  have HE := Lib.hid e1
  have HL := Lib.hid hxl
  clear hx hxl e1
  go_enter Tryz.func32, Tryz.ntmps32
  go_wp2_with (at_builtin; refine wpList_append_ints (W := w) rfl _ _ rfl _ [] xs rfl ad n c rfl HO.out HE.out HX.out (by have := HL.out; simp; omega) ?_; intro v' w2 ho2 e2; have HO2 := Lib.hid ho2; have HE2 := Lib.hid e2; clear ho2 e2)
  go_ret
  exact RetInts.of_own HO2.out HE2.out
set_option maxHeartbeats 1000000 in
theorem f_Grow (m : Nat) (w : World) (h1 : 1 ≤ m) (h2 : m ≤ 1000000) :
    Calls Tryz.prog 60 #[.slice none 0 0, .int .i64 m] w (fun e w' => ∃ g c, e = .returned (.slice (some ⟨g, 0, none⟩) 0 c) ∧ OwnInts 2 w' w.heap.size (.slice (some ⟨g, 0, none⟩) 0 c) [] ∧ Ext w w') := by
  obtain ⟨i0, hi, hz0, hz1, hz2⟩ := info_parts info_i64
  have hrz : ∀ ty, (Builtin.append_ #[24, 3] ty #[.slice none 0 0, .int .i64 (m : Int)]).run Tryz.prog w =
      .ok (.slice (some ⟨w.heap.size, 0, none⟩) m (grownCap w m 0 2)) (w.drew.alloc (.cells (Builtin.zeroCells (Value.int .i64 0).cells m ++ Builtin.zeroCells (Value.int .i64 0).cells (grownCap w m 0 2 - m)) 2)) := fun ty =>
    Lib.run_append_nil_zeros w 24 3 ty 2 i0 (.int .i64 0) .i64 .i64 Tryz.underlying24 Tryz.underlying3 hi hz0 m (by omega) (by rw [hz1]; decide) (by omega) (by rw [hz2]; omega)
  have hGn : m ≤ grownCap w m 0 2 := grownCap_ge w _ _ _
  have hGm := grownCap_le_maxLen w m 0 2 (by unfold maxLen; omega)
  obtain ⟨G, hG⟩ : ∃ G, G = grownCap w m 0 2 := ⟨_, rfl⟩
  rw [← hG] at hrz hGn hGm
  have HO : Hid (OwnInts 2 (w.drew.alloc (.cells (Builtin.zeroCells (Value.int .i64 0).cells m ++ Builtin.zeroCells (Value.int .i64 0).cells (G - m)) 2)) w.heap.size (.slice (some ⟨w.heap.size, 0, none⟩) 0 G) []) :=
    Lib.hid ⟨World.ownsRow_made w.drew _ G (Nat.le_refl _) hGm (by rw [Array.size_append, size_zeroCells, size_zeroCells]; show m * 1 + (G - m) * 1 = G * 1; omega), by simp⟩
  have HE : Hid (Ext w (w.drew.alloc (.cells (Builtin.zeroCells (Value.int .i64 0).cells m ++ Builtin.zeroCells (Value.int .i64 0).cells (G - m)) 2))) := Lib.hid ((Ext.refl w).drew.alloc _)
  have HR := Lib.hid hrz
  have hG63 : G ≤ 9223372036854775807 := by unfold maxLen at hGm; omega
  clear hG hrz hi hz0 hz1 hz2
  go_enter Tryz.func60, Tryz.ntmps60
  go_wp2_with (at_builtin; refine Lib.wpList_append_run _ rfl _ _ _ _ rfl _ _ rfl rfl _ _ (HR.out _) ?_)
  go_ret
  exact ⟨_, _, rfl, HO.out, HE.out⟩
/-- what is behind k of two -/
def two0 {α : Type} (z a b : α) (k : Nat) : α := if k = 0 then z else if k = 1 then a else b
set_option maxHeartbeats 2000000 in
theorem f_Concat (g : Nat) (a1 a2 : Addr) (n1 n2 c1 c2 : Nat) (xs ys : List Int) (w : World) (q1 : w.cell? ⟨g, 0, none⟩ = some (.slice (some a1) n1 c1)) (q2 : w.cell? ⟨g, 1, none⟩ = some (.slice (some a2) n2 c2))
    (h1 : Ints w (some a1) n1 xs) (h2 : Ints w (some a2) n2 ys) (hn : 1 ≤ n1) (hm : n1 + n2 ≤ 1000000) :
    Calls Tryz.prog 29 #[.slice (some ⟨g, 0, none⟩) 2 2] w (RetInts (xs ++ ys) w) := by
  have H1 := Lib.hid h1
  have H2 := Lib.hid h2
  have Q1 := Lib.hid q1
  have Q2 := Lib.hid q2
  have HG := Lib.hid (fun W => f_Grow (n1 + n2) W (by omega) (by omega))
  clear h1 h2
  go_enter Tryz.func29, Tryz.ntmps29
  go_wp2
  go_loop [3, 11] (fun z i => ∃ k : Nat, k ≤ 2 ∧ i = .int .i64 k ∧ z = .int .i64 ((two0 0 n1 (n1 + n2) k : Nat) : Int)) (fun _ i => 2 - (intOf i).toNat)
  case atStart => exact ⟨0, by omega, rfl, rfl⟩
  case round =>
    obtain ⟨k, hk, rfl, rfl⟩ := hrel
    have h3 : k = 0 ∨ k = 1 ∨ k = 2 := by omega
    rcases h3 with rfl | rfl | rfl
    · rw [show ((two0 0 n1 (n1 + n2) 0 : Nat) : Int) = 0 from rfl]
      have e1 : Hid (((two0 0 n1 (n1 + n2) 1 : Nat) : Int) = n1) := Lib.hid rfl
      go_wp2
      go_round
      case rel => first | exact ⟨1, by omega, by go_num, by rw [e1.out]⟩ | ((repeat apply Exists.intro); exact ⟨⟨1, by omega, by go_num, by rw [e1.out]⟩, rfl⟩)
      case measure => (simp [intOf] <;> omega)
    · rw [show ((two0 0 n1 (n1 + n2) 1 : Nat) : Int) = n1 from rfl]
      have e1 : Hid (((two0 0 n1 (n1 + n2) 2 : Nat) : Int) = (n1 : Int) + n2) := Lib.hid (by unfold two0; simp)
      go_wp2
      go_round
      case rel => first | exact ⟨2, by omega, by go_num, by rw [e1.out]⟩ | ((repeat apply Exists.intro); exact ⟨⟨2, by omega, by go_num, by rw [e1.out]⟩, rfl⟩)
      case measure => (simp [intOf] <;> omega)
    · have e2 : ((two0 0 n1 (n1 + n2) 2 : Nat) : Int) = ((n1 + n2 : Nat) : Int) := rfl
      rw [e2]
      clear e2
      have e0 : Ext w w := Ext.refl w
      go_wp2_with (go_at_call 60; refine (HG.out _).mono ?_; rintro e w1 ⟨gg, cg, rfl, og, eg⟩; have HOG := Lib.hid og; have HEG := Lib.hid eg; clear og eg)
      go_loopw [6, 27] (fun v i wr => ∃ k : Nat, k ≤ 2 ∧ i = .int .i64 k ∧ Hid (OwnInts 2 wr w.heap.size v (two0 [] xs (xs ++ ys) k)) ∧ Hid (Ext w wr)) (fun _ i _ => 2 - (intOf i).toNat)
      case atStart => exact ⟨0, by omega, rfl, HOG, HEG⟩
      case round =>
        obtain ⟨k, hk, rfl, HO, HE⟩ := hrel
        have h3 : k = 0 ∨ k = 1 ∨ k = 2 := by omega
        have HX1 := Lib.hid (H1.out.ext HE.out)
        have HX2 := Lib.hid (H2.out.ext HE.out)
        have p1 := HE.out.cell Q1.out
        have p2 := HE.out.cell Q2.out
        rcases h3 with rfl | rfl | rfl
        · go_wp2_with (at_builtin; refine wpList_append_ints (W := w) rfl _ _ rfl _ [] xs rfl a1 n1 c1 rfl HO.out HE.out HX1.out (by have := H1.out.1; simp; omega) ?_; intro v' w2 ho2 e2; have HO2 := Lib.hid ho2; have HE2 := Lib.hid e2; clear ho2 e2)
          go_roundw
          case rel => first | exact ⟨1, by omega, by go_num, HO2, HE2⟩ | ((repeat apply Exists.intro); exact ⟨⟨1, by omega, by go_num, HO2, HE2⟩, rfl⟩)
          case measure => (simp [intOf] <;> omega)
        · go_wp2_with (at_builtin; refine wpList_append_ints (W := w) rfl _ _ rfl _ xs ys rfl a2 n2 c2 rfl HO.out HE.out HX2.out (by have := H1.out.1; have := H2.out.1; omega) ?_; intro v' w2 ho2 e2; have HO2 := Lib.hid ho2; have HE2 := Lib.hid e2; clear ho2 e2)
          go_roundw
          case rel => first | exact ⟨2, by omega, by go_num, HO2, HE2⟩ | ((repeat apply Exists.intro); exact ⟨⟨2, by omega, by go_num, HO2, HE2⟩, rfl⟩)
          case measure => (simp [intOf] <;> omega)
        · go_wp2
          go_ret
          exact RetInts.of_own HO.out HE.out
end Go.Proofs.YtaokeaiehjgbnaaGreatDoor
