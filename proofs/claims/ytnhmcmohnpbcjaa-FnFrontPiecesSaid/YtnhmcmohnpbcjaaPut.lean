/- An opening is put in its place: the reference's l09Put. -/
import Derived.Test.YtnhmcmohnpbcjaaGaFv
import Derived.Test.YtnhmcmohnpbcjaaCls
import Derived.Test.YtnhmcmohnpbcjaaChg
import Derived.Test.YtnhmcmohnpbcjaaGaStrs
import Derived.Laws.AppendOwnNone
namespace Go.Proofs.Ytnhmcmohnpbcjaa
open Go.RowKit
set_option linter.unusedSimpArgs false
set_option linter.unusedVariables false
set_option linter.unnecessarySimpa false

/-- where x goes among the first k of os -/
def putPos (os : List Opn) (x : Opn) : Nat → Nat
  | 0 => 0
  | k + 1 => if befB x (os.getD k default) then putPos os x k else k + 1
def putO (os : List Opn) (x : Opn) : List Opn := os.take (putPos os x os.length) ++ x :: os.drop (putPos os x os.length)
theorem putPos_le (os : List Opn) (x : Opn) (k : Nat) : putPos os x k ≤ k := by
  induction k with
  | zero => exact Nat.le_refl _
  | succ k ih => unfold putPos; split <;> omega
theorem putO_len (os : List Opn) (x : Opn) : (putO os x).length = os.length + 1 := by
  have := putPos_le os x os.length
  unfold putO
  rw [List.length_append, List.length_cons, List.length_take, List.length_drop]
  omega
theorem putO_ok {os : List Opn} {x : Opn} (h : ∀ o ∈ os, o.ok) (hx : x.ok) : ∀ o ∈ putO os x, o.ok := by
  intro o ho
  unfold putO at ho
  rcases List.mem_append.1 ho with ho | ho
  · exact h o (List.mem_of_mem_take ho)
  · rcases List.mem_cons.1 ho with rfl | ho
    · exact hx
    · exact h o (List.mem_of_mem_drop ho)
theorem flat_getElem (os : List Opn) (i j : Nat) (hi : i < os.length) (hj : j < 4) : (os.flatMap opnC)[i * 4 + j]? = (opnC (os.getD i default))[j]? := by
  have h : os = os.take i ++ os.getD i default :: os.drop (i + 1) := by
    rw [List.getD_eq_getElem?_getD, List.getElem?_eq_getElem hi, Option.getD_some, List.getElem_cons_drop, List.take_append_drop]
  have hP : ((os.take i).flatMap opnC).length = i * 4 := by rw [flat_length, List.length_take]; congr 1; omega
  conv => lhs; rw [h]
  rw [List.flatMap_append, List.flatMap_cons, List.getElem?_append_right (by omega), hP, show i * 4 + j - i * 4 = j by omega, List.getElem?_append_left (by unfold opnC; simp; omega)]
theorem addr_add (ad : Addr) (a b : Nat) : (ad.add a).add b = ad.add (a + b) := by
  unfold Addr.add
  by_cases h1 : a = 0
  · subst h1; simp
  · by_cases h2 : b = 0
    · subst h2; simp
    · rw [if_neg h1, if_neg h2, if_neg (by omega)]
      simp only [Nat.add_assoc]
theorem putO_nil (x : Opn) : putO [] x = [x] := rfl
/-- the cells of the openings from ad on -/
def FlatAt (w : World) (ad : Addr) (os : List Opn) : Prop := ∀ (j : Nat) (u : Value), (os.flatMap opnC)[j]? = some u → w.cell? (ad.add j) = some u
theorem FlatAt.ext {w w' : World} {ad : Addr} {os : List Opn} (h : FlatAt w ad os) (e : Ext w w') : FlatAt w' ad os := fun j u hu => e.cell (h j u hu)
theorem Opens.flat {w : World} {ad : Addr} {n : Nat} {os : List Opn} (h : Opens w (some ad) n os) : FlatAt w ad os := by
  intro j u hu
  have hj : j < os.length * 4 := by rw [← flat_length]; exact (List.getElem?_eq_some_iff.1 hu).1
  have hl := h.1
  obtain ⟨b, off, h0, h1, h2, h3, h4⟩ := h.2.2.1 (j / 4) (by omega)
  obtain rfl := Option.some.inj h0
  have hd := flat_getElem os (j / 4) (j % 4) (by omega) (by omega)
  rw [show j / 4 * 4 + j % 4 = j by omega, hu] at hd
  have h5 : j % 4 = 0 ∨ j % 4 = 1 ∨ j % 4 = 2 ∨ j % 4 = 3 := by omega
  have ha : ∀ r, j % 4 = r → (Addr.add ⟨b, off, none⟩ j) = ⟨b, off + j / 4 * 4 + r, none⟩ := fun r hr => by
    rw [Addr.add_lit]; congr 1; omega
  rcases h5 with h5 | h5 | h5 | h5 <;> rw [ha _ h5] <;> rw [h5] at hd <;> simp [opnC] at hd <;> subst hd
  · exact h1
  · exact h2
  · exact h3
  · exact h4
theorem FlatAt.take {w : World} {ad : Addr} {os : List Opn} (h : FlatAt w ad os) (k : Nat) : FlatAt w ad (os.take k) := by
  intro j u hu
  refine h j u ?_
  have : os.flatMap opnC = (os.take k).flatMap opnC ++ (os.drop k).flatMap opnC := by rw [← List.flatMap_append, List.take_append_drop]
  rw [this, List.getElem?_append_left (List.getElem?_eq_some_iff.1 hu).1]
  exact hu
theorem FlatAt.drop {w : World} {ad : Addr} {os : List Opn} (h : FlatAt w ad os) (k : Nat) (hk : k ≤ os.length) : FlatAt w (ad.add (k * 4)) (os.drop k) := by
  intro j u hu
  have h2 := h (k * 4 + j) u (by
    have : os.flatMap opnC = (os.take k).flatMap opnC ++ (os.drop k).flatMap opnC := by rw [← List.flatMap_append, List.take_append_drop]
    have hP : ((os.take k).flatMap opnC).length = k * 4 := by rw [flat_length, List.length_take]; congr 1; omega
    rw [this, List.getElem?_append_right (by omega), hP, show k * 4 + j - k * 4 = j by omega]
    exact hu)
  rw [addr_add]; exact h2
theorem FlatAt.fresh (w : World) (x : Opn) (T : TypeId) : FlatAt (w.alloc (.cells #[.int .i64 x.fr, .int .i64 x.en, .int .i64 x.lo, .int .i64 x.hi] T)) ⟨w.heap.size, 0, none⟩ [x] := cells_new w (opnC x) T
theorem FlatAt.nil (w : World) (ad : Addr) : FlatAt w ad [] := fun j u hu => by simp at hu
theorem OwnOpens.empty {W w : World} (e : Ext W w) : OwnOpens (w.alloc (.cells #[] 34)) W.heap.size (.slice (some ⟨w.heap.size, 0, none⟩) 0 0) [] :=
  ⟨World.ownsRow_made w #[] 0 e.size (by unfold maxLen; omega) rfl, by simp⟩
theorem OwnOpens.nilv (w : World) (base : Nat) : OwnOpens w base (.slice none 0 0) [] := ⟨World.ownsRow_nil _ _ _ _, by simp⟩
/-- openings are appended to a row of the call's own -/
theorem wpList_append_opens {w : World} {base : Nat} {ops : Array Oper} {rest : List Oper} {o : Oper} {a : Act} {Q : Exit → Act → World → Prop} (hgd : o.guard = none) (s x : Operand)
    (ho : o.op = .call { callee := .builtin .append, args := #[s, x], argTypes := #[28, 28] })
    (v : Value) (ys : List Opn) (hs : a.eval s = v) (hown : OwnOpens w base v ys) (hbase : base ≤ w.heap.size)
    (ad : Addr) (m c : Nat) (zs : List Opn) (hx : a.eval x = .slice (some ad) m c) (hm : zs.length = m) (hz : FlatAt w ad zs) (hzo : ∀ o ∈ zs, o.ok) (hlen : ys.length + m ≤ 10000000)
    (h : ∀ v' w', OwnOpens w' base v' (ys ++ zs) → w.grownBy w' v.ownBlock → wpList Try.prog ops Q rest (a.put o.dst v') w') : wpList Try.prog ops Q (o :: rest) a w := by
  obtain ⟨i0, hi, hz0, hz1, hz2⟩ := info_parts info_opn
  refine wpList_append_own _ hgd s x 28 ho base 34 i0 (.agg #[.int .i64 0, .int .i64 0, .int .i64 0, .int .i64 0]) 4 32 Try.underlying28 hi hz0 hz1 hz2 rfl (by decide) v ys.length (ys.flatMap opnC) hs hown.1
    ad m c (zs.flatMap opnC) hx (by rw [flat_length, hm]) hz (by
      intro u hu
      obtain ⟨o, _, ho⟩ := List.mem_flatMap.1 hu
      simp [opnC] at ho
      rcases ho with rfl | rfl | rfl | rfl <;> rfl) (by unfold maxLen; omega) (by omega) hbase ?_
  intro v' w' ho' hg _
  refine h v' w' ⟨by rw [List.length_append, List.flatMap_append, hm]; exact ho', fun z hz => ?_⟩ hg
  rcases List.mem_append.1 hz with hz | hz
  · exact hown.2 z hz
  · exact hzo z hz
theorem wpList_append_opens_nil {w : World} {base : Nat} {ops : Array Oper} {rest : List Oper} {o : Oper} {a : Act} {Q : Exit → Act → World → Prop} (hgd : o.guard = none) (s x : Operand)
    (ho : o.op = .call { callee := .builtin .append, args := #[s, x], argTypes := #[28, 28] })
    (v : Value) (ys : List Opn) (hs : a.eval s = v) (hown : OwnOpens w base v ys) (hx : a.eval x = .slice none 0 0)
    (h : wpList Try.prog ops Q rest (a.put o.dst v) w) : wpList Try.prog ops Q (o :: rest) a w := by
  obtain ⟨i0, hi, hz0, hz1, hz2⟩ := info_parts info_opn
  exact wpList_append_own_none hgd s x 28 ho base 34 i0 4 Try.underlying28 hi v ys.length (ys.flatMap opnC) hs hown.1 hx h
theorem RetOpens.of_own {os : List Opn} {w w' : World} {v : Value} (h : OwnOpens w' w.heap.size v os) (e : Ext w w') : RetOpens os w (.returned v) w' := by
  have h2 := h.1.2
  rcases h2 with ⟨hv, h0⟩ | ⟨g, cap, cur, hv, r⟩
  · subst hv
    have : os.length = 0 := h0
    exact ⟨none, 0, by rw [this], by rw [this]; exact h, e⟩
  · subst hv
    exact ⟨_, cap, rfl, h, e⟩
set_option maxRecDepth 100000 in
set_option maxHeartbeats 4000000 in
theorem s_l09Put (ao : Option Addr) (n c : Nat) (os : List Opn) (x : Opn) (w : World) (hx : Opens w ao n os) (hnc : n ≤ c) (hc : ao = none → c = 0) (hn : n ≤ 1000000) (hc2 : c ≤ 9223372036854775807) (hxo : x.ok) :
    Calls Try.prog 49 #[.slice ao n c, opnV x] w (RetOpens (putO os x) w) := by
  obtain ⟨x1, x2, x3, x4⟩ := x
  have HE : Hid (Ext w (w.alloc (.cells #[.int .i64 x1, .int .i64 x2, .int .i64 x3, .int .i64 x4] 34))) := Lib.hid ((Ext.refl w).alloc _)
  have hF : Four (w.alloc (.cells #[.int .i64 x1, .int .i64 x2, .int .i64 x3, .int .i64 x4] 34)) w.heap.size 0 x1 x2 x3 x4 := by
    obtain ⟨h0, h1, h2, h3, _⟩ := four_cells (heap_alloc_new w (.cells #[.int .i64 x1, .int .i64 x2, .int .i64 x3, .int .i64 x4] 34))
    exact ⟨h0, h1, h2, h3⟩
  have hl := hx.1
  have HX := Lib.hid (hx.ext HE.out)
  have HF := Lib.hid hF
  have HP := Lib.hid (fun k => (show putPos os ⟨x1, x2, x3, x4⟩ (k + 1) = if befB ⟨x1, x2, x3, x4⟩ (os.getD k default) then putPos os ⟨x1, x2, x3, x4⟩ k else k + 1 from rfl))
  have HO : Hid (putO os ⟨x1, x2, x3, x4⟩ = os.take (putPos os ⟨x1, x2, x3, x4⟩ n) ++ ⟨x1, x2, x3, x4⟩ :: os.drop (putPos os ⟨x1, x2, x3, x4⟩ n)) := Lib.hid (by unfold putO; rw [hl])
  have HXO := Lib.hid hxo
  obtain ⟨wb, hwb⟩ : ∃ wb, w.alloc (.cells #[.int .i64 x1, .int .i64 x2, .int .i64 x3, .int .i64 x4] 34) = wb := ⟨_, rfl⟩
  clear hx hF
  go_enter Try.func49, Try.ntmps49
  go_wp2
  try rw [hwb]
  rw [hwb] at HX HE HF
  clear hwb
  go_loopw [5] (fun i wr => ∃ k : Nat, k ≤ n ∧ i = .int .i64 k ∧ Hid (putPos os ⟨x1, x2, x3, x4⟩ n = putPos os ⟨x1, x2, x3, x4⟩ k) ∧ Hid (Ext wb wr)) (fun i _ => (intOf i).toNat)
  case atStart => exact ⟨n, Nat.le_refl _, rfl, Lib.hid rfl, Lib.hid (Ext.refl _)⟩
  case round =>
    obtain ⟨k, hk, rfl, HK, er⟩ := hrel
    obtain ⟨α, hne, F, hFK⟩ := cls_of wr
    have HFK := Lib.hid hFK
    obtain ⟨s0, s1, s2, s3⟩ := hFK.four (HF.out.ext er.out)
    simp only [Nat.zero_add] at s1 s2 s3
    clear hFK
    cases k with
    | zero =>
      have HPP : Hid (putPos os ⟨x1, x2, x3, x4⟩ n = 0) := HK
      go_upto_region 2 with fail
      refine wp_region_cls F (by kernel_rfl) (by kernel_rfl) HFK.out.drew ?_
      repeat (go_big_quiet_step ((fail)))
      refine wpQuiet_nil ?_
      rintro _ ⟨z, rfl⟩
      have HZ := Lib.hid (er.out.trans (HFK.out.ext z))
      clear s0 s1 s2 s3
      have HF2 := HF.out.ext HZ.out
      simp only [Four, Nat.zero_add] at HF2
      obtain ⟨r0, r1, r2, r3⟩ := HF2
      cases ao with
      | none =>
        obtain rfl := hc rfl
        obtain rfl : n = 0 := by omega
        obtain rfl : os = [] := List.length_eq_zero_iff.1 hl
        clear r0 r1 r2 r3
        have HF3 := HF.out.ext (HZ.out.alloc (.cells #[] 34))
        simp only [Four, Nat.zero_add] at HF3
        obtain ⟨r0, r1, r2, r3⟩ := HF3
        have HO0 := Lib.hid (OwnOpens.empty (Ext.refl (F z)))
        have HE0 := Lib.hid ((Ext.refl (F z)).alloc (.cells #[] 34))
        have HNE := Lib.hid (putO_nil ⟨x1, x2, x3, x4⟩)
        have HFN := Lib.hid (show FlatAt (((F z).alloc (.cells #[] 34)).alloc (.cells #[.int .i64 x1, .int .i64 x2, .int .i64 x3, .int .i64 x4] 34)) ⟨(F z).heap.size + 1, 0, none⟩ [⟨x1, x2, x3, x4⟩] from by have := FlatAt.fresh ((F z).alloc (.cells #[] 34)) ⟨x1, x2, x3, x4⟩ 34; rwa [World.size_alloc] at this)
        go_wp2_with (at_builtin; refine wpList_append_opens (base := (F z).heap.size) rfl _ _ rfl _ [] rfl (HO0.out.ext ((Ext.refl _).alloc _)) (Nat.le_trans HE0.out.size ((Ext.refl _).alloc _).size) _ 1 1 [⟨x1, x2, x3, x4⟩] rfl rfl HFN.out (by intro o ho; rw [List.mem_singleton] at ho; subst ho; exact HXO.out) (by simp) ?_)
        intro v5 w5 ho5 hg5
        have HO5 := Lib.hid ho5
        have HE5 := Lib.hid ((HE.out.trans ((HZ.out.alloc (.cells #[] 34)).alloc (.cells #[.int .i64 x1, .int .i64 x2, .int .i64 x3, .int .i64 x4] 34))).grown hg5 (fun j hj => Nat.le_trans (HE.out.trans HZ.out).size (World.ownsRow.lt HO0.out.1 j hj).1))
        clear ho5 hg5 r0 r1 r2 r3
        go_wp2_with (at_builtin; refine wpList_append_opens_nil (base := (F z).heap.size) rfl _ _ rfl _ [⟨x1, x2, x3, x4⟩] rfl HO5.out rfl ?_)
        go_ret
        exact RetOpens.of_own (by rw [HNE.out]; exact HO5.out.mono (HE.out.trans HZ.out).size) HE5.out
      | some ad =>
        clear r0 r1 r2 r3
        obtain ⟨W, hW⟩ : ∃ W, F z = W := ⟨_, rfl⟩
        rw [hW] at HZ
        rw [hW]
        have HFL := Lib.hid HX.out.flat
        have HXK := Lib.hid HX.out.2.2.2
        have HZS := Lib.hid HZ.out.size
        have HTL : Hid ((os.take 0).length = 0) := Lib.hid (by rw [List.length_take]; omega)
        have HDL : Hid ((os.drop 0).length = n - 0) := Lib.hid (by rw [List.length_drop, hl])
        have HOE := Lib.hid (OwnOpens.empty (Ext.refl W))
        have HF1 := Lib.hid ((HFL.out.ext (HZ.out.alloc (.cells #[] 34))).take 0)
        have HO2 : Hid (putO os ⟨x1, x2, x3, x4⟩ = os.take 0 ++ ⟨x1, x2, x3, x4⟩ :: os.drop 0) := Lib.hid (by rw [HO.out, HPP.out])
        have HLE := Lib.hid ((Ext.refl W).alloc (.cells #[] 34)).size
        clear hW
        go_wp2_with (at_builtin; refine wpList_append_opens (base := W.heap.size) rfl _ _ rfl _ [] rfl HOE.out HLE.out _ 0 c (os.take 0) rfl HTL.out HF1.out (fun o ho => HXK.out o (List.mem_of_mem_take ho)) (by simp <;> omega) ?_)
        intro v4 w4 ho4 hg4
        have HO4 := Lib.hid ho4
        have HE4 := Lib.hid ((HZ.out.alloc (.cells #[] 34)).grown hg4 (fun j hj => Nat.le_trans HZ.out.size (World.ownsRow.lt HOE.out.1 j hj).1))
        have HL4 := Lib.hid (Nat.le_trans HLE.out hg4.size)
        clear ho4 hg4
        have HF4 := HF.out.ext HE4.out
        simp only [Four, Nat.zero_add] at HF4
        obtain ⟨r0, r1, r2, r3⟩ := HF4
        have HFN := Lib.hid (FlatAt.fresh w4 ⟨x1, x2, x3, x4⟩ 34)
        go_wp2_with (at_builtin; refine wpList_append_opens (base := W.heap.size) rfl _ _ rfl v4 _ rfl (HO4.out.ext ((Ext.refl _).alloc _)) (Nat.le_trans HL4.out ((Ext.refl _).alloc _).size) _ 1 1 [⟨x1, x2, x3, x4⟩] rfl rfl HFN.out (by intro o ho; rw [List.mem_singleton] at ho; subst ho; exact HXO.out) (by simp <;> omega) ?_)
        intro v5 w5 ho5 hg5
        have HO5 := Lib.hid ho5
        have HE5 := Lib.hid ((HE4.out.alloc (.cells #[.int .i64 x1, .int .i64 x2, .int .i64 x3, .int .i64 x4] 34)).grown hg5 (fun j hj => Nat.le_trans HZ.out.size (World.ownsRow.lt HO4.out.1 j hj).1))
        have HL5 := Lib.hid (Nat.le_trans (Nat.le_trans HL4.out ((Ext.refl w4).alloc (.cells #[.int .i64 x1, .int .i64 x2, .int .i64 x3, .int .i64 x4] 34)).size) hg5.size)
        have HF5 := Lib.hid (HFL.out.ext HE5.out)
        clear ho5 hg5 r0 r1 r2 r3
        have HFD := Lib.hid (HF5.out.drop 0 (by omega))
        by_cases hck : c = 0
        · have hnk : n = 0 := by omega
          have HDN : Hid (os.drop 0 = []) := Lib.hid (List.drop_of_length_le (by omega))
          have HDL0 : Hid ((os.drop 0).length = 0) := Lib.hid (by rw [HDN.out]; rfl)
          go_wp2_with (at_builtin; refine wpList_append_opens (base := W.heap.size) rfl _ _ rfl v5 _ rfl HO5.out HL5.out _ _ _ (os.drop 0) rfl HDL0.out (HDN.out.symm ▸ FlatAt.nil _ _) (fun o ho => HXK.out o (List.mem_of_mem_drop ho)) (by simp <;> omega) ?_)
          intro v6 w6 ho6 hg6
          have HO6 := Lib.hid ho6
          have HE6 := Lib.hid (HE.out.trans (HE5.out.grown hg6 (fun j hj => Nat.le_trans HZ.out.size (World.ownsRow.lt HO5.out.1 j hj).1)))
          clear ho6 hg6
          go_wp2
          go_ret
          exact RetOpens.of_own (by rw [HO2.out]; have := HO6.out.mono (HE.out.trans HZ.out).size; simpa using this) HE6.out
        · go_wp2_with (at_builtin; refine wpList_append_opens (base := W.heap.size) rfl _ _ rfl v5 _ rfl HO5.out HL5.out _ _ _ (os.drop 0) rfl HDL.out HFD.out (fun o ho => HXK.out o (List.mem_of_mem_drop ho)) (by simp <;> omega) ?_)
          intro v6 w6 ho6 hg6
          have HO6 := Lib.hid ho6
          have HE6 := Lib.hid (HE.out.trans (HE5.out.grown hg6 (fun j hj => Nat.le_trans HZ.out.size (World.ownsRow.lt HO5.out.1 j hj).1)))
          clear ho6 hg6
          go_wp2
          go_ret
          exact RetOpens.of_own (by rw [HO2.out]; have := HO6.out.mono (HE.out.trans HZ.out).size; simpa using this) HE6.out
    | succ k =>
      obtain ⟨b, off, rfl, c0, c1, c2, c3⟩ := (HX.out.ext er.out).2.2.1 k (by omega)
      have HS := HP.out k
      obtain ⟨y, hy⟩ : ∃ y, os.getD k default = y := ⟨_, rfl⟩
      rw [hy] at c0 c1 c2 c3 HS
      have hBf := fun W => s_l09Before ⟨x1, x2, x3, x4⟩ y W
      obtain ⟨bv, hbv⟩ : ∃ v, befB ⟨x1, x2, x3, x4⟩ y = v := ⟨_, rfl⟩
      rw [hbv] at hBf HS
      have HBf := Lib.hid hBf
      obtain ⟨y1, y2, y3, y4⟩ := y
      have K : Four wr b (off + k * 4) y1 y2 y3 y4 := ⟨c0, c1, c2, c3⟩
      obtain ⟨t0, t1, t2, t3⟩ := HFK.out.four K
      clear hBf hbv hy c0 c1 c2 c3 K
      have hki : (0 : Int) < ((k + 1 : Nat) : Int) := by omega
      have hkn : ((k + 1 : Nat) : Int) - 1 < (n : Int) := by omega
      have hk0 : (0 : Int) ≤ ((k + 1 : Nat) : Int) - 1 := by omega
      cases bv with
      | true =>
        have HKK : Hid (putPos os ⟨x1, x2, x3, x4⟩ n = putPos os ⟨x1, x2, x3, x4⟩ k) := Lib.hid (HK.out.trans HS)
        go_upto_region 2 with fail
        refine wp_region_cls F (by kernel_rfl) (by kernel_rfl) HFK.out.drew ?_
        repeat (go_big_quiet_step ((first | (go_at_call 87; exact HFK.out.retE (HBf.out _)))))
        refine wpQuiet_nil ?_
        rintro _ ⟨z, rfl⟩
        have HZ := Lib.hid (er.out.trans (HFK.out.ext z))
        go_wp2
        go_roundw
        case rel => first | exact ⟨k, by omega, by go_num, HKK, HZ⟩ | ((repeat apply Exists.intro); exact ⟨⟨k, by omega, by go_num, HKK, HZ⟩, rfl⟩)
        case measure => (simp [intOf] <;> omega)
      | false =>
        have HPP : Hid (putPos os ⟨x1, x2, x3, x4⟩ n = k + 1) := Lib.hid (HK.out.trans HS)
        go_upto_region 2 with fail
        refine wp_region_cls F (by kernel_rfl) (by kernel_rfl) HFK.out.drew ?_
        repeat (go_big_quiet_step ((first | (go_at_call 87; exact HFK.out.retE (HBf.out _)))))
        refine wpQuiet_nil ?_
        rintro _ ⟨z, rfl⟩
        have HZ := Lib.hid (er.out.trans (HFK.out.ext z))
        clear s0 s1 s2 s3 t0 t1 t2 t3
        obtain ⟨W, hW⟩ : ∃ W, F z = W := ⟨_, rfl⟩
        rw [hW] at HZ
        rw [hW]
        have HFL := Lib.hid HX.out.flat
        have HXK := Lib.hid HX.out.2.2.2
        have HZS := Lib.hid HZ.out.size
        have HTL : Hid ((os.take (k + 1)).length = (k + 1)) := Lib.hid (by rw [List.length_take]; omega)
        have HDL : Hid ((os.drop (k + 1)).length = n - (k + 1)) := Lib.hid (by rw [List.length_drop, hl])
        have HOE := Lib.hid (OwnOpens.empty (Ext.refl W))
        have HF1 := Lib.hid ((HFL.out.ext (HZ.out.alloc (.cells #[] 34))).take (k + 1))
        have HO2 : Hid (putO os ⟨x1, x2, x3, x4⟩ = os.take (k + 1) ++ ⟨x1, x2, x3, x4⟩ :: os.drop (k + 1)) := Lib.hid (by rw [HO.out, HPP.out])
        have HLE := Lib.hid ((Ext.refl W).alloc (.cells #[] 34)).size
        clear hW
        go_wp2_with (at_builtin; refine wpList_append_opens (base := W.heap.size) rfl _ _ rfl _ [] rfl HOE.out HLE.out _ (k + 1) c (os.take (k + 1)) rfl HTL.out HF1.out (fun o ho => HXK.out o (List.mem_of_mem_take ho)) (by simp <;> omega) ?_)
        intro v4 w4 ho4 hg4
        have HO4 := Lib.hid ho4
        have HE4 := Lib.hid ((HZ.out.alloc (.cells #[] 34)).grown hg4 (fun j hj => Nat.le_trans HZ.out.size (World.ownsRow.lt HOE.out.1 j hj).1))
        have HL4 := Lib.hid (Nat.le_trans HLE.out hg4.size)
        clear ho4 hg4
        have HF4 := HF.out.ext HE4.out
        simp only [Four, Nat.zero_add] at HF4
        obtain ⟨r0, r1, r2, r3⟩ := HF4
        have HFN := Lib.hid (FlatAt.fresh w4 ⟨x1, x2, x3, x4⟩ 34)
        go_wp2_with (at_builtin; refine wpList_append_opens (base := W.heap.size) rfl _ _ rfl v4 _ rfl (HO4.out.ext ((Ext.refl _).alloc _)) (Nat.le_trans HL4.out ((Ext.refl _).alloc _).size) _ 1 1 [⟨x1, x2, x3, x4⟩] rfl rfl HFN.out (by intro o ho; rw [List.mem_singleton] at ho; subst ho; exact HXO.out) (by simp <;> omega) ?_)
        intro v5 w5 ho5 hg5
        have HO5 := Lib.hid ho5
        have HE5 := Lib.hid ((HE4.out.alloc (.cells #[.int .i64 x1, .int .i64 x2, .int .i64 x3, .int .i64 x4] 34)).grown hg5 (fun j hj => Nat.le_trans HZ.out.size (World.ownsRow.lt HO4.out.1 j hj).1))
        have HL5 := Lib.hid (Nat.le_trans (Nat.le_trans HL4.out ((Ext.refl w4).alloc (.cells #[.int .i64 x1, .int .i64 x2, .int .i64 x3, .int .i64 x4] 34)).size) hg5.size)
        have HF5 := Lib.hid (HFL.out.ext HE5.out)
        clear ho5 hg5 r0 r1 r2 r3
        have HFD := Lib.hid (HF5.out.drop (k + 1) (by omega))
        by_cases hck : c = (k + 1)
        · have hnk : n = (k + 1) := by omega
          have HDN : Hid (os.drop (k + 1) = []) := Lib.hid (List.drop_of_length_le (by omega))
          have HDL0 : Hid ((os.drop (k + 1)).length = 0) := Lib.hid (by rw [HDN.out]; rfl)
          go_wp2_with (at_builtin; refine wpList_append_opens (base := W.heap.size) rfl _ _ rfl v5 _ rfl HO5.out HL5.out _ _ _ (os.drop (k + 1)) rfl HDL0.out (HDN.out.symm ▸ FlatAt.nil _ _) (fun o ho => HXK.out o (List.mem_of_mem_drop ho)) (by simp <;> omega) ?_)
          intro v6 w6 ho6 hg6
          have HO6 := Lib.hid ho6
          have HE6 := Lib.hid (HE.out.trans (HE5.out.grown hg6 (fun j hj => Nat.le_trans HZ.out.size (World.ownsRow.lt HO5.out.1 j hj).1)))
          clear ho6 hg6
          go_wp2
          go_ret
          exact RetOpens.of_own (by rw [HO2.out]; have := HO6.out.mono (HE.out.trans HZ.out).size; simpa using this) HE6.out
        · go_wp2_with (at_builtin; refine wpList_append_opens (base := W.heap.size) rfl _ _ rfl v5 _ rfl HO5.out HL5.out _ _ _ (os.drop (k + 1)) rfl HDL.out HFD.out (fun o ho => HXK.out o (List.mem_of_mem_drop ho)) (by simp <;> omega) ?_)
          intro v6 w6 ho6 hg6
          have HO6 := Lib.hid ho6
          have HE6 := Lib.hid (HE.out.trans (HE5.out.grown hg6 (fun j hj => Nat.le_trans HZ.out.size (World.ownsRow.lt HO5.out.1 j hj).1)))
          clear ho6 hg6
          go_wp2
          go_ret
          exact RetOpens.of_own (by rw [HO2.out]; have := HO6.out.mono (HE.out.trans HZ.out).size; simpa using this) HE6.out
end Go.Proofs.Ytnhmcmohnpbcjaa
