/- Contracts of the decimal form of a number, on both sides. -/
import Derived.Test.YtdedamamjkpcpaaGreatDoorGaStrs
import Derived.Test.YtdedamamjkpcpaaGreatDoorGaDm
namespace Go.Proofs.YtdedamamjkpcpaaGreatDoor
open Go.RowKit
set_option linter.unusedSimpArgs false
set_option linter.unusedVariables false
set_option linter.unnecessarySimpa false

/-- the decimal form of a number -/
def decS (n : Int) : ByteArray := mkS (Lib.itoa n)
/-- a row of bytes of the call's own that is not nil -/
def OwnN (w : World) (base : Nat) (v : Value) (l : List UInt8) : Prop := OwnB w base v l ∧ ∃ g cap, v = .slice (some ⟨g, 0, none⟩) l.length cap
theorem OwnN.ext {w w' : World} {base : Nat} {v : Value} {l : List UInt8} (h : OwnN w base v l) (e : Ext w w') : OwnN w' base v l := ⟨h.1.ext e, h.2⟩
theorem OwnN.empty {W w : World} (e : Ext W w) : OwnN (w.alloc (.cells #[] 5)) W.heap.size (.slice (some ⟨w.heap.size, 0, none⟩) 0 0) [] := ⟨OwnB.empty e, _, _, rfl⟩
theorem OwnN.of {w : World} {base : Nat} {v : Value} {l : List UInt8} (h : OwnB w base v l) (hl : l ≠ []) : OwnN w base v l := by
  refine ⟨h, ?_⟩
  rcases h.2 with ⟨_, h0⟩ | ⟨g, cap, cur, rfl, _⟩
  · exact absurd (List.eq_nil_of_length_eq_zero h0) hl
  · exact ⟨g, cap, rfl⟩
theorem OwnN.text {w : World} {base : Nat} {v : Value} {l : List UInt8} (h : OwnN w base v l) (hl : l ≠ []) : (convert 22 9 v).run Tryz.prog w = .ok (.string (mkS l)) w := h.1.text hl
/-- a row is set behind one byte in a new block -/
theorem wpList_app_front {W w0 w : World} {ops : Array Oper} {rest : List Oper} {o : Oper} {a : Act} {Q : Exit → Act → World → Prop} (hgd : o.guard = none) (s x : Operand)
    (ho : o.op = .call { callee := .builtin .append, args := #[s, x], argTypes := #[22, 22] })
    (b : UInt8) (v : Value) (l : List UInt8) (hs : a.eval s = .slice (some ⟨w0.heap.size, 0, none⟩) 1 1) (hw : w = w0.alloc (.cells #[.int .u8 (b.toNat : Int)] 5)) (hx : a.eval x = v)
    (hown : OwnN w0 W.heap.size v l) (e : Ext W w0) (hlen : l.length ≤ 10000000)
    (h : ∀ v' w', OwnN w' W.heap.size v' (b :: l) → Ext W w' → wpList Tryz.prog ops Q rest (a.put o.dst v') w') : wpList Tryz.prog ops Q (o :: rest) a w := by
  obtain ⟨i0, hi, hz0, hz1, hz2⟩ := info_parts info_u8
  obtain ⟨h1, g, cap, rfl⟩ := hown
  have hrow : w0.ownsRow W.heap.size 5 1 (.slice (some ⟨g, 0, none⟩) l.length cap) l.length (l.map u8V) := h1
  have hm : w.ownsRow W.heap.size 5 1 (.slice (some ⟨w0.heap.size, 0, none⟩) 1 1) 1 [u8V b] := by
    subst hw
    exact ⟨rfl, .inr ⟨w0.heap.size, 1, #[u8V b], rfl, e.size, heap_alloc_new w0 _, Nat.le_refl _, by unfold maxLen; omega, rfl, rfl⟩⟩
  refine wpList_append_own _ hgd s x 22 ho W.heap.size 5 i0 (.int .u8 0) 1 1 Tryz.underlying22 hi hz0 hz1 hz2 rfl (by decide) _ 1 [u8V b] hs hm
    ⟨g, 0, none⟩ l.length cap (l.map u8V) hx (by simp) (fun j u hu => ?_) (by intro u hu; obtain ⟨z, _, rfl⟩ := List.mem_map.1 hu; rfl) (by unfold maxLen; omega) (by omega) (by subst hw; have := e.size; simp; omega) ?_
  · subst hw
    have hj : j < l.length := by
      have := (List.getElem?_eq_some_iff.1 hu).1
      simpa using this
    have hc : w0.cell? ⟨g, j, none⟩ = some u := by rw [hrow.cellAt j (by omega)]; exact hu
    rw [Addr.add_lit, Nat.zero_add]
    exact ((Ext.refl w0).alloc _).cell hc
  · intro v' w' ho' hg _
    subst hw
    refine h v' w' (OwnN.of (by unfold OwnB; rw [List.length_cons, List.map_cons]; rw [Nat.add_comm] at ho'; exact ho') (by simp)) ((e.alloc _).grown hg (fun k hk => (World.ownsRow.lt hm k hk).1))
theorem mkS_minus (l : List UInt8) : (⟨#[45]⟩ : ByteArray) ++ mkS l = mkS (45 :: l) := by unfold mkS; rw [ByteArray.mk_append_mk]; simp
set_option maxRecDepth 4000 in
set_option maxHeartbeats 1600000 in
theorem s_l01Dec (n : Int) (hn : IsI64 n) (w : World) : Calls Tryz.prog 71 #[.int .i64 n] w (RetE (.string (decS n)) w) := by
  have hn' : -9223372036854775808 ≤ n ∧ n ≤ 9223372036854775807 := hn
  have HD : Hid ((Lib.itoa n = if n = 0 then [48] else if n < 0 then 45 :: decP n.natAbs else decP n.natAbs) ∧ (n ≠ 0 → decP n.natAbs ≠ []) ∧ (decP n.natAbs).length ≤ 20) := Lib.hid (by
    refine ⟨?_, fun h => decP_ne (by omega), decP_len (by omega)⟩
    rcases Int.lt_or_le n 0 with h | h
    · obtain ⟨u, rfl⟩ : ∃ u : Nat, n = -(u : Int) := ⟨n.natAbs, by omega⟩
      rw [if_neg (by omega), if_pos h, itoa_negP (by omega), Int.natAbs_neg, Int.natAbs_natCast]
    · obtain ⟨u, rfl⟩ := Int.eq_ofNat_of_zero_le h
      rw [itoa_natP, Int.natAbs_natCast, if_neg (show ¬ (u : Int) < 0 by omega)]
      by_cases h0 : u = 0
      · rw [if_pos h0, if_pos (by omega)]
      · rw [if_neg h0, if_neg (by omega)])
  clear hn
  go_enter Tryz.func71, Tryz.ntmps71
  go_wp2
  go_loopw [3, 4] (fun v q wr => ∃ (k : Int) (l : List UInt8) (g cap : Nat), q = .int .i64 k ∧ v = .slice (some ⟨g, 0, none⟩) l.length cap ∧ k.natAbs ≤ n.natAbs ∧ (0 ≤ n → 0 ≤ k) ∧ (n < 0 → k ≤ 0) ∧ Hid (decP n.natAbs = decP k.natAbs ++ l) ∧ Hid (OwnN wr w.heap.size v l) ∧ Hid (Ext w wr)) (fun _ q _ => (intOf q).natAbs)
  case atStart => exact ⟨n, [], _, _, rfl, rfl, Nat.le_refl _, id, fun h => by omega, Lib.hid (by simp), Lib.hid (OwnN.empty (Ext.refl w)), Lib.hid ((Ext.refl w).alloc _)⟩
  case round =>
    obtain ⟨k, l, g, cap, rfl, rfl, hkn, hp, hm, HP, HO, HE⟩ := hrel
    have HL : Hid (l.length ≤ 10000000) := Lib.hid (by have := congrArg List.length HP.out; have := HD.out.2.2; simp at *; omega)
    by_cases hk : k = 0
    · subst hk
      have HPL : Hid (decP n.natAbs = l) := Lib.hid (by rw [HP.out]; rfl)
      clear HP
      by_cases hn0 : n = 0
      · have hl : l = [] := by rw [← HPL.out, hn0]; rfl
        subst hl
        have HR : Hid (decS n = mkS [48]) := Lib.hid (by unfold decS; rw [HD.out.1, if_pos hn0])
        clear hn0
        go_wp2
        go_ret
        exact RetE.mk (by rw [HR.out]; rfl) HE.out
      · have hl : l ≠ [] := by rw [← HPL.out]; exact HD.out.2.1 hn0
        have hl0 : ¬ (l.length : Int) = 0 := by have := List.length_pos_iff.2 hl; omega
        have htx := HO.out.text hl
        obtain ⟨ll, hll⟩ : ∃ x, l.length = x := ⟨_, rfl⟩
        rw [hll] at htx hl0
        rw [hll]
        have hl1 : ¬ ll = 0 := by omega
        clear hn' hkn hp hm hll
        by_cases hneg : n < 0
        · have HR : Hid (decS n = (⟨#[45]⟩ : ByteArray) ++ mkS l) := Lib.hid (by unfold decS; rw [HD.out.1, if_neg hn0, if_pos hneg, HPL.out, mkS_minus])
          have hz20 : (mkS l).size ≤ 20 := by rw [mkS_size, ← HPL.out]; exact HD.out.2.2
          obtain ⟨z, hz⟩ : ∃ z, mkS l = z := ⟨_, rfl⟩
          rw [hz] at htx HR hz20
          have hsz : ¬ (9223372036854775807 < 1 + z.size) := by omega
          clear hl hz
          go_wp2
          go_ret
          refine RetE.mk ?_ HE.out
          rw [HR.out]
          rfl
        · have HR : Hid (decS n = mkS l) := Lib.hid (by unfold decS; rw [HD.out.1, if_neg hn0, if_neg hneg, HPL.out])
          clear hl
          go_wp2
          go_ret
          refine RetE.mk ?_ HE.out
          rw [HR.out]
          rfl
    · obtain ⟨m, hm1, hkm⟩ : ∃ m : Nat, 0 < m ∧ k.natAbs = m := ⟨k.natAbs, by omega, rfl⟩
      obtain ⟨h, hh⟩ : ∃ h : Nat, m / 10 = h := ⟨_, rfl⟩
      obtain ⟨b, hb⟩ : ∃ b : UInt8, UInt8.ofNat (48 + m % 10) = b := ⟨_, rfl⟩
      have hbn : b.toNat = 48 + m % 10 := by rw [← hb, UInt8.toNat_ofNat']; omega
      have HB : Hid ((48 + (m : Int) % 10) = (b.toNat : Int)) := Lib.hid (by omega)
      have HNX : Hid (decP n.natAbs = decP h ++ b :: l) := Lib.hid (by rw [HP.out, hkm, decP_step hm1, hh, hb, List.append_assoc]; rfl)
      have hh1 : h < m := by omega
      clear hb hbn HP
      rcases Int.lt_or_lt_of_ne hk with hk2 | hk2
      · obtain rfl : k = -(m : Int) := by omega
        have et : Int.tmod (-(m : Int)) 10 = -((m : Int) % 10) := by rw [Int.neg_tmod, Int.tmod_eq_emod_of_nonneg (by omega)]
        have eq : Int.tdiv (-(m : Int)) 10 = -(h : Int) := by rw [Int.neg_tdiv, Int.tdiv_eq_ediv_of_nonneg (by omega)]; omega
        have hmm : (m : Int) % 10 < 10 := by omega
        clear hh hkm
        by_cases hz : (m : Int) % 10 = 0
        · rw [hz] at et HB
          have HB2 : Hid ((48 : Int) = (b.toNat : Int)) := Lib.hid (by have := HB.out; omega)
          clear hz hmm HB
          go_wp2_with (at_builtin; refine wpList_app_front (W := w) rfl _ _ rfl b _ l (by rfl) (by rw [← HB2.out]) rfl HO.out HE.out HL.out ?_; intro v' w3 ho3 e3; have HO3 := Lib.hid ho3; have HE3 := Lib.hid e3; clear ho3 e3)
          go_roundw
          case rel =>
            obtain ⟨_, g3, c3, rfl⟩ := HO3.out
            exact ⟨-(h : Int), b :: l, g3, c3, rfl, rfl, by omega, fun _ => by omega, fun h' => by omega, by rw [Int.natAbs_neg, Int.natAbs_natCast]; exact HNX, HO3, HE3⟩
          case measure => simp [intOf]; omega
        · have hneg : -((m : Int) % 10) < 0 := by omega
          have hnn : - -((m : Int) % 10) = (m : Int) % 10 := by omega
          go_wp2_with (at_builtin; refine wpList_app_front (W := w) rfl _ _ rfl b _ l (by rfl) (by rw [← HB.out]) rfl HO.out HE.out HL.out ?_; intro v' w3 ho3 e3; have HO3 := Lib.hid ho3; have HE3 := Lib.hid e3; clear ho3 e3)
          go_roundw
          case rel =>
            obtain ⟨_, g3, c3, rfl⟩ := HO3.out
            exact ⟨-(h : Int), b :: l, g3, c3, rfl, rfl, by omega, fun _ => by omega, fun h' => by omega, by rw [Int.natAbs_neg, Int.natAbs_natCast]; exact HNX, HO3, HE3⟩
          case measure => simp [intOf]; omega
      · obtain rfl : k = (m : Int) := by omega
        have eq : Int.tdiv (m : Int) 10 = (h : Int) := by rw [Int.tdiv_eq_ediv_of_nonneg (by omega)]; omega
        clear hh hkm
        go_wp2_with (at_builtin; refine wpList_app_front (W := w) rfl _ _ rfl b _ l (by rfl) (by rw [← HB.out]) rfl HO.out HE.out HL.out ?_; intro v' w3 ho3 e3; have HO3 := Lib.hid ho3; have HE3 := Lib.hid e3; clear ho3 e3)
        go_roundw
        case rel =>
          obtain ⟨_, g3, c3, rfl⟩ := HO3.out
          exact ⟨h, b :: l, g3, c3, rfl, rfl, by omega, fun _ => by omega, fun h' => by omega, by rw [Int.natAbs_natCast]; exact HNX, HO3, HE3⟩
        case measure => simp [intOf]; omega
end Go.Proofs.YtdedamamjkpcpaaGreatDoor
