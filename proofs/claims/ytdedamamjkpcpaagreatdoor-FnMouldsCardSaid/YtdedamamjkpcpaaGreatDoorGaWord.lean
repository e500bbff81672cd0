/- A group of texts, one behind the other: Split, Word. -/
import Derived.Test.YtdedamamjkpcpaaGreatDoorGaBonde
import Derived.Test.YtdedamamjkpcpaaGreatDoorGaSrc
/- Contracts of the reference's words of a text: a text is parted at each place of a letter. -/
namespace Go.Proofs.YtdedamamjkpcpaaGreatDoor
open Go.RowKit
set_option linter.unusedSimpArgs false
set_option linter.unusedVariables false
set_option linter.unnecessarySimpa false

/-- the words between the places of a letter -/
def splL (by_ : UInt8) : List UInt8 → List (List UInt8)
  | [] => [[]]
  | c :: r => if c = by_ then [] :: splL by_ r else (match splL by_ r with | [] => [[c]] | h :: t => (c :: h) :: t)
theorem splL_ne (b : UInt8) (l : List UInt8) : splL b l ≠ [] := by
  cases l with
  | nil => simp [splL]
  | cons c r =>
    unfold splL
    split
    · simp
    · split <;> simp
theorem splL_none (b : UInt8) : ∀ l : List UInt8, (∀ x ∈ l, x ≠ b) → splL b l = [l]
  | [], _ => rfl
  | c :: r, h => by
    have ih := splL_none b r (fun x hx => h x (List.mem_cons_of_mem _ hx))
    unfold splL
    rw [if_neg (h c (by simp)), ih]
theorem splL_at (b : UInt8) : ∀ (l r : List UInt8), (∀ x ∈ l, x ≠ b) → splL b (l ++ b :: r) = l :: splL b r
  | [], r, _ => by rw [List.nil_append]; conv => lhs; unfold splL; rw [if_pos rfl]
  | c :: l, r, h => by
    have ih := splL_at b l r (fun x hx => h x (List.mem_cons_of_mem _ hx))
    rw [List.cons_append]
    conv => lhs; unfold splL
    rw [if_neg (h c (by simp)), ih]
theorem splL_mem (b : UInt8) : ∀ (l : List UInt8) (x), x ∈ splL b l → x.length ≤ l.length
  | [], x, h => by simp [splL] at h; simp [h]
  | c :: r, x, h => by
    unfold splL at h
    split at h
    · rcases List.mem_cons.1 h with rfl | h
      · simp
      · have := splL_mem b r x h; simp; omega
    · split at h
      · rename_i h2
        exact absurd h2 (splL_ne b r)
      · rename_i y t h2
        rcases List.mem_cons.1 h with rfl | h
        · have := splL_mem b r y (by rw [h2]; simp); simp; omega
        · have := splL_mem b r x (by rw [h2]; simp [h]); simp; omega
theorem bts_extract (s : ByteArray) (i j : Nat) : bts (s.extract i j) = ((bts s).take j).drop i := by
  unfold bts
  rw [ByteArray.data_extract, Array.toList_extract, List.extract_eq_take_drop, List.drop_take]
/-- what the loop knows: the words before the place from, and none of the letter from there to the place i -/
def SplI (b : UInt8) (s : ByteArray) (xs : List ByteArray) (f i : Nat) : Prop :=
  splL b (bts s) = xs.map bts ++ splL b ((bts s).drop f) ∧ (∀ x ∈ ((bts s).take i).drop f, x ≠ b) ∧ xs.length ≤ f ∧ ∀ z ∈ xs, z.size ≤ s.size
theorem SplI.start (b : UInt8) (s : ByteArray) : SplI b s [] 0 0 := ⟨by simp, by simp, by simp, by simp⟩
theorem SplI.pass {b : UInt8} {s : ByteArray} {xs : List ByteArray} {f i : Nat} (h : SplI b s xs f i) (hi : i < s.size) (hf : f ≤ i) (hne : s[i] ≠ b) : SplI b s xs f (i + 1) := by
  obtain ⟨h1, h2, h3, h4⟩ := h
  refine ⟨h1, fun x hx => ?_, h3, h4⟩
  rw [take_snoc s i hi, List.drop_append_of_le_length (by rw [List.length_take, bts_length]; omega)] at hx
  rcases List.mem_append.1 hx with hx | hx
  · exact h2 x hx
  · simp at hx; subst hx; exact hne
theorem SplI.cut {b : UInt8} {s : ByteArray} {xs : List ByteArray} {f i : Nat} (h : SplI b s xs f i) (hi : i < s.size) (hf : f ≤ i) (he : s[i] = b) : SplI b s (xs ++ [s.extract f i]) (i + 1) (i + 1) := by
  obtain ⟨h1, h2, h3, h4⟩ := h
  obtain ⟨hl, hb⟩ := byte_at s i hi
  refine ⟨?_, ?_, by simp; omega, ?_⟩
  · have : (bts s).drop f = ((bts s).take i).drop f ++ b :: (bts s).drop (i + 1) := by
      have hbb : (bts s)[i] = b := hb.trans he
      have e := List.drop_eq_getElem_cons hl
      rw [hbb] at e
      rw [← e]
      have := List.take_append_drop i (bts s)
      conv => lhs; rw [← this]
      rw [List.drop_append_of_le_length (by rw [List.length_take, bts_length]; omega)]
    rw [h1, this, splL_at b _ _ h2, List.map_append, List.append_assoc, ← bts_extract]
    rfl
  · rw [List.drop_eq_nil_of_le (by rw [List.length_take]; omega)]; simp
  · intro z hz
    rcases List.mem_append.1 hz with hz | hz
    · exact h4 z hz
    · simp at hz; subst hz; rw [ByteArray.size_extract]; omega
theorem SplI.last {b : UInt8} {s : ByteArray} {xs : List ByteArray} {f i : Nat} (h : SplI b s xs f i) (hi : s.size ≤ i) : (xs ++ [s.extract f s.size]).map bts = splL b (bts s) ∧ ∀ z ∈ xs ++ [s.extract f s.size], z.size ≤ s.size := by
  obtain ⟨h1, h2, h3, h4⟩ := h
  rw [take_all s i hi] at h2
  refine ⟨?_, ?_⟩
  · rw [h1, splL_none b _ h2, List.map_append]
    congr 1
    rw [List.map_singleton, bts_extract, take_all s _ (Nat.le_refl _)]
  · intro z hz
    rcases List.mem_append.1 hz with hz | hz
    · exact h4 z hz
    · simp at hz; subst hz; rw [ByteArray.size_extract]; omega
def splS (b : UInt8) (s : ByteArray) : List ByteArray := (splL b (bts s)).map mkS
theorem splS_of {b : UInt8} {s : ByteArray} {xs : List ByteArray} (h : xs.map bts = splL b (bts s)) : splS b s = xs := by
  unfold splS
  rw [← h, List.map_map]
  conv => rhs; rw [← List.map_id xs]
  exact List.map_congr_left (fun x _ => mkS_bts x)
set_option maxHeartbeats 1600000 in
theorem s_l01Split (s : ByteArray) (b : UInt8) (n : Int) (hn : n = (b.toNat : Int)) (hs : s.size ≤ 2000000) (w : World) : Calls Tryz.prog 56 #[.string s, .int .u8 n] w (RetStrs (splS b s) w) := by
  have HN := Lib.hid hn
  clear hn
  go_enter Tryz.func56, Tryz.ntmps56
  go_wp2
  go_loopw [5, 6, 7] (fun v q i wr => ∃ (xs : List ByteArray) (f k : Nat), q = .int .i64 f ∧ i = .int .i64 k ∧ f ≤ k ∧ k ≤ s.size ∧ Hid (SplI b s xs f k) ∧ Hid (OwnStrs wr w.heap.size v xs) ∧ Hid (Ext w wr)) (fun _ _ i _ => s.size - (intOf i).toNat)
  case atStart => exact ⟨[], 0, 0, rfl, rfl, Nat.le_refl _, Nat.zero_le _, Lib.hid (SplI.start b s), Lib.hid (OwnStrs.empty (Ext.refl w)), Lib.hid ((Ext.refl w).alloc _)⟩
  case round =>
    obtain ⟨xs, f, k, rfl, rfl, hfk, hks, HI, HO, HE⟩ := hrel
    have hxf := HI.out.2.2.1
    have HL : Hid (xs.length ≤ 10000000) := Lib.hid (by omega)
    clear hxf
    by_cases hlt : k < s.size
    · have HP := Lib.hid (fun h => HI.out.pass hlt hfk h)
      have HC := Lib.hid (fun h => HI.out.cut hlt hfk h)
      have hx : (s[k].toNat : Int) = n ↔ s[k] = b := by rw [HN.out]; constructor <;> intro h; exact UInt8.toNat_inj.1 (by omega); rw [h]
      by_cases he : (s[k].toNat : Int) = n
      · have HC2 := Lib.hid (HC.out (hx.1 he))
        clear hx
        have hz : (s.extract f k).size ≤ 9223372036854775807 := by rw [ByteArray.size_extract]; omega
        obtain ⟨z, hzz⟩ : ∃ z, s.extract f k = z := ⟨_, rfl⟩
        rw [hzz] at HC2 hz
        have HZZ := Lib.hid hzz
        have HZ := Lib.hid hz
        clear hzz hz
        go_wp2_with (at_builtin; refine wpList_append_str (W := w) rfl _ _ rfl _ xs z rfl (by rw [← HZZ.out]) rfl HO.out HE.out HZ.out HL.out ?_; intro v' w3 ho3 e3; have HO3 := Lib.hid ho3; have HE3 := Lib.hid e3; clear ho3 e3)
        go_roundw
        case rel => exact ⟨_, k + 1, k + 1, by go_num, by go_num, Nat.le_refl _, by omega, HC2, HO3, HE3⟩
        case measure => simp [intOf]; omega
      · have HC2 := Lib.hid (HP.out (fun h => he (hx.2 h)))
        clear hx
        go_wp2
        go_roundw
        case rel => exact ⟨xs, f, k + 1, rfl, by go_num, by omega, by omega, HC2, HO, HE⟩
        case measure => simp [intOf]; omega
    · have HA := Lib.hid (HI.out.last (by omega))
      have hz : (s.extract f s.size).size ≤ 9223372036854775807 := by rw [ByteArray.size_extract]; omega
      obtain ⟨z, hzz⟩ : ∃ z, s.extract f s.size = z := ⟨_, rfl⟩
      rw [hzz] at HA hz
      have HZZ := Lib.hid hzz
      have HZ := Lib.hid hz
      clear hzz hz
      go_wp2_with (at_builtin; refine wpList_append_str (W := w) rfl _ _ rfl _ xs z rfl (by rw [← HZZ.out]) rfl HO.out HE.out HZ.out HL.out ?_; intro v' w3 ho3 e3; have HO3 := Lib.hid ho3; have HE3 := Lib.hid e3; clear ho3 e3)
      go_ret
      rw [splS_of HA.out.1]
      obtain ⟨ao, cap, rfl, _, _⟩ := HO3.out.shape
      exact ⟨ao, cap, rfl, HO3.out, HE3.out⟩
end Go.Proofs.YtdedamamjkpcpaaGreatDoor

/- Contracts of the reference's reading of a word of a bond, where the word is a good one. -/
namespace Go.Proofs.YtdedamamjkpcpaaGreatDoor
open Go.RowKit
set_option linter.unusedSimpArgs false
set_option linter.unusedVariables false
set_option linter.unnecessarySimpa false

theorem toList_pos {s : ByteArray} (h : 1 ≤ s.size) : (s.toList == []) = false := by
  cases h2 : s.toList with
  | nil => rw [ByteArray.toList_eq] at h2; have := bts_length s; unfold bts at this; rw [h2] at this; simp at this; omega
  | cons a r => rfl
theorem res_two {w1 : World} {b : Nat} {x y : Value} (u v : Value) (O : Obj) (r0 : w1.cell? ⟨b, 0, none⟩ = some x) (r1 : w1.cell? ⟨b, 1, none⟩ = some y) :
    (((w1.setCell ⟨b, 0, none⟩ u).setCell ⟨b, 1, none⟩ v).alloc O).cell? ⟨b, 0, none⟩ = some u ∧ (((w1.setCell ⟨b, 0, none⟩ u).setCell ⟨b, 1, none⟩ v).alloc O).cell? ⟨b, 1, none⟩ = some v := by
  refine ⟨((Ext.refl _).alloc O).cell ?_, ((Ext.refl _).alloc O).cell ?_⟩
  · rw [World.cell?_setCell_other _ _ _ _ (ne_off (by decide))]
    exact World.cell?_setCell_same _ _ _ r0
  · exact World.cell?_setCell_same _ _ _ ((World.cell?_setCell_other _ _ _ _ (ne_off (by decide))).trans r1)
end Go.Proofs.YtdedamamjkpcpaaGreatDoor
