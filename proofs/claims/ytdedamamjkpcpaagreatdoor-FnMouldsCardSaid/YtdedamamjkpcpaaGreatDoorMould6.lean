/- Contract: numbers as a text with a separator, the program's. -/
import Derived.Test.YtdedamamjkpcpaaGreatDoorDec2
import Derived.Test.YtdedamamjkpcpaaGreatDoorGaStrs
import Derived.Test.YtdedamamjkpcpaaGreatDoorGaDm
import Derived.Lib.Join
namespace Go.Proofs.YtdedamamjkpcpaaGreatDoor
open Go.RowKit
set_option linter.unusedSimpArgs false
set_option linter.unusedVariables false
set_option linter.unnecessarySimpa false

/-- the words that the call made, joined -/
theorem OwnStrs.joinM {w : World} {base n cap : Nat} {ao : Option Addr} {xs : List ByteArray} (h : OwnStrs w base (.slice ao n cap) xs) (hne : xs ≠ []) (sep : ByteArray) (hl : (Lib.join (xs.map bts) (bts sep)).length ≤ 140737488355328) (hxl : xs.length ≤ 140737488355328) :
    Calls Tryz.prog 65 #[.slice ao n cap, .string sep] w (RetE (.string (mkS (Lib.join (xs.map bts) (bts sep)))) w) := by
  have hn : n = xs.length := by
    obtain ⟨a, c, hv, _⟩ := h.shape
    simp only [Value.slice.injEq] at hv
    exact hv.2.1
  subst hn
  have hrow := h.1
  rcases h.1.2 with ⟨hv, h0⟩ | ⟨g, cap', cur, hv, hg, hh, hc, hm, hcur, htake⟩
  · exact absurd (List.eq_nil_of_length_eq_zero h0) hne
  · simp only [Value.slice.injEq] at hv
    obtain ⟨rfl, _, rfl⟩ := hv
    refine Calls.mono (Tryz.strings_Join g 0 cap xs sep w (fun j x hx => ?_) (lt_of_block hh) hxl hc hl) ?_
    · rw [Nat.zero_add, hrow.cellAt j (by have := (List.getElem?_eq_some_iff.1 hx).1; omega), List.getElem?_map, hx]; rfl
    · rintro e w' ⟨rfl, e1⟩
      exact ⟨rfl, e1⟩
theorem itoa_lenM {x : Int} (h : IsI64 x) : (Lib.itoa x).length ≤ 21 := by
  unfold IsI64 at h
  rcases Int.lt_or_le x 0 with h0 | h0
  · obtain ⟨u, rfl⟩ : ∃ u : Nat, x = -(u : Int) := ⟨x.natAbs, by omega⟩
    rw [itoa_negP (by omega), List.length_cons]
    have := decP_len (u := u) (by omega)
    omega
  · obtain ⟨u, rfl⟩ := Int.eq_ofNat_of_zero_le h0
    rw [itoa_natP]
    have := decP_len (u := u) (by omega)
    split <;> simp <;> omega
set_option maxHeartbeats 1600000 in
theorem i_numbersText (ao : Option Addr) (n c : Nat) (xs : List Int) (sep : ByteArray) (w : World) (hx : Ints w ao n xs) (h1 : 1 ≤ n) (h2 : n ≤ 10) (hs : sep.size ≤ 100) (hT : TabP w) :
    Calls Tryz.prog 47 #[.string sep, .slice ao n c] w (RetE (.string (mkS (Lib.join (xs.map Lib.itoa) (bts sep)))) w) := by
  have HX := Lib.hid hx
  have HTb := Lib.hid hT
  have HL := Lib.hid hx.1
  clear hx hT
  go_enter Tryz.func47, Tryz.ntmps47
  go_wp2
  go_loopw [5, 11] (fun v i wr => ∃ k : Nat, k ≤ n ∧ i = .int .i64 k ∧ Hid (OwnStrs wr w.heap.size v ((xs.take k).map decS)) ∧ Hid (Ext w wr)) (fun _ i _ => n - (intOf i).toNat)
  case atStart => exact ⟨0, Nat.zero_le _, rfl, Lib.hid (OwnStrs.empty (Ext.refl w)), Lib.hid ((Ext.refl w).alloc _)⟩
  case round =>
    obtain ⟨k, hk, rfl, HO, HE⟩ := hrel
    by_cases hlt : k < n
    · have hki : (k : Int) < (n : Int) := by omega
      obtain ⟨b, off, rfl, hc⟩ := HX.out.2.2.1 k hlt
      have hc := HE.out.cell hc
      obtain ⟨x, hxe⟩ : ∃ x, xs.getD k 0 = x := ⟨_, rfl⟩
      have hkx : k < xs.length := by rw [HL.out]; exact hlt
      have hxk : xs[k] = x := by rw [← hxe, List.getD_eq_getElem?_getD, List.getElem?_eq_getElem hkx]; rfl
      rw [hxe] at hc
      have HI : Hid (IsI64 x) := Lib.hid (by rw [← hxk]; exact HX.out.2.2.2 _ (List.getElem_mem _))
      have HV : Hid ((xs.take k).map decS ++ [decS x] = (xs.take (k + 1)).map decS) := Lib.hid (by rw [List.take_succ_eq_append_getElem hkx, hxk, List.map_append]; rfl)
      have HD := Lib.hid (i_Decimal x HI.out wr (HTb.out.ext HE.out))
      have HLn : Hid (((xs.take k).map decS).length ≤ 10000000) := Lib.hid (by rw [List.length_map, List.length_take]; omega)
      have HZ : Hid ((decS x).size ≤ 9223372036854775807) := Lib.hid (by
        unfold decS
        rw [mkS_size]
        have hi := HI.out
        unfold IsI64 at hi
        rcases Int.lt_or_le x 0 with h | h
        · obtain ⟨u, rfl⟩ : ∃ u : Nat, x = -(u : Int) := ⟨x.natAbs, by omega⟩
          rw [itoa_negP (by omega), List.length_cons]
          have := decP_len (u := u) (by omega)
          omega
        · obtain ⟨u, rfl⟩ := Int.eq_ofNat_of_zero_le h
          rw [itoa_natP]
          have := decP_len (u := u) (by omega)
          split <;> simp <;> omega)
      generalize decS x = zd at *
      clear hxe hkx hxk
      go_wp2_with fail
      refine HD.out.mono ?_
      rintro e w1 ⟨rfl, e1⟩
      have HO1 := Lib.hid (HO.out.ext e1)
      have HE1 := Lib.hid (HE.out.trans e1)
      clear e1
      go_wp2_with (at_builtin; refine wpList_append_str (W := w) rfl _ _ rfl _ ((xs.take k).map decS) zd rfl rfl rfl HO1.out HE1.out HZ.out HLn.out ?_; intro v' w3 ho3 e3; have HO3 := Lib.hid ho3; have HE3 := Lib.hid e3; clear ho3 e3)
      go_roundw
      case rel => exact ⟨k + 1, by omega, by go_num, Lib.hid (by rw [← HV.out]; exact HO3.out), HE3⟩
      case measure => simp [intOf]; omega
    · have hta : xs.take k = xs := List.take_of_length_le (by rw [HL.out]; omega)
      have hO := HO.out
      rw [hta] at hO
      have hmm : (xs.map decS).map bts = xs.map Lib.itoa := by
        rw [List.map_map]
        exact List.map_congr_left (fun x _ => bts_mkS _)
      have hne : xs.map decS ≠ [] := fun e => by
        have := congrArg List.length e
        rw [List.length_map, HL.out, List.length_nil] at this
        omega
      have hjl := join_len (bts sep) 21 (xs.map Lib.itoa) (fun z hz => by obtain ⟨x, hx, rfl⟩ := List.mem_map.1 hz; exact itoa_lenM (HX.out.2.2.2 x hx))
      rw [List.length_map, HL.out, bts_length] at hjl
      have hjb : n * (21 + sep.size) ≤ 10 * 121 := Nat.mul_le_mul h2 (by omega)
      obtain ⟨ao', cap, rfl, _, _⟩ := hO.shape
      have hJ := hO.joinM hne sep (by rw [hmm]; omega) (by rw [List.length_map, HL.out]; omega)
      rw [hmm] at hJ
      obtain ⟨nn, hnn⟩ : ∃ nn, (xs.map decS).length = nn := ⟨_, rfl⟩
      rw [hnn] at hJ
      rw [hnn]
      have HJ := Lib.hid hJ
      clear hJ hnn hne hmm hjl hjb hO hta
      go_wp2_with (go_at_call 65; refine HJ.out.mono ?_; rintro e w1 ⟨rfl, e1⟩)
      go_ret
      exact RetE.mk rfl (HE.out.trans e1)
end Go.Proofs.YtdedamamjkpcpaaGreatDoor
