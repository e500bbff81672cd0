/- Contract: three numbers that are read from a text, the program's. -/
import Derived.Test.YtdedamamjkpcpaaGreatDoorWords
import Derived.Test.YtdedamamjkpcpaaGreatDoorDoor
import Derived.Test.YtdedamamjkpcpaaGreatDoorLawInts
namespace Go.Proofs.YtdedamamjkpcpaaGreatDoor
open Go.RowKit
set_option linter.unusedSimpArgs false
set_option linter.unusedVariables false
set_option linter.unnecessarySimpa false

/-- three numbers stand in a text, parted by an x -/
def rn3 (l : List UInt8) : Bool := decide ((splL 120 l).length = 3) && (splL 120 l).all rdB
theorem rn3_len {l : List UInt8} (h : ¬ (splL 120 l).length = 3) : rn3 l = false := by unfold rn3; rw [decide_eq_false h]; rfl
theorem rn3_bad {l z : List UInt8} (h : z ∈ splL 120 l) (hz : rdB z = false) : rn3 l = false := by
  unfold rn3
  rw [show (splL 120 l).all rdB = false by rw [List.all_eq_false]; exact ⟨z, h, by simp [hz]⟩, Bool.and_false]
/-- the words of a text, at most four -/
def words4 (s : List UInt8) : List (List UInt8) := Lib.splitK [120] 0 (min 4 (s.length + 1) - 1) s
theorem words4_three {s : List UInt8} : (words4 s).length = 3 ↔ (splL 120 s).length = 3 := by
  have hl := splL_len 120 s
  rcases Nat.lt_or_ge 4 (splL 120 s).length with h | h
  · have e : (words4 s).length = 4 := by
      unfold words4
      rw [splitK_long 120 _ s (by omega)]
      omega
    omega
  · have e : words4 s = splL 120 s := splitK_spl 120 _ s (by omega)
    rw [e]
theorem words4_few {s : List UInt8} (h : (splL 120 s).length = 3) : words4 s = splL 120 s := by
  have hl := splL_len 120 s
  exact splitK_spl 120 _ s (by omega)
theorem words4_len (s : List UInt8) : (words4 s).length ≤ 4 := by
  have hl := splL_len 120 s
  rcases Nat.lt_or_ge 4 (splL 120 s).length with h | h
  · unfold words4
    rw [splitK_long 120 _ s (by omega)]
    omega
  · have e : words4 s = splL 120 s := splitK_spl 120 _ s (by omega)
    rw [e]; exact h
theorem f_SplitN4 (s : ByteArray) (hs : s.size ≤ 2000000) (w : World) (hM : ∃ m, w.cell? ⟨0, 0, none⟩ = some (.int .i64 m)) : Calls Tryz.prog 68 #[.string s, .string ⟨#[120]⟩, .int .i64 4] w (RetWs ((words4 (bts s)).map mkS) w) := by
  obtain ⟨m, hm⟩ := hM
  refine (Tryz.strings_SplitN s ⟨#[120]⟩ 4 m w (by omega) hm (Nat.le_refl 1) (by decide) (by decide)).mono ?_
  rintro e w' ⟨rfl, rfl⟩
  have hL : Lib.splitB ⟨#[120]⟩ 0 (min 4 (s.size + 1) - 1) s = (words4 (bts s)).map mkS := by
    refine of_bts ?_
    refine (Lib.splitB_data ⟨#[120]⟩ 0 _ s).trans ?_
    unfold words4
    rw [bts_length]; rfl
  have hn := words4_len (bts s)
  have hst := strs_new w ((words4 (bts s)).map mkS) (by rw [List.length_map]; omega) (fun x hx => by
    obtain ⟨y, hy, rfl⟩ := List.mem_map.1 hx
    have := splitK_mem 120 _ (bts s) y hy
    rw [bts_length] at this
    rw [mkS_size]; omega) (List.replicate (min 4 (s.size + 1) - ((words4 (bts s)).map mkS).length) (Value.string ByteArray.empty))
  rw [hL]
  exact ⟨w.heap.size, _, Nat.le_refl _, rfl, hst, (Ext.refl w).alloc _⟩
/-- three numbers, or none, are handed back -/
def RetRN (l : List UInt8) (w : World) (e : Ending) (w' : World) : Prop := (rn3 l = true → ∃ ao cap, e = .returned (.tuple #[.slice ao 3 cap, .bool true]) ∧ OwnInts 2 w' w.heap.size (.slice ao 3 cap) ((splL 120 l).map rdV)) ∧ (rn3 l = false → e = .returned (.tuple #[.slice none 0 0, .bool false])) ∧ Ext w w'
theorem RetRN.bad {l : List UInt8} {w w' : World} (h : rn3 l = false) (e : Ext w w') : RetRN l w (.returned (.tuple #[.slice none 0 0, .bool false])) w' := ⟨fun h2 => absurd (h.symm.trans h2) (by decide), fun _ => rfl, e⟩
set_option maxHeartbeats 1600000 in
theorem i_readNumbers (s : ByteArray) (hs : s.size ≤ 2000000) (w : World) (hT : TabP w) (hE : ErrP w) (hMx : MaxP w) : Calls Tryz.prog 51 #[.string s, .string ⟨#[120]⟩, .int .i64 3] w (RetRN (bts s) w) := by
  have hSP := f_SplitN4 s hs w hMx
  have h3 := words4_three (s := bts s)
  have hBadL := rn3_len (l := bts s)
  have hfew := words4_few (s := bts s)
  obtain ⟨WN, hWN⟩ : ∃ WN, words4 (bts s) = WN := ⟨_, rfl⟩
  rw [hWN] at hSP h3 hfew
  obtain ⟨n, hn⟩ : ∃ n, (WN.map mkS).length = n := ⟨_, rfl⟩
  have HL : Hid (WN.length = n) := Lib.hid (by rw [← hn, List.length_map])
  have HTb := Lib.hid hT
  have HEr := Lib.hid hE
  have HWN := Lib.hid (fun x (hx : x ∈ words4 (bts s)) => splitK_mem 120 _ (bts s) x hx)
  rw [hWN] at HWN
  by_cases hn3 : n = 3
  case neg =>
    have HB := Lib.hid (hBadL (fun h => hn3 (by rw [← HL.out]; exact h3.2 h)))
    have hni : ¬ (n : Int) = 3 := by omega
    have hnb : ((n : Int) == 3) = false := by simp; omega
    clear h3 hBadL hfew hWN hT hE hMx hn3
    go_enter Tryz.func51, Tryz.ntmps51
    go_wp2_with (go_at_call 68; refine hSP.mono ?_; rintro e w1 ⟨gb, cap, _, rfl, ho, e1⟩; rw [hn] at ho ⊢; have HE1 := Lib.hid e1; clear ho e1 hSP hn)
    go_ret2
    exact RetRN.bad HB.out HE1.out
  case pos =>
    subst hn3
    have hs3 := h3.1 HL.out
    have hWS := hfew hs3
    subst hWS
    have HRN : Hid ((splL 120 (bts s)).all rdB = true → rn3 (bts s) = true) := Lib.hid (fun h => by unfold rn3; rw [h, decide_eq_true hs3]; rfl)
    have HBW := Lib.hid (fun z h1 h2 => rn3_bad (l := bts s) (z := z) h1 h2)
    obtain ⟨XS, hXS⟩ : ∃ XS, splL 120 (bts s) = XS := ⟨_, rfl⟩
    have HXS := Lib.hid hXS
    rw [hXS] at hSP HRN HBW HL hn HWN
    clear h3 hBadL hfew hWN hT hE hMx hs3 hXS
    go_enter Tryz.func51, Tryz.ntmps51
    go_wp2_with (go_at_call 68; refine hSP.mono ?_; rintro e w1 ⟨gb, cap, _, rfl, ho, e1⟩; rw [hn] at ho ⊢; have HS := Lib.hid ho; have HE1 := Lib.hid e1; clear ho e1 hSP hn)
    go_loopw [9, 26] (fun v i wr => ∃ k : Nat, k ≤ 3 ∧ i = .int .i64 k ∧ Hid (OwnInts 2 wr w1.heap.size v ((XS.take k).map rdV)) ∧ Hid ((XS.take k).all rdB = true) ∧ Hid (Ext w1 wr)) (fun _ i _ => 3 - (intOf i).toNat)
    case atStart => exact ⟨0, Nat.zero_le _, rfl, Lib.hid (OwnInts.empty (Ext.refl w1)), Lib.hid rfl, Lib.hid ((Ext.refl w1).alloc _)⟩
    case round =>
      obtain ⟨k, hk, rfl, HO, HA, HX⟩ := hrel
      by_cases hlt : k < 3
      · have hki : (k : Int) < 3 := by omega
        have hkx : k < XS.length := by rw [HL.out]; exact hlt
        obtain ⟨b, off, hbo1, hc⟩ := HS.out.2.2.1 k hlt
        simp only [Option.some.injEq, Addr.mk.injEq, and_true] at hbo1
        obtain ⟨rfl, rfl⟩ := hbo1
        rw [Nat.zero_add] at hc
        have hc := HX.out.cell hc
        have hzx : bts ((XS.map mkS).getD k ByteArray.empty) = XS[k] := by
          rw [List.getD_eq_getElem?_getD, List.getElem?_map, List.getElem?_eq_getElem hkx]
          exact bts_mkS _
        obtain ⟨z, hz⟩ : ∃ z, (XS.map mkS).getD k ByteArray.empty = z := ⟨_, rfl⟩
        rw [hz] at hc hzx
        have hmem : XS[k] ∈ XS := List.getElem_mem _
        have hzl : z.size ≤ s.size := by
          have := HWN.out _ hmem
          rw [← hzx, bts_length, bts_length] at this
          exact this
        have HNum := Lib.hid (i_ReadDecimal z (by omega) wr (HTb.out.ext (HE1.out.trans HX.out)) (HEr.out.ext (HE1.out.trans HX.out)))
        have HBX := Lib.hid (fun h => HBW.out _ hmem h)
        have HT1 : Hid ((XS.take (k + 1)).map rdV = (XS.take k).map rdV ++ [rdV XS[k]] ∧ (XS.take (k + 1)).all rdB = ((XS.take k).all rdB && rdB XS[k])) := Lib.hid (by
          rw [List.take_succ_eq_append_getElem hkx, List.map_append, List.all_append]; simp)
        have HLX : Hid (((XS.take k).map rdV).length ≤ 1000000000) := Lib.hid (by rw [List.length_map, List.length_take]; omega)
        rw [← hzx] at HBX HT1
        clear hz hmem hzl hkx hzx
        go_wp2_with fail
        refine HNum.out.mono ?_
        rintro e w2 ⟨rfl, e2⟩
        have HO2 := Lib.hid (HO.out.ext e2)
        have HX2 := Lib.hid (HX.out.trans e2)
        clear e2 HNum HO HX
        cases hb : rdB (bts z) with
        | false =>
          have HB := Lib.hid (HBX.out hb)
          clear hb
          go_wp2
          go_ret2
          exact RetRN.bad HB.out (HE1.out.trans HX2.out)
        | true =>
          obtain ⟨y, hy⟩ : ∃ y, rdN (bts z) = y := ⟨_, rfl⟩
          have HY : Hid (rdV (bts z) = y) := Lib.hid (by rw [← hy, rdN_t hb])
          have HYI : Hid (IsI64 y) := Lib.hid (by
            have q1 := rdB_iff.1 hb
            have q2 := rdV_bd q1.2.1 q1.2.2.1
            rw [← HY.out]
            unfold IsI64; omega)
          have HA2 : Hid ((XS.take (k + 1)).all rdB = true) := Lib.hid (by rw [HT1.out.2, HA.out, hb]; rfl)
          rw [hy]
          clear hy hb
          go_wp2_with (at_builtin; refine wpList_append_int (W := w1) rfl _ _ rfl _ ((XS.take k).map rdV) y rfl rfl rfl HO2.out HX2.out HYI.out HLX.out ?_; intro v' w4 ho4 e4; have HO4 := Lib.hid ho4; have HE4 := Lib.hid e4; clear ho4 e4)
          go_roundw
          case rel => exact ⟨k + 1, by omega, by go_num, Lib.hid (by rw [HT1.out.1, HY.out]; exact HO4.out), HA2, HE4⟩
          case measure => simp [intOf]; omega
      · have hk3 : k = 3 := by omega
        subst hk3
        have hta : XS.take 3 = XS := List.take_of_length_le (by rw [HL.out]; exact Nat.le_refl _)
        rw [hta] at HO HA
        have HR := Lib.hid (HRN.out HA.out)
        have hll : (XS.map rdV).length = 3 := by rw [List.length_map, HL.out]
        obtain ⟨av, cv, rfl, _⟩ := HO.out.shape
        rw [hll] at HO ⊢
        clear hta hll
        go_wp2
        go_ret2
        exact ⟨fun _ => ⟨av, cv, rfl, by rw [HXS.out]; exact HO.out.mono HE1.out.size⟩, fun h => absurd (HR.out.symm.trans h) (by decide), HE1.out.trans HX.out⟩
end Go.Proofs.YtdedamamjkpcpaaGreatDoor
