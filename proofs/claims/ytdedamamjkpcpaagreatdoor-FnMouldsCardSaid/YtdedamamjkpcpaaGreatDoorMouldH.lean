/- Contracts: a mould is read from a text, on both sides. -/
import Derived.Test.YtdedamamjkpcpaaGreatDoorMouldE
import Derived.Test.YtdedamamjkpcpaaGreatDoorMould3
import Derived.Test.YtdedamamjkpcpaaGreatDoorGaSrc
import Derived.Test.YtdedamamjkpcpaaGreatDoorGaWord
import Derived.Test.YtdedamamjkpcpaaGreatDoorDec2
import Derived.Test.YtdedamamjkpcpaaGreatDoorDoor
namespace Go.Proofs.YtdedamamjkpcpaaGreatDoor
open Go.RowKit
set_option linter.unusedSimpArgs false
set_option linter.unusedVariables false
set_option linter.unnecessarySimpa false

/-- a mould that the text is the text of is handed back, or none -/
def RetRM (s : ByteArray) (w : World) (e : Ending) (w' : World) : Prop := ∃ a b c d ok, e = .returned (.tuple #[.agg #[.int .i64 a, .int .i64 b, .int .i64 c, .int .i64 d], .bool ok]) ∧ (ok = true → mouldB a b c d = true ∧ bts s = mtxt a b c d) ∧ (ok = false → (a = 0 ∧ b = 0 ∧ c = 0 ∧ d = 0) ∧ noRM (bts s)) ∧ Ext w w'
theorem RetRM.none {s : ByteArray} {w w' : World} (h : noRM (bts s)) (e : Ext w w') : RetRM s w (.returned (.tuple #[.agg #[.int .i64 0, .int .i64 0, .int .i64 0, .int .i64 0], .bool false])) w' :=
  ⟨0, 0, 0, 0, false, rfl, fun h => absurd h (by decide), fun _ => ⟨⟨rfl, rfl, rfl, rfl⟩, h⟩, e⟩
theorem RetRM.some {s : ByteArray} {w w' : World} {a b c d : Int} (h : mouldB a b c d = true) (ht : bts s = mtxt a b c d) (e : Ext w w') : RetRM s w (.returned (.tuple #[.agg #[.int .i64 a, .int .i64 b, .int .i64 c, .int .i64 d], .bool true])) w' :=
  ⟨a, b, c, d, true, rfl, fun _ => ⟨h, ht⟩, fun h => absurd h (by decide), e⟩
/-- what is read is told by the text alone -/
theorem rm_uniq {l : List UInt8} {a b c d a' b' c' d' : Int} {ok ok' : Bool} (h1 : ok = true → mouldB a b c d = true ∧ l = mtxt a b c d) (h2 : ok = false → (a = 0 ∧ b = 0 ∧ c = 0 ∧ d = 0) ∧ noRM l)
    (k1 : ok' = true → mouldB a' b' c' d' = true ∧ l = mtxt a' b' c' d') (k2 : ok' = false → (a' = 0 ∧ b' = 0 ∧ c' = 0 ∧ d' = 0) ∧ noRM l) : ok = ok' ∧ a = a' ∧ b = b' ∧ c = c' ∧ d = d' := by
  cases ok <;> cases ok'
  · obtain ⟨⟨rfl, rfl, rfl, rfl⟩, _⟩ := h2 rfl
    obtain ⟨⟨rfl, rfl, rfl, rfl⟩, _⟩ := k2 rfl
    exact ⟨rfl, rfl, rfl, rfl, rfl⟩
  · exact absurd (k1 rfl).2 ((h2 rfl).2 _ _ _ _ (k1 rfl).1)
  · exact absurd (h1 rfl).2 ((k2 rfl).2 _ _ _ _ (h1 rfl).1)
  · obtain ⟨m1, t1⟩ := h1 rfl
    obtain ⟨m2, t2⟩ := k1 rfl
    obtain ⟨rfl, rfl, rfl, rfl⟩ := mtxt_inj m1 m2 (t1.symm.trans t2)
    exact ⟨rfl, rfl, rfl, rfl, rfl⟩
theorem strs3 {w : World} {ao : Option Addr} {x y z : ByteArray} (h : Strs w ao 3 [x, y, z]) : ∃ b off, ao = some ⟨b, off, none⟩ ∧ w.cell? ⟨b, off, none⟩ = some (.string x) ∧ w.cell? ⟨b, off + 1, none⟩ = some (.string y) ∧ w.cell? ⟨b, off + 2, none⟩ = some (.string z) := by
  obtain ⟨g, off0, rfl, k0⟩ := h.2.2.1 0 (by decide)
  obtain ⟨g', off', he1, k1⟩ := h.2.2.1 1 (by decide)
  obtain ⟨g'', off'', he2, k2⟩ := h.2.2.1 2 (by decide)
  simp only [Option.some.injEq, Addr.mk.injEq, and_true] at he1 he2
  obtain ⟨rfl, rfl⟩ := he1
  obtain ⟨rfl, rfl⟩ := he2
  exact ⟨_, _, rfl, k0, k1, k2⟩
theorem ints3 {w : World} {ao : Option Addr} {x y z : Int} (h : Ints w ao 3 [x, y, z]) : ∃ b off, ao = some ⟨b, off, none⟩ ∧ w.cell? ⟨b, off, none⟩ = some (.int .i64 x) ∧ w.cell? ⟨b, off + 1, none⟩ = some (.int .i64 y) ∧ w.cell? ⟨b, off + 2, none⟩ = some (.int .i64 z) := by
  obtain ⟨g, off0, rfl, k0⟩ := h.2.2.1 0 (by decide)
  obtain ⟨g', off', he1, k1⟩ := h.2.2.1 1 (by decide)
  obtain ⟨g'', off'', he2, k2⟩ := h.2.2.1 2 (by decide)
  simp only [Option.some.injEq, Addr.mk.injEq, and_true] at he1 he2
  obtain ⟨rfl, rfl⟩ := he1
  obtain ⟨rfl, rfl⟩ := he2
  exact ⟨_, _, rfl, k0, k1, k2⟩
theorem three_of {α : Type} {l : List α} (h : l.length = 3) : ∃ x y z, l = [x, y, z] := by
  match l, h with
  | [x, y, z], _ => exact ⟨x, y, z, rfl⟩
theorem ext_put4h {w W : World} (h : Ext w W) {b : Nat} (hb : w.heap.size ≤ b) (v0 v1 v2 v3 : Value) : Ext w ((((W.setCell ⟨b, 0, none⟩ v0).setCell ⟨b, 1, none⟩ v1).setCell ⟨b, 2, none⟩ v2).setCell ⟨b, 3, none⟩ v3) :=
  (((h.setCell hb _).setCell hb _).setCell hb _).setCell hb _
theorem f_CutM (s : ByteArray) (hs : s.size ≤ 2000000) (w : World) (hM : MaxP w) : Calls Tryz.prog 50 #[.string s, .string ⟨#[32, 117, 115, 101, 100, 32]⟩] w (fun e w' => ∃ p q z, e = .returned (.tuple #[.string (mkS p), .string (mkS q), .bool z]) ∧ Lib.cut (bts s) usedS = (p, q, z) ∧ p.length ≤ 2000000 ∧ q.length ≤ 2000000 ∧ Ext w w') := by
  obtain ⟨m, hm⟩ := hM
  refine (Tryz.strings_Cut s ⟨#[32, 117, 115, 101, 100, 32]⟩ m w (by omega) hm).mono ?_
  rintro e w' ⟨rfl, n, rfl⟩
  refine ⟨_, _, _, rfl, rfl, ?_, ?_, (Ext.refl w).drewN _⟩
  · show (Lib.cut (bts s) usedS).1.length ≤ _
    unfold Lib.cut
    split
    · rw [List.length_take, bts_length]; omega
    · rw [bts_length]; exact hs
  · show (Lib.cut (bts s) usedS).2.1.length ≤ _
    unfold Lib.cut
    split
    · rw [List.length_drop, bts_length]; omega
    · exact Nat.zero_le _
set_option maxRecDepth 100000 in
set_option maxHeartbeats 4000000 in
theorem i_ReadMould (s : ByteArray) (hs : s.size ≤ 2000000) (w : World) (hT : TabP w) (hE : ErrP w) (hMx : MaxP w) : Calls Tryz.prog 19 #[.string s] w (RetRM s w) := by
  have HE0 : Hid (Ext w (w.alloc (.cells #[.int .i64 0, .int .i64 0, .int .i64 0, .int .i64 0] 29))) := Lib.hid ((Ext.refl w).alloc _)
  have HR0 := Lib.hid (heap_alloc_new w (.cells #[.int .i64 0, .int .i64 0, .int .i64 0, .int .i64 0] 29))
  have HTb := Lib.hid hT
  have HEr := Lib.hid hE
  have HMx := Lib.hid hMx
  have HC := Lib.hid (f_CutM s hs _ (hMx.ext HE0.out))
  clear hT hE hMx
  go_enter Tryz.func19, Tryz.ntmps19
  go_wp2_with (go_at_call 50; refine HC.out.mono ?_; rintro e w1 ⟨p, q, z, rfl, hc, hp, hq, e1⟩)
  have HE1 := Lib.hid (HE0.out.trans e1)
  have HR1 := Lib.hid (e1.block HR0.out)
  have HCut := Lib.hid hc
  have hN := i_readNumbers (mkS p) (by rw [mkS_size]; exact hp) w1 (HTb.out.ext HE1.out) (HEr.out.ext HE1.out) (HMx.out.ext HE1.out)
  rw [bts_mkS] at hN
  have hD := fun W (e : Ext w W) => i_ReadDecimal (mkS q) (by rw [mkS_size]; omega) W (HTb.out.ext e) (HEr.out.ext e)
  unfold RetNum at hD
  rw [bts_mkS] at hD
  have HD := Lib.hid hD
  have HN := Lib.hid hN
  clear hN hD hc e1 HE0 HR0 HC
  go_wp2_with fail
  refine HN.out.mono ?_
  rintro e w2 ⟨ht, hf, e2⟩
  have HE2 := Lib.hid (HE1.out.trans e2)
  have HR2 := Lib.hid (e2.block HR1.out)
  clear e2 HN HE1 HR1
  cases hr : rn3 p with
  | false =>
    obtain rfl := hf hr
    have HNo := Lib.hid (noRM_cut HCut.out (.inl hr))
    clear ht hf hr
    go_wp2_with fail
    refine (HD.out _ HE2.out).mono ?_
    rintro e w3 ⟨rfl, e3⟩
    obtain ⟨r0, r1, r2, r3, r4, r5, r6, r7, r8⟩ := four_mould (e3.block HR2.out)
    have HE3 := Lib.hid (HE2.out.trans e3)
    clear e3
    go_wp2
    refine bodyPost_ret (v := .tuple #[.agg #[.int .i64 0, .int .i64 0, .int .i64 0, .int .i64 0], .bool false]) (by simp [results, Tryz.results19, go_sem, r0, r1, r2, r3]) rfl ?_
    exact RetRM.none HNo.out (by repeat' (first | exact HE3.out | (dsimp only; omega) | refine Ext.setCell ?_ ?_ _))
  | true =>
    obtain ⟨ao, cap, rfl, ho⟩ := ht hr
    cases hb : rdB q with
    | false =>
      have HNo := Lib.hid (noRM_cut HCut.out (.inr hb))
      rw [hb] at HD
      clear ht hf hr hb ho
      go_wp2_with fail
      refine (HD.out _ HE2.out).mono ?_
      rintro e w3 ⟨rfl, e3⟩
      obtain ⟨r0, r1, r2, r3, r4, r5, r6, r7, r8⟩ := four_mould (e3.block HR2.out)
      have HE3 := Lib.hid (HE2.out.trans e3)
      clear e3
      go_wp2
      refine bodyPost_ret (v := .tuple #[.agg #[.int .i64 0, .int .i64 0, .int .i64 0, .int .i64 0], .bool false]) (by simp [results, Tryz.results19, go_sem, r0, r1, r2, r3]) rfl ?_
      exact RetRM.none HNo.out (by repeat' (first | exact HE3.out | (dsimp only; omega) | refine Ext.setCell ?_ ?_ _))
    | true =>
      obtain ⟨x, y, u, h3, hpx⟩ := rn3_three hr
      rw [h3] at ho
      have hk := rdN_t hb
      rw [hb, hk] at HD
      have HVal := Lib.hid (fun (a b c d : Int) hm hl => cut_val (a := a) (b := b) (c := c) (d := d) HCut.out h3 hm hl)
      have hne : bts s ≠ [] := fun e => by
        have hc := HCut.out
        rw [e, cut_nil] at hc
        simp only [Prod.mk.injEq] at hc
        rw [← hc.1, rn3_nil] at hr
        exact absurd hr (by decide)
      obtain ⟨k, hkk⟩ : ∃ k, rdV q = k := ⟨_, rfl⟩
      rw [hkk] at HD HVal
      have HI2 := Lib.hid ho.ints
      have HNE := Lib.hid hne
      clear ht hf hr hb ho h3 hpx hk hkk hne
      go_wp2_with fail
      refine (HD.out _ HE2.out).mono ?_
      rintro e w3 ⟨rfl, e3⟩
      obtain ⟨g, off, rfl, c0, c1, c2⟩ := ints3 (HI2.out.ext e3)
      have hgl : g < w3.heap.size := cell_lt c0
      have HE3 := Lib.hid (HE2.out.trans e3)
      have HR3 := Lib.hid (e3.block HR2.out)
      have HMT := Lib.hid (fun W (e : Ext w3 W) => i_MouldText x y u k W (HTb.out.ext (HE3.out.trans e)))
      have HNone : Hid (mtS x y u k ≠ s → noRM (bts s)) := Lib.hid (fun hn a b c d hm hl => by
        obtain ⟨rfl, rfl, rfl, rfl⟩ := HVal.out a b c d hm hl
        apply hn
        unfold mtS
        rw [if_pos hm, ← hl, mkS_bts])
      have HSome : Hid (mtS x y u k = s → mouldB x y u k = true ∧ bts s = mtxt x y u k) := Lib.hid (fun he => by
        cases hm : mouldB x y u k with
        | false =>
          exfalso
          unfold mtS at he
          rw [hm] at he
          exact HNE.out (by rw [← he]; rfl)
        | true =>
          unfold mtS at he
          rw [if_pos hm] at he
          exact ⟨rfl, by rw [← he, bts_mkS]⟩)
      generalize mtS x y u k = t at *
      clear e3 HE2 HR2 HI2 HD HVal HNE
      go_wp2
      go_region
      all_goals
        go_wp2_with fail
        refine (HMT.out _ (by first | exact (Ext.refl _).drew.alloc _ | exact ((Ext.refl _).alloc _).drew)).mono ?_
        rintro e w6 ⟨rfl, e6⟩
        have e36 : Ext w3 w6 := Ext.trans (by first | exact (Ext.refl _).drew.alloc _ | exact ((Ext.refl _).alloc _).drew) e6
        have hm6 : MBox w6 w3.heap.size x y u k := e6.block (by first | exact heap_alloc_new w3.drew _ | exact heap_alloc_new w3 _)
        obtain ⟨q0, q1, q2, q3, q4⟩ := four_cells hm6
        obtain ⟨r0, r1, r2, r3, r4, r5, r6, r7, r8⟩ := four_mould (e36.block HR3.out)
        have HE6 := Lib.hid (HE3.out.trans e36)
        clear e36 e6 hm6
        by_cases hts : t = s
        · subst hts
          have HS := Lib.hid (HSome.out rfl)
          go_wp2
          refine bodyPost_ret (v := .tuple #[.agg #[.int .i64 x, .int .i64 y, .int .i64 u, .int .i64 k], .bool true]) (by simp [results, Tryz.results19, go_sem, r0, r1, r2, r3]) rfl ?_
          exact RetRM.some HS.out.1 HS.out.2 (by repeat' (first | exact HE6.out | (dsimp only; omega) | refine Ext.setCell ?_ ?_ _))
        · have HNo := Lib.hid (HNone.out hts)
          have h4 : (t.toList == s.toList) = false := toList_ne hts
          go_wp2
          refine bodyPost_ret (v := .tuple #[.agg #[.int .i64 0, .int .i64 0, .int .i64 0, .int .i64 0], .bool false]) (by simp [results, Tryz.results19, go_sem, r0, r1, r2, r3]) rfl ?_
          exact RetRM.none HNo.out (by repeat' (first | exact HE6.out | (dsimp only; omega) | refine Ext.setCell ?_ ?_ _))
end Go.Proofs.YtdedamamjkpcpaaGreatDoor
