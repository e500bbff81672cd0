/- Contracts: a bond that is drawn: the library's texts are read; letters are drawn. -/
import Derived.Test.YtehcmocknmfhcaaCheck
namespace Go.Proofs.Ytehcmocknmfhcaa
open Go.RowKit
set_option linter.unusedSimpArgs false
set_option linter.unusedVariables false
set_option linter.unnecessarySimpa false

theorem grown_above {w W : World} {row : Option Nat} (h : w.grownBy W row) {p : Addr} (hp : w.heap.size ≤ p.block) (v : Value) : w.grownBy (W.setCell p v) row := by
  obtain ⟨b, i, x⟩ := p
  refine ⟨h.os, h.tape, h.output, Nat.le_trans h.size (by simp [World.setCell]), fun i hi hne => (Below.heap_setCell _ _ _ _ (fun e => ?_)).trans (h.block i hi hne)⟩
  dsimp only at hp e
  omega
def RetRead (nm : ByteArray) (cs : List Crs) (w : World) (e : Ending) (w' : World) : Prop := ∃ ao cap, e = .returned (.tuple #[.agg #[.string nm, .slice ao cs.length cap], .bool true]) ∧ OwnCrss w' w.heap.size (.slice ao cs.length cap) cs ∧ Ext w w'
set_option maxHeartbeats 1600000 in
theorem s_ReadBond (s nm : ByteArray) (cs : List Crs) (h : TextOk s nm cs) (w : World) : Calls Try.prog 94 #[.string s] w (RetRead nm cs w) := by
  have HC := Lib.hid (fun W => s_l04Check s nm cs h W)
  have h1 : ¬ (400 : Int) < (s.size : Int) := by have := h.1; omega
  clear h
  have B0 := Lib.hid (blk_at w (.cells #[.string ByteArray.empty, .slice none 0 0] 30) w.heap.size rfl)
  go_enter Try.func94, Try.ntmps94
  go_wp2_with (go_at_call 113; refine (HC.out _).mono ?_; rintro e w1 ⟨ao, cap, ap, cap', rfl, o1, e1⟩; have E1 := Lib.hid (((Ext.refl w).alloc _).trans e1); have HO1 := Lib.hid (o1.mono (show w.heap.size + 1 ≤ (w.alloc (.cells #[.string ByteArray.empty, .slice none 0 0] 30)).heap.size by simp)); obtain ⟨r0, r1, r2, r3, r4⟩ := two_cells (e1.block B0.out); obtain ⟨n, hn⟩ : ∃ n, cs.length = n := ⟨_, rfl⟩; rw [hn] at HO1 ⊢; have HN := Lib.hid hn; clear o1 e1 hn)
  obtain ⟨c0, c1⟩ := res_two (.string nm) (.slice ao n cap) (.cells #[.string nm, .slice ao n cap] 30) r0 r1
  refine bodyPost_ret (v := .tuple #[.agg #[.string nm, .slice ao n cap], .bool true]) (by simp [results, Try.results94, go_sem, c0, c1]) rfl ?_
  refine ⟨ao, cap, by rw [HN.out], ?_, ?_⟩
  · rw [HN.out]
    exact (((HO1.out.setBelow (by dsimp only; omega) _).setBelow (by dsimp only; omega) _).ext ((Ext.refl _).alloc _)).mono (by omega)
  · exact ((E1.out.setCell (Nat.le_refl _) _).setCell (Nat.le_refl _) _).alloc _
/-- the texts of the library -/
def libT : List ByteArray := [⟨#[115, 116, 114, 101, 116, 99, 104, 101, 114, 32, 83, 32, 66, 43, 83]⟩, ⟨#[104, 101, 97, 100, 101, 114, 32, 72, 32, 67, 43, 72]⟩, ⟨#[101, 110, 103, 108, 105, 115, 104, 32, 83, 32, 72, 67, 43, 72]⟩, ⟨#[102, 108, 101, 109, 105, 115, 104, 32, 83, 72, 32, 72, 67, 43, 83, 72]⟩, ⟨#[103, 97, 114, 100, 101, 110, 32, 83, 32, 66, 43, 83, 32, 83, 32, 72, 67, 43, 72]⟩]
theorem s_l04Library (w : World) : Calls Try.prog 93 #[] w (fun e w' => e = .returned (.slice (some ⟨w.heap.size, 0, none⟩) 5 5) ∧ w' = w.alloc (.cells (libT.map Value.string).toArray 9)) := by
  go_enter Try.func93, Try.ntmps93
  go_wp2
  go_ret
  exact ⟨rfl, rfl⟩
theorem lib_ok (k : Nat) (h : k < 5) : ∃ nm cs, bondB (bts nm) cs = true ∧ TextOk (libT.getD k ByteArray.empty) nm cs := by
  have hk : k = 0 ∨ k = 1 ∨ k = 2 ∨ k = 3 ∨ k = 4 := by omega
  rcases hk with rfl | rfl | rfl | rfl | rfl
  · refine ⟨mkS [115, 116, 114, 101, 116, 99, 104, 101, 114], [⟨mkS [], mkS [83]⟩, ⟨mkS [66], mkS [83]⟩], by decide, by decide, by decide, by decide, by decide, by decide, [mkS [83], mkS [66, 43, 83]], rfl, rfl, fun k hk => ?_⟩
    match k, hk with
    | 0, _ => exact ⟨by decide, by decide, by decide, by decide, .inl ⟨rfl, rfl⟩⟩
    | 1, _ => exact ⟨by decide, by decide, by decide, by decide, .inr ⟨rfl, by decide, by decide, by decide⟩⟩
  · refine ⟨mkS [104, 101, 97, 100, 101, 114], [⟨mkS [], mkS [72]⟩, ⟨mkS [67], mkS [72]⟩], by decide, by decide, by decide, by decide, by decide, by decide, [mkS [72], mkS [67, 43, 72]], rfl, rfl, fun k hk => ?_⟩
    match k, hk with
    | 0, _ => exact ⟨by decide, by decide, by decide, by decide, .inl ⟨rfl, rfl⟩⟩
    | 1, _ => exact ⟨by decide, by decide, by decide, by decide, .inr ⟨rfl, by decide, by decide, by decide⟩⟩
  · refine ⟨mkS [101, 110, 103, 108, 105, 115, 104], [⟨mkS [], mkS [83]⟩, ⟨mkS [72, 67], mkS [72]⟩], by decide, by decide, by decide, by decide, by decide, by decide, [mkS [83], mkS [72, 67, 43, 72]], rfl, rfl, fun k hk => ?_⟩
    match k, hk with
    | 0, _ => exact ⟨by decide, by decide, by decide, by decide, .inl ⟨rfl, rfl⟩⟩
    | 1, _ => exact ⟨by decide, by decide, by decide, by decide, .inr ⟨rfl, by decide, by decide, by decide⟩⟩
  · refine ⟨mkS [102, 108, 101, 109, 105, 115, 104], [⟨mkS [], mkS [83, 72]⟩, ⟨mkS [72, 67], mkS [83, 72]⟩], by decide, by decide, by decide, by decide, by decide, by decide, [mkS [83, 72], mkS [72, 67, 43, 83, 72]], rfl, rfl, fun k hk => ?_⟩
    match k, hk with
    | 0, _ => exact ⟨by decide, by decide, by decide, by decide, .inl ⟨rfl, rfl⟩⟩
    | 1, _ => exact ⟨by decide, by decide, by decide, by decide, .inr ⟨rfl, by decide, by decide, by decide⟩⟩
  · refine ⟨mkS [103, 97, 114, 100, 101, 110], [⟨mkS [], mkS [83]⟩, ⟨mkS [66], mkS [83]⟩, ⟨mkS [], mkS [83]⟩, ⟨mkS [72, 67], mkS [72]⟩], by decide, by decide, by decide, by decide, by decide, by decide, [mkS [83], mkS [66, 43, 83], mkS [83], mkS [72, 67, 43, 72]], rfl, rfl, fun k hk => ?_⟩
    match k, hk with
    | 0, _ => exact ⟨by decide, by decide, by decide, by decide, .inl ⟨rfl, rfl⟩⟩
    | 1, _ => exact ⟨by decide, by decide, by decide, by decide, .inr ⟨rfl, by decide, by decide, by decide⟩⟩
    | 2, _ => exact ⟨by decide, by decide, by decide, by decide, .inl ⟨rfl, rfl⟩⟩
    | 3, _ => exact ⟨by decide, by decide, by decide, by decide, .inr ⟨rfl, by decide, by decide, by decide⟩⟩
/-- a text of drawn letters is handed back, and the source has gone on -/
def RetSome (g : Nat) (ao : Option Addr) (n c : Nat) (p : UInt8 → Bool) (m : Nat) (B : Nat) (w : World) (e : Ending) (w' : World) : Prop :=
  ∃ l st', e = .returned (.string (mkS l)) ∧ l.length = m ∧ l.all p = true ∧ st'.Ok B ∧ SrcAt w' g ao n c st' ∧ w.grownBy w' (some g)
theorem OwnB.text0 {w : World} {b cap : Nat} : (convert 40 9 (.slice (some ⟨b, 0, none⟩) 0 cap)).run Try.prog w = .ok (.string (mkS [])) w :=
  run_convert_bytes_back (P := Try.prog) w 40 9 5 ⟨b, 0, none⟩ cap [] Try.underlying40 Try.underlying5 Try.underlying9 (fun j hj => by simp at hj)
theorem OwnB.textA {w : World} {base : Nat} {v : Value} {l : List UInt8} (h : OwnB w base v l) (h0 : l = [] → ∃ b, v = .slice (some ⟨b, 0, none⟩) 0 0) : (convert 40 9 v).run Try.prog w = .ok (.string (mkS l)) w := by
  by_cases hl : l = []
  · obtain ⟨b, rfl⟩ := h0 hl
    subst hl
    exact OwnB.text0
  · exact h.text hl
theorem pickS_small {bs : List UInt8} {st : Src} {n : Int} {B : Nat} (h : st.Ok B) : (pickS bs st n).Ok (B + 2) := pickS_ok h
set_option maxRecDepth 100000 in
set_option maxHeartbeats 3000000 in
theorem s_l04Some (g : Nat) (ao : Option Addr) (n c : Nat) (bs : List UInt8) (st0 : Src) (ls : ByteArray) (p : UInt8 → Bool) (m : Nat) (w : World) (h : SrcAt w g ao n c st0) (W0 : World) (e0 : Ext W0 w) (hbW : U8s W0 ao n bs) (hg : W0.heap.size ≤ g) (B : Nat) (hB : B ≤ 2900000000000000000) (ha : st0.Ok B)
    (hs1 : 1 ≤ ls.size) (hs2 : ls.size ≤ 100) (hp : (bts ls).all p = true) (hm : m ≤ 100) :
    Calls Try.prog 96 #[.pointer (some ⟨g, 0, none⟩), .string ls, .int .i64 m] w (RetSome g ao n c p m (B + 200) w) := by
  have hgs : g < w.heap.size := h.cells.2.2.2.2.2
  have HGS := Lib.hid hgs
  have HH := Lib.hid h
  have HW0 := Lib.hid hbW
  have HG0 := Lib.hid hg
  have HE0 := Lib.hid e0
  have HA := Lib.hid ha
  have HBB := Lib.hid hB
  have HP := Lib.hid hp
  clear h hbW ha e0 hgs hg hB hp
  go_enter Try.func96, Try.ntmps96
  go_wp2
  go_loopw [7, 8] (fun v i wr => ∃ (st : Src) (l : List UInt8) (j : Nat), i = .int .i64 j ∧ j ≤ m ∧ l.length = j ∧ Hid (j = 0 → ∃ b, v = .slice (some ⟨b, 0, none⟩) 0 0) ∧ Hid (OwnB wr w.heap.size v l) ∧ Hid (l.all p = true) ∧ Hid (SrcAt wr g ao n c st) ∧ Hid (st.Ok (B + 2 * j)) ∧ Hid (w.grownBy wr (some g))) (fun _ i _ => m - (intOf i).toNat)
  case atStart => exact ⟨st0, [], 0, rfl, Nat.zero_le _, rfl, Lib.hid (fun _ => ⟨_, rfl⟩), Lib.hid (OwnB.empty (Ext.refl w)), Lib.hid rfl, Lib.hid (blk_grownS HH.out (World.grownBy_alloc w _ none) (by simp)), HA, Lib.hid (World.grownBy_alloc w _ _)⟩
  case round =>
    obtain ⟨st, l, j, rfl, hjm, hlj, H0, HO, HL, HS, HOK, HGR⟩ := hrel
    have HE := Lib.hid (HE0.out.grown HGR.out (fun k hk => by cases hk; exact HG0.out))
    by_cases hlt : j < m
    · have hP := s_pick g ao n c bs st ls.size wr HS.out (HW0.out.ext HE.out) W0 HE.out HW0.out HG0.out (HOK.out.mono (by have := HBB.out; omega)) (by omega)
      have hbd := pickV_bd bs st ls.size
      have HST := Lib.hid (pickS_ok (bs := bs) (n := ls.size) HOK.out)
      obtain ⟨v1, hv1⟩ : ∃ v, pickV bs st ls.size = v := ⟨_, rfl⟩
      obtain ⟨st2, hst2⟩ : ∃ s, pickS bs st ls.size = s := ⟨_, rfl⟩
      rw [hv1, hst2] at hP
      rw [hv1] at hbd
      rw [hst2] at HST
      obtain ⟨b1, b2⟩ := hbd
      have b3 := b2 (by omega)
      obtain ⟨q, rfl⟩ := Int.eq_ofNat_of_zero_le b1
      have hq : q < ls.size := by omega
      have HPQ : Hid (p ls[q] = true) := Lib.hid (by
        obtain ⟨hl, hb⟩ := byte_at ls q hq
        exact (congrArg p hb).symm.trans (List.all_eq_true.1 HP.out _ (List.getElem_mem hl)))
      have HPK := Lib.hid hP
      clear hP b2 hv1 hst2
      obtain ⟨z, hz⟩ : ∃ z, ls[q] = z := ⟨_, rfl⟩
      rw [hz] at HPQ
      have HZ := Lib.hid hz
      clear hz
      go_wp2_with fail
      refine HPK.out.mono ?_
      rintro e w1 ⟨rfl, s1, g1⟩
      have HS1 := Lib.hid s1
      have HG1 := Lib.hid (HGR.out.trans g1)
      have HOW1 := Lib.hid (HO.out.kept g1 (fun k hk => by cases hk; exact HGS.out))
      clear s1 g1
      go_wp2_with (at_builtin; refine wpList_append_u8h (base := w.heap.size) rfl _ _ rfl _ l z rfl (by rw [← HZ.out]) rfl HOW1.out HG1.out.size (by omega) ?_; intro v' w4 ho4 g4; have HO4 := Lib.hid ho4; have HS4 := Lib.hid (blk_grownS HS1.out g4 (fun e => by have h1 := (World.ownsRow.lt HOW1.out g e.symm).1; have h2 := HGS.out; omega)); have HG4 := Lib.hid (grown_then HG1.out g4 (fun k hk => (World.ownsRow.lt HOW1.out k hk).1)); clear ho4 g4)
      go_roundw
      case rel => exact ⟨st2, l ++ [z], j + 1, by go_num, by omega, by rw [List.length_append, hlj]; rfl, Lib.hid (fun h => by omega), HO4, Lib.hid (by rw [List.all_append, HL.out, List.all_cons, HPQ.out]; rfl), HS4, HST, HG4⟩
      case measure => simp [intOf]; omega
    · obtain rfl : j = m := by omega
      have hT := HO.out.textA (fun h => H0.out (by rw [← hlj, h]; rfl))
      go_wp2
      go_ret
      exact ⟨l, st, rfl, hlj, HL.out, HOK.out.mono (by omega), HS.out, HGR.out⟩
end Go.Proofs.Ytehcmocknmfhcaa
