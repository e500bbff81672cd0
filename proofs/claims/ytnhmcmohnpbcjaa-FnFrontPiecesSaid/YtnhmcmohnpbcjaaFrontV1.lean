/- Contracts of the functions that say whether a front is valid. -/
import Derived.Test.YtnhmcmohnpbcjaaFrontV0
import Derived.Shelf.Abstract
import Derived.RegionTactic
import Derived.BigRegion
import Derived.Outline
namespace Go.Proofs.Ytnhmcmohnpbcjaa
open Go.RowKit
set_option linter.unusedSimpArgs false
set_option linter.unusedVariables false
set_option linter.unnecessarySimpa false

theorem or2_cmp (a b : Opn) : or2 (cmpI a.fr b.fr) (cmpI a.lo b.lo) = cmpO a b := rfl
abbrev FourO (w : World) (b o : Nat) (x : Opn) : Prop := Four w b o x.fr x.en x.lo x.hi
theorem four_new (w : World) (x1 x2 x3 x4 : Int) (T : TypeId) : Four (w.alloc (.cells #[.int .i64 x1, .int .i64 x2, .int .i64 x3, .int .i64 x4] T)) w.heap.size 0 x1 x2 x3 x4 := by
  refine ⟨?_, ?_, ?_, ?_⟩ <;> simp
theorem two_at (W : World) (x y : Value) (T : TypeId) (g : Nat) (h : g = W.heap.size) : (W.alloc (.cells #[x, y] T)).cell? ⟨g, 0, none⟩ = some x ∧ (W.alloc (.cells #[x, y] T)).cell? ⟨g, 1, none⟩ = some y :=
  let k := two_cells (blk_at W (.cells #[x, y] T) g h)
  ⟨k.1, k.2.1⟩
set_option maxHeartbeats 1600000 in
theorem i_compareOpenings (a b : Opn) (w : World) : Calls Try.prog 57 #[opnV a, opnV b] w (RetE (.int .i64 (cmpO a b)) w) := by
  have HV := Lib.hid (or2_cmp a b)
  obtain ⟨a1, a2, a3, a4⟩ := a
  obtain ⟨b1, b2, b3, b4⟩ := b
  have HE : Hid (Ext w ((w.alloc (.cells #[.int .i64 a1, .int .i64 a2, .int .i64 a3, .int .i64 a4] 34)).alloc (.cells #[.int .i64 b1, .int .i64 b2, .int .i64 b3, .int .i64 b4] 34))) := Lib.hid (((Ext.refl w).alloc _).alloc _)
  have A : Four ((w.alloc (.cells #[.int .i64 a1, .int .i64 a2, .int .i64 a3, .int .i64 a4] 34)).alloc (.cells #[.int .i64 b1, .int .i64 b2, .int .i64 b3, .int .i64 b4] 34)) w.heap.size 0 a1 a2 a3 a4 := (four_new w a1 a2 a3 a4 _).ext ((Ext.refl _).alloc _)
  have B : Four ((w.alloc (.cells #[.int .i64 a1, .int .i64 a2, .int .i64 a3, .int .i64 a4] 34)).alloc (.cells #[.int .i64 b1, .int .i64 b2, .int .i64 b3, .int .i64 b4] 34)) (w.heap.size + 1) 0 b1 b2 b3 b4 := by
    have := four_new (w.alloc (.cells #[.int .i64 a1, .int .i64 a2, .int .i64 a3, .int .i64 a4] 34)) b1 b2 b3 b4 34
    rwa [World.size_alloc] at this
  have HC := Lib.hid (fun x y W => f_Compare x y W)
  have HO := Lib.hid (fun x y g W h0 h1 => f_Or2 x y g W h0 h1)
  go_enter Try.func57, Try.ntmps57
  go_wp2
  go_region_held3 (fun W => Four W w.heap.size 0 a1 a2 a3 a4 ∧ Four W (w.heap.size + 1) 0 b1 b2 b3 b4 ∧ Ext ((w.alloc (.cells #[.int .i64 a1, .int .i64 a2, .int .i64 a3, .int .i64 a4] 34)).alloc (.cells #[.int .i64 b1, .int .i64 b2, .int .i64 b3, .int .i64 b4] 34)) W) (first | exact ⟨A.ext (Ext.refl _).drew, B.ext (Ext.refl _).drew, (Ext.refl _).drew⟩ | exact ⟨A.ext ((Ext.refl _).alloc _).drew, B.ext ((Ext.refl _).alloc _).drew, ((Ext.refl _).alloc _).drew⟩ | exact keepFF (by assumption) (by assumption)) (first | (go_at_call 91; refine (HC.out _ _ _).mono ?_; rintro e w' ⟨rfl, rfl⟩) | (go_at_call 90; refine (HO.out (cmpI a1 b1) (cmpI a3 b3) _ _ ?_ ?_).mono ?_; exact (two_at _ _ _ _ _ (by simp [World.drew])).1; exact (two_at _ _ _ _ _ (by simp [World.drew])).2; rintro e w' ⟨rfl, rfl⟩))
  have hfin := HE.out.trans (heldFF (by assumption))
  go_wp2
  go_ret
  exact RetE.mk (int_eq HV.out) hfin
theorem f_IndexFunc_opn (F : Nat) (caps : Array Value) (p : Opn → Bool) (ao : Option Addr) (n c : Nat) (xs : List Opn) (w : World) (hx : Opens w ao n xs)
    (eg : ∀ args w', (callFunc F args).run Try.prog w' = .ok (.enter F args) w')
    (hp : ∀ x w', x ∈ xs → Ext w w' → Calls Try.prog F (#[opnV x] ++ caps) w' (RetE (.bool (p x)) w')) :
    Calls Try.prog 89 #[.slice ao n c, .func (.func F) #[] caps] w (fun e w' => (∃ i : Int, e = .returned (.int .i64 i) ∧ (decide (0 ≤ i)) = xs.any p) ∧ Ext w w') := by
  obtain ⟨hxl, hxm, hxc, hxi⟩ := hx
  go_enter Try.func89, Try.ntmps89
  go_wp2
  go_loopw [8] (fun i wr => ∃ k : Nat, k ≤ n ∧ i = .int .i64 k ∧ (xs.take k).any p = false ∧ Ext w wr) (fun i _ => n - (intOf i).toNat)
  case atStart => exact ⟨0, Nat.zero_le _, rfl, by simp, Ext.refl _⟩
  case round =>
    obtain ⟨k, hk, rfl, htk, er⟩ := hrel
    have HT := Lib.hid htk; clear htk
    by_cases hlt : k < n
    · obtain ⟨b, off, rfl, c0, c1, c2, c3⟩ := hxc k hlt
      obtain ⟨x, hxk⟩ : ∃ x, xs.getD k default = x := ⟨_, rfl⟩
      rw [hxk] at c0 c1 c2 c3
      have hkx : k < xs.length := by omega
      rw [List.getD_eq_getElem?_getD, List.getElem?_eq_getElem hkx, Option.getD_some] at hxk
      have hxm2 : x ∈ xs := by rw [← hxk]; exact List.getElem_mem _
      have HX := Lib.hid hxk
      have HP := Lib.hid (fun w' e => hp x w' hxm2 e)
      have HA : Hid (p x = true → xs.any p = true) := Lib.hid (fun h => by rw [List.any_eq_true]; exact ⟨x, hxm2, h⟩)
      have HB : Hid (p x = false → (xs.take (k + 1)).any p = false) := Lib.hid (fun h => by
        rw [List.take_succ_eq_append_getElem hkx, List.any_append, HT.out, HX.out]
        simp [h])
      obtain ⟨v, hv⟩ : ∃ v, p x = v := ⟨_, rfl⟩
      rw [hv] at HA HB HP
      obtain ⟨x1, x2, x3, x4⟩ := x
      have K0 := er.cell c0
      have K1 := er.cell c1
      have K2 := er.cell c2
      have K3 := er.cell c3
      clear c0 c1 c2 c3 hxc hxk hp hxm2 HX hv
      cases v with
      | true =>
        go_wp2_with (refine (HP.out _ er).mono ?_; rintro e w1 ⟨rfl, e1⟩)
        go_ret
        refine ⟨⟨k, rfl, ?_⟩, er.trans e1⟩
        rw [show decide ((0 : Int) ≤ (k : Int)) = true from by simp, HA.out (by trivial)]
      | false =>
        go_wp2_with (refine (HP.out _ er).mono ?_; rintro e w1 ⟨rfl, e1⟩)
        go_roundw
        case rel => exact ⟨k + 1, by omega, by go_num, HB.out (by trivial), er.trans e1⟩
        case measure => simp [intOf]; omega
    · go_wp2
      go_ret
      refine ⟨⟨-1, rfl, ?_⟩, er⟩
      have h := HT.out
      rw [List.take_of_length_le (by omega)] at h
      rw [h]; rfl
theorem f_ContainsFunc_opn (F : Nat) (caps : Array Value) (p : Opn → Bool) (ao : Option Addr) (n c : Nat) (xs : List Opn) (w : World) (hx : Opens w ao n xs)
    (eg : ∀ args w', (callFunc F args).run Try.prog w' = .ok (.enter F args) w')
    (hp : ∀ x w', x ∈ xs → Ext w w' → Calls Try.prog F (#[opnV x] ++ caps) w' (RetE (.bool (p x)) w')) :
    Calls Try.prog 53 #[.slice ao n c, .func (.func F) #[] caps] w (RetE (.bool (xs.any p)) w) := by
  have HI := Lib.hid (f_IndexFunc_opn F caps p ao n c xs w hx eg hp)
  clear hp
  go_enter Try.func53, Try.ntmps53
  go_wp2_with (go_at_call 89; refine HI.out.mono ?_; rintro e w1 ⟨⟨i, rfl, hi⟩, e1⟩; have HJ := Lib.hid hi; clear hi)
  go_ret
  exact RetE.mk (bool_eq HJ.out) e1
theorem i_ValidFront_1 (x o : Opn) (b : Nat) (w : World) (hp : FourO w b 0 o) : Calls Try.prog 88 #[opnV x, .pointer (some ⟨b, 0, none⟩)] w (RetE (.bool (ovl o x)) w) := by
  have HE : Hid (Ext w (w.alloc (.cells #[.int .i64 x.fr, .int .i64 x.en, .int .i64 x.lo, .int .i64 x.hi] 34))) := Lib.hid ((Ext.refl w).alloc _)
  obtain ⟨u0, u1, u2, u3⟩ := hp.ext ((Ext.refl w).alloc (.cells #[.int .i64 x.fr, .int .i64 x.en, .int .i64 x.lo, .int .i64 x.hi] 34))
  have H := Lib.hid (fun W => i_overlap o x W)
  obtain ⟨o1, o2, o3, o4⟩ := o
  obtain ⟨x1, x2, x3, x4⟩ := x
  go_enter Try.func88, Try.ntmps88
  go_wp2_with (go_at_call 55; refine (H.out _).mono ?_; rintro e w1 ⟨rfl, e1⟩)
  go_ret
  exact RetE.mk rfl (HE.out.trans e1)
theorem enters_ValidFront1 : ∀ args w, (callFunc 88 args).run Try.prog w = .ok (.enter 88 args) w := enters_of Try.func88 (by kernel_rfl) rfl
end Go.Proofs.Ytnhmcmohnpbcjaa
