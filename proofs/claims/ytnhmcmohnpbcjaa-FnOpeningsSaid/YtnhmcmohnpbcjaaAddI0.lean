/- Openings: the closure of AddOpening, Go's binary search, a copy of a row. -/
import Derived.Test.YtnhmcmohnpbcjaaSortO
import Derived.Test.YtnhmcmohnpbcjaaPut
import Derived.Deep.RegionHeld3
import Derived.Lib.SliceRun
namespace Go.Proofs.Ytnhmcmohnpbcjaa
open Go.RowKit
set_option linter.unusedSimpArgs false
set_option linter.unusedVariables false
set_option linter.unnecessarySimpa false

theorem shr1 (a b : Nat) (t : TypeId) : binOp BinOp.shr t (.int .u64 ((a : Int) + (b : Int))) (.int .u64 1) = pure (.int .u64 (((a + b) / 2 : Nat) : Int)) := by
  simp [go_sem]
theorem i_AddOpening_1 (x o : Opn) (b : Nat) (w : World) (hp : FourO w b 0 o) : Calls Try.prog 54 #[opnV x, .pointer (some ⟨b, 0, none⟩)] w (RetE (.bool (ovl o x)) w) := by
  have HE : Hid (Ext w (w.alloc (.cells #[.int .i64 x.fr, .int .i64 x.en, .int .i64 x.lo, .int .i64 x.hi] 34))) := Lib.hid ((Ext.refl w).alloc _)
  obtain ⟨u0, u1, u2, u3⟩ := hp.ext ((Ext.refl w).alloc (.cells #[.int .i64 x.fr, .int .i64 x.en, .int .i64 x.lo, .int .i64 x.hi] 34))
  have H := Lib.hid (fun W => i_overlap o x W)
  obtain ⟨o1, o2, o3, o4⟩ := o
  obtain ⟨x1, x2, x3, x4⟩ := x
  go_enter Try.func54, Try.ntmps54
  go_wp2_with (go_at_call 55; refine (H.out _).mono ?_; rintro e w1 ⟨rfl, e1⟩)
  go_ret
  exact RetE.mk rfl (HE.out.trans e1)
theorem enters_AddOpening1 : ∀ args w, (callFunc 54 args).run Try.prog w = .ok (.enter 54 args) w := enters_of Try.func54 (by kernel_rfl) rfl
set_option maxRecDepth 100000 in
set_option maxHeartbeats 1600000 in
theorem f_CloneO (ao : Option Addr) (n c : Nat) (os : List Opn) (w : World) (hx : Opens w ao n os) (hnc : n ≤ c) (hc : ao = none → c = 0) (hn : n ≤ 1000000) :
    Calls Try.prog 59 #[.slice ao n c] w (RetOpens os w) := by
  have hl := hx.1
  have q28 : ∀ (w : World) (a : Option Addr) (n c n' c' : Nat), (binOp .eql 28 (.slice a n c) (.slice none n' c')).run Try.prog w = .ok (.bool a.isNone) w := fun w a n c n' c' => Lib.run_eql_slice_nil w _ _ a n c n' c' Try.underlying28
  cases ao with
  | none =>
    obtain rfl := hc rfl
    obtain rfl : n = 0 := by omega
    obtain rfl : os = [] := List.length_eq_zero_iff.1 hl
    clear hx
    go_enter Try.func59, Try.ntmps59
    go_wp2
    go_ret
    exact ⟨none, 0, rfl, OwnOpens.nilv _ _, Ext.refl _⟩
  | some ad =>
    have HFL := Lib.hid (hx.flat.ext ((Ext.refl w).alloc (.cells #[] 34)))
    have HOK := Lib.hid hx.2.2.2
    have HL := Lib.hid hl
    have HO0 := Lib.hid (OwnOpens.empty (Ext.refl w))
    have HE0 : Hid (Ext w (w.alloc (.cells #[] 34))) := Lib.hid ((Ext.refl w).alloc _)
    clear hx hl
    go_enter Try.func59, Try.ntmps59
    go_wp2_with (at_builtin; refine wpList_append_opens (base := w.heap.size) rfl _ _ rfl _ [] rfl HO0.out HE0.out.size _ n c os rfl HL.out HFL.out HOK.out (by simp <;> omega) ?_)
    intro v3 w3 ho3 hg3
    have HO3 := Lib.hid ho3
    have HE3 : Hid (Ext w w3) := Lib.hid (HE0.out.grown hg3 (fun j hj => (HO0.out.1.lt j hj).1))
    clear ho3 hg3
    go_wp2
    go_ret
    exact RetOpens.of_own HO3.out HE3.out
/-- the place is handed back, and whether the element stands there -/
def RetBin (P : Nat) (w : World) (e : Ending) (w' : World) : Prop := ∃ b, e = .returned (.tuple #[.int .i64 P, .bool b]) ∧ Ext w w'
set_option maxRecDepth 100000 in
set_option maxHeartbeats 4000000 in
theorem f_BinSearch (ao : Option Addr) (n c : Nat) (os : List Opn) (x : Opn) (P : Nat) (w : World) (hx : Opens w ao n os) (hn : n ≤ 8) (hP : P ≤ n) (hm : ∀ i, i < n → befB (os.getD i default) x = decide (i < P)) :
    Calls Try.prog 56 #[.slice ao n c, opnV x, .func (.func 57) #[] #[]] w (RetBin P w) := by
  have HC := Lib.hid (fun a W => i_compareOpenings a x W)
  have HM := Lib.hid (fun i hi => (cmpO_lt (os.getD i default) x).trans (hm i hi))
  have HEN := enters_compareOpenings
  obtain ⟨x1, x2, x3, x4⟩ := x
  have HE0 : Hid (Ext w (w.alloc (.cells #[.int .i64 x1, .int .i64 x2, .int .i64 x3, .int .i64 x4] 34))) := Lib.hid ((Ext.refl w).alloc _)
  have HX := Lib.hid (hx.ext HE0.out)
  have HF : Hid (Four (w.alloc (.cells #[.int .i64 x1, .int .i64 x2, .int .i64 x3, .int .i64 x4] 34)) w.heap.size 0 x1 x2 x3 x4) := Lib.hid (four_new w x1 x2 x3 x4 _)
  obtain ⟨W1, hW1⟩ : ∃ W, w.alloc (.cells #[.int .i64 x1, .int .i64 x2, .int .i64 x3, .int .i64 x4] 34) = W := ⟨_, rfl⟩
  rw [hW1] at HE0 HX HF
  clear hx hm
  go_enter Try.func56, Try.ntmps56
  go_wp2
  clear hW1
  go_loopw [9, 10] (fun i j wr => ∃ a b : Nat, a ≤ P ∧ P ≤ b ∧ b ≤ n ∧ i = .int .i64 a ∧ j = .int .i64 b ∧ Hid (Ext W1 wr)) (fun i j _ => (intOf j - intOf i).toNat)
  case atStart => exact ⟨0, n, Nat.zero_le _, hP, Nat.le_refl _, rfl, rfl, Lib.hid (Ext.refl _)⟩
  case round =>
    obtain ⟨a, b, ha, hb, hbn, rfl, rfl, ER⟩ := hrel
    by_cases hlt : a < b
    · have hki : (a : Int) < (b : Int) := by omega
      have hwi : IntKind.i64.wrap (((a : Int) + (b : Int)) / 2) = ((a : Int) + (b : Int)) / 2 := IntWalk.i64_in _ (by omega)
      have hwu : IntKind.u64.wrap ((a : Int) + (b : Int)) = (a : Int) + (b : Int) := by rw [IntKind.wrap_u64]; omega
      obtain ⟨h, hhe⟩ : ∃ h : Nat, (a + b) / 2 = h := ⟨_, rfl⟩
      have ha1 : a ≤ h := by omega
      have hb1 : h < b := by omega
      have hht : (((a : Int) + (b : Int)) / 2) = (h : Int) := by omega
      have hhn : h < n := by omega
      obtain ⟨bb, off, rfl, c0, c1, c2, c3⟩ := (HX.out.ext ER.out).2.2.1 h hhn
      have hmh := HM.out h hhn
      obtain ⟨y, hye⟩ : ∃ y, os.getD h default = y := ⟨_, rfl⟩
      rw [hye] at c0 c1 c2 c3 hmh
      have HCC := Lib.hid (fun W => HC.out y W)
      obtain ⟨cv, hcv⟩ : ∃ v, cmpO y ⟨x1, x2, x3, x4⟩ = v := ⟨_, rfl⟩
      rw [hcv] at hmh HCC
      obtain ⟨y1, y2, y3, y4⟩ := y
      have Y : Four wr bb (off + h * 4) y1 y2 y3 y4 := ⟨c0, c1, c2, c3⟩
      obtain ⟨α, hne, F, hK⟩ := cls_of wr
      have HK := Lib.hid hK
      obtain ⟨p0, p1, p2, p3⟩ := hK.four Y
      have hF := hK.four (HF.out.ext ER.out)
      simp only [Nat.zero_add] at hF
      obtain ⟨d0, d1, d2, d3⟩ := hF
      have hn0 : (h : Int) < (n : Int) := by omega
      clear hK Y c0 c1 c2 c3 hye hcv
      go_upto_region 5 with fail
      try rw [hht]
      clear hht hwi hwu hhe
      refine wp_region_cls F (by kernel_rfl) (by kernel_rfl) HK.out.drew ?_
      repeat (go_big_quiet_step ((first | (go_at_call 57; exact HK.out.retE (HCC.out _)))))
      refine wpQuiet_nil ?_
      rintro _ ⟨z, rfl⟩
      have HE := Lib.hid (ER.out.trans (HK.out.ext z))
      clear p0 p1 p2 p3 d0 d1 d2 d3
      by_cases hlp : h < P
      · have hd : decide (cv < 0) = true := by rw [hmh]; simp [hlp]
        go_wp2
        go_roundw
        case rel => first | exact ⟨h + 1, b, by omega, hb, hbn, by go_num, rfl, HE⟩ | ((repeat apply Exists.intro); exact ⟨⟨h + 1, b, by omega, hb, hbn, by go_num, rfl, HE⟩, rfl⟩)
        case measure => (simp [intOf] <;> omega)
      · have hd : decide (cv < 0) = false := by rw [hmh]; simp [hlp]
        go_wp2
        go_roundw
        case rel => first | exact ⟨a, h, ha, by omega, by omega, rfl, rfl, HE⟩ | ((repeat apply Exists.intro); exact ⟨⟨a, h, ha, by omega, by omega, rfl, rfl, HE⟩, rfl⟩)
        case measure => (simp [intOf] <;> omega)
    · obtain rfl : a = P := by omega
      have hki : ¬ (a : Int) < (b : Int) := by omega
      obtain ⟨α, hne, F, hK⟩ := cls_of wr
      have HK := Lib.hid hK
      have hF := hK.four (HF.out.ext ER.out)
      simp only [Nat.zero_add] at hF
      obtain ⟨d0, d1, d2, d3⟩ := hF
      by_cases han : a < n
      · obtain ⟨bb, off, rfl, c0, c1, c2, c3⟩ := (HX.out.ext ER.out).2.2.1 a han
        obtain ⟨y, hye⟩ : ∃ y, os.getD a default = y := ⟨_, rfl⟩
        rw [hye] at c0 c1 c2 c3
        have HCC := Lib.hid (fun W => HC.out y W)
        obtain ⟨cv, hcv⟩ : ∃ v, cmpO y ⟨x1, x2, x3, x4⟩ = v := ⟨_, rfl⟩
        rw [hcv] at HCC
        obtain ⟨y1, y2, y3, y4⟩ := y
        have Y : Four wr bb (off + a * 4) y1 y2 y3 y4 := ⟨c0, c1, c2, c3⟩
        obtain ⟨p0, p1, p2, p3⟩ := hK.four Y
        have hn0 : (a : Int) < (n : Int) := by omega
        have e0 : decide ((a : Int) < (n : Int)) = true := by (simp <;> omega)
        clear hK Y c0 c1 c2 c3 hye hcv
        go_upto_region 8 with fail
        refine wp_region_cls F (by kernel_rfl) (by kernel_rfl) HK.out.drew ?_
        repeat (go_big_quiet_step ((first | (go_at_call 57; exact HK.out.retE (HCC.out _)))))
        refine wpQuiet_nil ?_
        rintro _ ⟨z, rfl⟩
        have HE := Lib.hid (HE0.out.trans (ER.out.trans (HK.out.ext z)))
        go_wp2
        go_ret2
        exact ⟨_, rfl, HE.out⟩
      · have hn0 : ¬ (a : Int) < (n : Int) := by omega
        have e0 : decide ((a : Int) < (n : Int)) = false := by (simp <;> omega)
        clear hK
        go_upto_region 8 with fail
        refine wp_region_cls F (by kernel_rfl) (by kernel_rfl) HK.out.drew ?_
        repeat (go_big_quiet_step ((fail)))
        refine wpQuiet_nil ?_
        rintro _ ⟨z, rfl⟩
        have HE := Lib.hid (HE0.out.trans (ER.out.trans (HK.out.ext z)))
        go_wp2
        go_ret2
        exact ⟨_, rfl, HE.out⟩
end Go.Proofs.Ytnhmcmohnpbcjaa
