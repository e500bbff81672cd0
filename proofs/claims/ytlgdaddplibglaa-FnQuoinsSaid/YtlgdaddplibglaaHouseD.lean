/- Contracts: a plan of a house that is drawn. -/
import Derived.Test.YtlgdaddplibglaaSrc2
import Derived.Test.YtlgdaddplibglaaHouse0
namespace Go.Proofs.Ytlgdaddplibglaa
open Go.RowKit
set_option linter.unusedSimpArgs false
set_option linter.unusedVariables false
set_option linter.unnecessarySimpa false

theorem OwnInts.lit {E : TypeId} {w : World} {base : Nat} (xs : List Int) (cs : Array Value) (hcs : cs = (xs.map (Value.int .i64)).toArray) (hb : base ≤ w.heap.size) (hl : xs.length ≤ 1000) (hi : ∀ x ∈ xs, IsI64 x) :
    OwnInts E (w.alloc (.cells cs E)) base (.slice (some ⟨w.heap.size, 0, none⟩) xs.length xs.length) xs := by
  subst hcs
  exact ⟨⟨by simp, .inr ⟨w.heap.size, xs.length, _, rfl, hb, heap_alloc_new w _, Nat.le_refl _, by unfold maxLen; omega, by simp, by simp [List.take_of_length_le]⟩⟩, hi⟩
/-- a plan is handed back, and the source has gone on -/
def RetHD (g : Nat) (ao : Option Addr) (n c : Nat) (lo hi tl tu : Nat) (B : Nat) (w : World) (e : Ending) (w' : World) : Prop :=
  ∃ hb cap xs t st', e = .returned (.agg #[.slice (some ⟨hb, 0, none⟩) xs.length cap, .string t]) ∧ lo ≤ xs.length ∧ xs.length ≤ hi ∧ xs.length ≤ cap ∧ tl ≤ t.size ∧ t.size ≤ tu ∧ OwnInts 2 w' w.heap.size (.slice (some ⟨hb, 0, none⟩) xs.length cap) xs ∧ st'.Ok B ∧ SrcAt w' g ao n c st' ∧ w.grownBy w' (some g)
theorem resQ_alloc {w1 : World} {b : Nat} {x y : Value} (r0 : w1.cell? ⟨b, 0, none⟩ = some x) (r1 : w1.cell? ⟨b, 1, none⟩ = some y) (u v : Value) (o : Obj) :
    (((w1.setCell ⟨b, 0, none⟩ u).setCell ⟨b, 1, none⟩ v).alloc o).cell? ⟨b, 0, none⟩ = some u ∧ (((w1.setCell ⟨b, 0, none⟩ u).setCell ⟨b, 1, none⟩ v).alloc o).cell? ⟨b, 1, none⟩ = some v := by
  have h := resQ_two u v r0 r1
  exact ⟨((Ext.refl _).alloc _).cell h.1, ((Ext.refl _).alloc _).cell h.2⟩
theorem hd_end {g : Nat} {ao : Option Addr} {n c lo hx tl tu B : Nat} {w W : World} {st : Src} (h1 : SrcAt W g ao n c st) (h2 : w.grownBy W (some g)) (hgs : g < w.heap.size) (hw : w.heap.size < W.heap.size) (ok : st.Ok B) (xs : List Int) (t : ByteArray)
    (l1 : lo ≤ xs.length) (l2 : xs.length ≤ hx) (l3 : hx ≤ 100) (ht1 : tl ≤ t.size) (ht : t.size ≤ tu) (hi : ∀ x ∈ xs, IsI64 x) (cs : Array Value) (hcs : cs = (xs.map (Value.int .i64)).toArray) (m : Nat) (hm : m = xs.length) (u v : Value) :
    RetHD g ao n c lo hx tl tu B w (.returned (.agg #[.slice (some ⟨W.heap.size, 0, none⟩) m m, .string t])) (((W.setCell ⟨w.heap.size, 0, none⟩ u).setCell ⟨w.heap.size, 1, none⟩ v).alloc (.cells cs 2)) := by
  subst hm
  have e : ((W.setCell ⟨w.heap.size, 0, none⟩ u).setCell ⟨w.heap.size, 1, none⟩ v).heap.size = W.heap.size := by simp [World.setCell]
  have o := OwnInts.lit (E := 2) (w := (W.setCell ⟨w.heap.size, 0, none⟩ u).setCell ⟨w.heap.size, 1, none⟩ v) (base := w.heap.size) xs cs hcs (by rw [e]; exact Nat.le_of_lt hw) (by omega) hi
  rw [e] at o
  refine ⟨W.heap.size, xs.length, xs, t, st, rfl, l1, l2, Nat.le_refl _, ht1, ht, o, ok, ?_, ?_⟩
  · exact blk_old (heapQ_setO _ _ _ (heapQ_setO _ _ _ h1 (by omega)) (by omega))
  · exact grownQ_ext (grownQ_above (grownQ_above h2 (Nat.le_refl _) _) (Nat.le_refl _) _) ((Ext.refl _).alloc _)
set_option maxRecDepth 100000 in
set_option maxHeartbeats 4000000 in
theorem s_l07Draw {g : Nat} {ao : Option Addr} {n c : Nat} {bs : List UInt8} {W0 : World} (hbW : U8s W0 ao n bs) (hg : W0.heap.size ≤ g) (B : Nat) (hB : B ≤ 2800000000000000000) (st : Src) (ha : st.Ok B) (w : World) (h : SrcAt w g ao n c st) (e0 : Ext W0 w) :
    Calls Try.prog 57 #[.pointer (some ⟨g, 0, none⟩)] w (RetHD g ao n c 4 8 4 8 (B + 12) w) := by
  have HP := Lib.hid (fun (N : Int) (h1 : 1 ≤ N) (h2 : N ≤ 200) (B : Nat) (hB : B ≤ 2900000000000000000) (st : Src) (ha : st.Ok B) (w : World) (h : SrcAt w g ao n c st) (e0 : Ext W0 w) => s_pickQ N h1 h2 hbW hg B hB st ha w h e0)
  have hgs : g < w.heap.size := h.cells.2.2.2.2.2
  have HGS := Lib.hid hgs
  have HG0 := Lib.hid hg
  have HA := Lib.hid ha
  have HE0 := Lib.hid (e0.alloc (.cells #[.slice none 0 0, .string ⟨#[]⟩] 26))
  have HS0 : Hid (SrcAt (w.alloc (.cells #[.slice none 0 0, .string ⟨#[]⟩] 26)) g ao n c st) := Lib.hid (blk_old h)
  have HB0 := Lib.hid (blk_at w (.cells #[.slice none 0 0, .string ⟨#[]⟩] 26) _ rfl)
  have HGR0 : Hid (w.grownBy (w.alloc (.cells #[.slice none 0 0, .string ⟨#[]⟩] 26)) (some g)) := Lib.hid (World.grownBy_alloc w _ _)
  clear hbW hg ha h e0
  go_enter Try.func57, Try.ntmps57
  go_wp2_with fail
  refine (HP.out 60 (by decide) (by decide) B (by omega) st HA.out _ HS0.out HE0.out).mono ?_
  rintro e w1 ⟨q1, st1, rfl, a1, a2, OK1, s1, g1⟩
  have HE1 := Lib.hid (extQ_of_src g1 HE0.out HG0.out)
  have HB1 := Lib.hid (blkQ_grown HB0.out g1 (fun e => by have := HGS.out; simp at e; omega))
  have HGR1 := Lib.hid (HGR0.out.trans g1)
  have HS1 := Lib.hid s1
  have HOK1 := Lib.hid OK1
  clear s1 g1 OK1
  go_wp2_with fail
  refine (HP.out 60 (by decide) (by decide) (B + 2) (by omega) st1 HOK1.out _ HS1.out HE1.out).mono ?_
  rintro e w2 ⟨q2, st2, rfl, b1, b2, OK2, s2, g2⟩
  have HE2 := Lib.hid (extQ_of_src g2 HE1.out HG0.out)
  have HB2 := Lib.hid (blkQ_grown HB1.out g2 (fun e => by have := HGS.out; simp at e; omega))
  have HGR2 := Lib.hid (HGR1.out.trans g2)
  have HS2 := Lib.hid s2
  have HOK2 := Lib.hid OK2
  clear s2 g2 OK2
  go_wp2_with fail
  refine (HP.out 8 (by decide) (by decide) (B + 2 + 2) (by omega) st2 HOK2.out _ HS2.out HE2.out).mono ?_
  rintro e w3 ⟨q3, st3, rfl, c1, c2, OK3, s3, g3⟩
  have HE3 := Lib.hid (extQ_of_src g3 HE2.out HG0.out)
  have HB3 := Lib.hid (blkQ_grown HB2.out g3 (fun e => by have := HGS.out; simp at e; omega))
  have HGR3 := Lib.hid (HGR2.out.trans g3)
  have HS3 := Lib.hid s3
  have HOK3 := Lib.hid OK3
  clear s3 g3 OK3
  go_wp2_with fail
  refine (HP.out 8 (by decide) (by decide) (B + 2 + 2 + 2) (by omega) st3 HOK3.out _ HS3.out HE3.out).mono ?_
  rintro e w4 ⟨q4, st4, rfl, d1, d2, OK4, s4, g4⟩
  have HE4 := Lib.hid (extQ_of_src g4 HE3.out HG0.out)
  have HB4 := Lib.hid (blkQ_grown HB3.out g4 (fun e => by have := HGS.out; simp at e; omega))
  have HGR4 := Lib.hid (HGR3.out.trans g4)
  have HS4 := Lib.hid s4
  have HOK4 := Lib.hid OK4
  clear s4 g4 OK4
  go_wp2_with fail
  refine (HP.out 5 (by decide) (by decide) (B + 2 + 2 + 2 + 2) (by omega) st4 HOK4.out _ HS4.out HE4.out).mono ?_
  rintro e w5 ⟨q5, st5, rfl, f1, f2, OK5, s5, g5⟩
  have HE5 := Lib.hid (extQ_of_src g5 HE4.out HG0.out)
  have HB5 := Lib.hid (blkQ_grown HB4.out g5 (fun e => by have := HGS.out; simp at e; omega))
  have HGR5 := Lib.hid (HGR4.out.trans g5)
  have HS5 := Lib.hid s5
  have HOK5 := Lib.hid OK5
  clear s5 g5 OK5
  obtain ⟨r0, r1, r2, r3, r4⟩ := two_cells HB5.out
  have hr := resQ_alloc r0 r1
  have h5 : q5 = 0 ∨ q5 = 1 ∨ q5 = 2 ∨ q5 = 3 ∨ q5 = 4 := by omega
  clear HE0 HS0 HB0 HGR0 HE1 HB1 HGR1 HS1 HOK1 HE2 HB2 HGR2 HS2 HOK2 HE3 HB3 HGR3 HS3 HOK3 HE4 HB4 HGR4 HS4 HOK4
  have HI : Hid (∀ l : List Int, (∀ x ∈ l, -1000 ≤ x ∧ x ≤ 1000) → ∀ x ∈ l, IsI64 x) := Lib.hid (fun l hl x hx => by have := hl x hx; unfold IsI64; omega)
  rcases h5 with rfl | rfl | rfl | rfl | rfl
  · have HR := Lib.hid hr
    clear hr
    go_wp2
    have hr := HR.out
    refine bodyPost_ret (v := .agg #[.slice (some ⟨w5.heap.size, 0, none⟩) 4 4, .string ⟨#[76, 76, 76, 76]⟩]) (by simp [results, Try.results57, go_sem, hr]) rfl ?_
    exact hd_end HS5.out HGR5.out HGS.out r4 (HOK5.out.mono (by omega)) [24 + q1, 24 + q2, 24 + q1, 24 + q2] ⟨#[76, 76, 76, 76]⟩ (by simp) (by simp) (by decide) (by decide) (by decide) (HI.out _ (fun x hx => by simp at hx; omega)) _ (by simp) _ rfl _ _
  · have HR := Lib.hid hr
    clear hr
    go_wp2
    have hr := HR.out
    refine bodyPost_ret (v := .agg #[.slice (some ⟨w5.heap.size, 0, none⟩) 6 6, .string ⟨#[76, 76, 76, 82, 76, 76]⟩]) (by simp [results, Try.results57, go_sem, hr]) rfl ?_
    exact hd_end HS5.out HGR5.out HGS.out r4 (HOK5.out.mono (by omega)) [24 + q1, 24 + q2, 8 + q3, 8 + q4, 24 + q1 - (8 + q3), 24 + q2 - (8 + q4)] ⟨#[76, 76, 76, 82, 76, 76]⟩ (by simp) (by simp) (by decide) (by decide) (by decide) (HI.out _ (fun x hx => by simp at hx; omega)) _ (by simp) _ rfl _ _
  · have HR := Lib.hid hr
    clear hr
    go_wp2
    have hr := HR.out
    refine bodyPost_ret (v := .agg #[.slice (some ⟨w5.heap.size, 0, none⟩) 6 6, .string ⟨#[76, 76, 82, 76, 76, 76]⟩]) (by simp [results, Try.results57, go_sem, hr]) rfl ?_
    exact hd_end HS5.out HGR5.out HGS.out r4 (HOK5.out.mono (by omega)) [24 + q1, 24 + q2, 8 + q3, 8 + q4, 24 + q1 - (8 + q3), 24 + q2 + (8 + q4)] ⟨#[76, 76, 82, 76, 76, 76]⟩ (by simp) (by simp) (by decide) (by decide) (by decide) (HI.out _ (fun x hx => by simp at hx; omega)) _ (by simp) _ rfl _ _
  · have HR := Lib.hid hr
    clear hr
    go_wp2
    have hr := HR.out
    refine bodyPost_ret (v := .agg #[.slice (some ⟨w5.heap.size, 0, none⟩) 8 8, .string ⟨#[82, 76, 76, 82, 76, 76, 76, 76]⟩]) (by simp [results, Try.results57, go_sem, hr]) rfl ?_
    exact hd_end HS5.out HGR5.out HGS.out r4 (HOK5.out.mono (by omega)) [8 + (8 + q3), 8, 9 + (8 + q4), 8, 24 + q1, 24 + q2, 17 + (8 + q3) + (8 + q4) + (24 + q1), 24 + q2] ⟨#[82, 76, 76, 82, 76, 76, 76, 76]⟩ (by simp) (by simp) (by decide) (by decide) (by decide) (HI.out _ (fun x hx => by simp at hx; omega)) _ (by simp) _ rfl _ _
  · go_wp2_with fail
    refine (HP.out 4 (by decide) (by decide) (B + 2 + 2 + 2 + 2 + 2) (by omega) st5 HOK5.out _ HS5.out HE5.out).mono ?_
    rintro e w6 ⟨q6, st6, rfl, k1, k2, OK6, s6, g6⟩
    have HB6 := Lib.hid (blkQ_grown HB5.out g6 (fun e => by have := HGS.out; simp at e; omega))
    have HGR6 := Lib.hid (HGR5.out.trans g6)
    have HS6 := Lib.hid s6
    have HOK6 := Lib.hid OK6
    clear s6 g6 OK6 r0 r1 r2 r3 r4 hr
    obtain ⟨r0, r1, r2, r3, r4⟩ := two_cells HB6.out
    have hr := resQ_alloc r0 r1
    have HR := Lib.hid hr
    clear hr
    go_wp2
    have hr := HR.out
    refine bodyPost_ret (v := .agg #[.slice (some ⟨w6.heap.size, 0, none⟩) 8 8, .string ⟨#[76, 76, 76, 82, 82, 76, 76, 76]⟩]) (by simp [results, Try.results57, go_sem, hr]) rfl ?_
    exact hd_end HS6.out HGR6.out HGS.out r4 (HOK6.out.mono (by omega)) [60, 30, 20, 26 + 4 * q6, 20, 26 + 4 * q6, 20, 30] ⟨#[76, 76, 76, 82, 82, 76, 76, 76]⟩ (by simp) (by simp) (by decide) (by decide) (by decide) (HI.out _ (fun x hx => by simp at hx; omega)) _ (by simp) _ rfl _ _
end Go.Proofs.Ytlgdaddplibglaa
