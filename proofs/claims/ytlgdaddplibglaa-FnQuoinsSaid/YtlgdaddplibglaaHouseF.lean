/- Contracts: a plan of a house that is bent seldom: the walk. -/
import Derived.Test.YtlgdaddplibglaaHouseE
namespace Go.Proofs.Ytlgdaddplibglaa
open Go.RowKit
set_option linter.unusedSimpArgs false
set_option linter.unusedVariables false
set_option linter.unnecessarySimpa false

theorem BH.first {g : Nat} {ao : Option Addr} {n c hb m cap B : Nat} {st : Src} {xs : List Int} {t : ByteArray} {W0 w w1 : World} {o : Obj} (ho : o = .cells #[.slice none 0 0, .string ⟨#[]⟩] 26) (hm : xs.length = m) (gs : g < w.heap.size) (w0 : W0.heap.size ≤ g) (e0 : Ext W0 w) (o1 : OwnInts 2 w1 (w.alloc o).heap.size (.slice (some ⟨hb, 0, none⟩) m cap) xs) (ok : st.Ok B) (s1 : SrcAt w1 g ao n c st) (g1 : (w.alloc o).grownBy w1 (some g)) :
    BH w g ao n c w1.heap.size (.slice (some ⟨hb, 0, none⟩) m cap) t xs W0 B st (w1.alloc (.cells #[.slice (some ⟨hb, 0, none⟩) m cap, .string t] 26)) := by
  subst ho
  have hr := blkQ_grown (blk_at w (.cells #[.slice none 0 0, .string ⟨#[]⟩] 26) _ rfl) g1 (fun e => by simp at e; omega)
  refine ⟨blk_old hr, blk_at _ _ _ rfl, (o1.mono (by simp)).ext ((Ext.refl _).alloc _), blk_old s1, grownQ_ext ((World.grownBy_alloc w _ _).trans g1) ((Ext.refl _).alloc _), lt_of_block hr, gs, ok, ?_, w0⟩
  exact (extQ_of_src g1 (e0.alloc _) w0).alloc _
theorem own_shape {E : TypeId} {w : World} {base : Nat} {v : Value} {xs : List Int} (h : OwnInts E w base v xs) (hx : xs ≠ []) (N : Nat) (hN : xs.length = N) : ∃ k cap, v = .slice (some ⟨k, 0, none⟩) N cap ∧ N ≤ cap := by
  subst hN
  rcases h.1.2 with ⟨_, h0⟩ | ⟨g, cap, cur, hv, _, _, hc, _⟩
  · exact absurd (List.eq_nil_of_length_eq_zero h0) hx
  · exact ⟨g, cap, hv, hc⟩
def six : List Int := [-1, 7, 8, 200, 201, -9223372036854775808]
theorem six_ok : ∀ x ∈ six, IsI64 x := fun x hx => by
  simp [six] at hx
  unfold IsI64
  omega
set_option maxRecDepth 100000 in
set_option maxHeartbeats 8000000 in
theorem s_l07Bent {g : Nat} {ao : Option Addr} {n c : Nat} {bs : List UInt8} {W0 : World} (hbW : U8s W0 ao n bs) (hg : W0.heap.size ≤ g) (B : Nat) (hB : B ≤ 2700000000000000000) (st : Src) (ha : st.Ok B) (w : World) (h : SrcAt w g ao n c st) (e0 : Ext W0 w) :
    Calls Try.prog 49 #[.pointer (some ⟨g, 0, none⟩)] w (RetHD g ao n c 4 14 0 20 (B + 40) w) := by
  have HD := Lib.hid (fun w1 (h1 : SrcAt w1 g ao n c st) (e1 : Ext W0 w1) => s_l07Draw hbW hg B (by omega) st ha w1 h1 e1)
  have hgs : g < w.heap.size := h.cells.2.2.2.2.2
  have HGS := Lib.hid hgs
  have HG0 := Lib.hid hg
  have HW := Lib.hid hbW
  have HE := Lib.hid e0
  have HS0 : Hid (SrcAt (w.alloc (.cells #[.slice none 0 0, .string ⟨#[]⟩] 26)) g ao n c st) := Lib.hid (blk_old h)
  clear hbW hg ha h e0
  go_enter Try.func49, Try.ntmps49
  go_wp2_with fail
  refine (HD.out _ HS0.out (HE.out.alloc _)).mono ?_
  rintro e w1 ⟨hb, cap, xs, t, st1, rfl, l1, l2, l0, t1, t2, o1, OK1, s1, g1⟩
  obtain ⟨m, hm⟩ : ∃ m, xs.length = m := ⟨_, rfl⟩
  rw [hm] at l0 l1 l2 o1
  rw [hm]
  have HM := Lib.hid hm
  have HB1 := Lib.hid (BH.first (t := t) rfl hm HGS.out HG0.out HE.out o1 OK1 s1 g1)
  clear o1 OK1 s1 g1 hm
  go_wp2_with fail
  refine (pickBH HW.out 20 (by decide) (by decide) HB1.out (by omega)).mono ?_
  rintro e w2 ⟨q, st2, rfl, q1, q2, bh2, _⟩
  have HB2 := Lib.hid bh2
  obtain ⟨r0, r1, r2, r3, r4, r5, r6, r7⟩ := bh2.res2
  have hr := fun u v => resQ_two u v r0 r1
  have HR := Lib.hid hr
  have h12 : w.heap.size < w1.heap.size := bh2.lt
  clear hr bh2 HS0 HD HB1
  have hq : q = 0 ∨ q = 1 ∨ q = 2 ∨ q = 3 ∨ q = 4 ∨ q = 5 ∨ 6 ≤ q := by omega
  rcases hq with rfl | rfl | rfl | rfl | rfl | rfl | hq
  · have HT := r2
    have hmI : (m : Int) ≤ (cap : Int) := by omega
    have BH2 := HB2.out
    have w1e : ∀ W, Ext w2 W → Ext w2 W := fun W h => h
    clear r0 r1 r4 r5
    go_wp2
    go_region_held3 (fun W => W.cell? ⟨w1.heap.size, 0, none⟩ = some (.slice (some ⟨hb, 0, none⟩) m cap)) (first | exact (BH.two (BH.ext BH2 (Ext.refl _).drew)).1 | exact (BH.two (by assumption)).1 | exact (BH.two (BH.ext (by assumption) ((Ext.refl _).alloc _))).1 | exact (BH.two (BH.putX (by assumption) _ _ (by assumption))).1) (first
      | (go_at_call 50; refine (pickBH HW.out (m : Int) (by omega) (by omega) (by first | assumption | exact BH.ext BH2 (Ext.refl _).drew | exact BH.ext BH2 ((Ext.refl _).drew.alloc _)) (by omega)).mono ?_; rintro e w3 ⟨q3, st3, rfl, z1, z2, bh3, g3⟩; obtain ⟨j, rfl⟩ := Int.eq_ofNat_of_zero_le z1; have hj : j < m := (by omega); (try (have hI3 := Ints.grown (k := w2.heap.size) (m := 6) (ys := six) (by first | exact lit_ints six _ rfl six_ok 6 rfl (by decide) _ rfl | exact Ints.ext (lit_ints (W := w2) six _ rfl six_ok 6 rfl (by decide) _ rfl) (Ext.refl _).drew) g3 (by have := lt_of_block BH2.res; omega))); clear g3; have hw3 := (bh3.row j hj).1; have hf3 := (bh3.row j hj).2)
      | (go_at_call 52; refine (amongBH HW.out six 6 (by decide) (by decide) _ (by first | assumption | exact BH.ext (by assumption) ((Ext.refl _).alloc _)) (by first | assumption | exact lit_ints six _ (by rfl) six_ok 6 rfl (by decide) _ rfl) (by have := lt_of_block BH2.res; have := lt_of_block bh3.res; omega) (by omega)).mono ?_; rintro e w4 ⟨x, st4, rfl, hx, bh4⟩; have hx6 := six_ok x hx; clear hx; have hw4 := (bh4.row j hj).1; have hf4 := (bh4.row j hj).2))
    all_goals
      have bh5 := BH.putX bh4 j x hx6
      obtain ⟨p0, p1, p2, p3, p4, p5, p6, p7⟩ := bh5.res2
      have HR5 := Lib.hid (fun u v => resQ_two u v p0 p1)
      have HB5 := Lib.hid bh5
      clear bh5 BH2 bh4 hx6 HR
      go_wp2
      have hr := HR5.out
      refine bodyPost_ret (v := .agg #[.slice (some ⟨hb, 0, none⟩) m cap, .string t]) (by simp [results, Try.results49, go_sem, hr]) rfl ?_
      exact HB5.out.fin l0 (by omega) (by omega) (by omega) (by omega) _ _ (by omega)
  · have k1 : (1 : Int) ≤ (t.size : Int) := by omega
    have bh5 := BH.putT HB2.out (t.extract 1 t.size)
    obtain ⟨p0, p1, p2, p3, p4, p5, p6, p7⟩ := bh5.res2
    have HR5 := Lib.hid (fun u v => resQ_two u v p0 p1)
    have HB5 := Lib.hid bh5
    clear bh5 HR
    go_wp2
    have hr := HR5.out
    refine bodyPost_ret (v := .agg #[.slice (some ⟨hb, 0, none⟩) m cap, .string (t.extract 1 t.size)]) (by simp [results, Try.results49, go_sem, hr]) rfl ?_
    exact HB5.out.fin l0 (by omega) (by omega) (by omega) (by simp; omega) _ _ (by omega)
  · have k1 : (4 : Int) ≤ (t.size : Int) := by omega
    have BH2 := HB2.out
    have hlt2 := lt_of_block BH2.box
    clear r0 r1 r4 r5
    go_wp2
    go_region_with (first
      | (go_at_call 58; refine (textBH HW.out [⟨#[82, 82, 82, 82]⟩, ⟨#[76, 76, 76, 88]⟩, ⟨#[76, 76, 76, 82]⟩] _ (by rfl) (by decide) 3 rfl (by decide) (by decide) (by first | exact BH.ext BH2 (Ext.refl _).drew) (by omega) _ (by rfl)).mono ?_; rintro e w3 ⟨y, st3, rfl, hy, bh3⟩; have hcat : ¬ (9223372036854775807 < y.size + (t.size - 4)) := (by omega); have bh5 := BH.putT bh3 (y ++ t.extract 4 t.size); obtain ⟨u0, u1, u2, u3, u4, u5, u6, u7⟩ := bh3.res2; obtain ⟨p0, p1, p2, p3, p4, p5, p6, p7⟩ := bh5.res2; have HR5 := Lib.hid (fun u v => resQ_two u v p0 p1); have HB5 := Lib.hid bh5; clear bh5 bh3))
    all_goals
      go_wp2
      have hr := HR5.out
      refine bodyPost_ret (v := .agg #[.slice (some ⟨hb, 0, none⟩) m cap, .string (y ++ t.extract 4 t.size)]) (by simp [results, Try.results49, go_sem, hr]) rfl ?_
      exact HB5.out.fin l0 (by omega) (by omega) (by omega) (by simp; omega) _ _ (by omega)
  · have hl : xs.length ≤ 1000000 := by have := HM.out; omega
    have hlt := lt_of_block HB2.out.res
    have hcat : ¬ (9223372036854775807 < t.size + 1) := by omega
    go_wp2_with (at_builtin; refine wpList_append_intsG rfl _ _ rfl _ xs [8] _ (by rfl) (by intro x hx; simp at hx; unfold IsI64; omega) 1 rfl (by decide) w.heap.size rfl rfl rfl HB2.out.own (Nat.le_of_lt hlt) hl ?_; intro v' w3 ho3 hg3; obtain ⟨k3, c3, rfl, hc3⟩ := own_shape ho3 (by simp) (m + 1) (by simp [HM.out]); obtain ⟨bh3, hres3, hbox3⟩ := HB2.out.app hg3 ho3; obtain ⟨x0, x1, x4, x5, _⟩ := two_cells hres3; obtain ⟨v2, v3, v6, v7, _⟩ := two_cells hbox3; have bh5 := BH.putT bh3 (t ++ ⟨#[76]⟩); obtain ⟨p0, p1, p2, p3, p4, p5, p6, p7⟩ := bh5.res2; have HR5 := Lib.hid (fun u v => resQ_two u v p0 p1); have HB5 := Lib.hid bh5; have HC3 := Lib.hid hc3; clear bh3 hg3 ho3 hres3 hbox3 bh5 hc3)
    have hr := HR5.out
    refine bodyPost_ret (v := .agg #[.slice (some ⟨k3, 0, none⟩) (m + 1) c3, .string (t ++ ⟨#[76]⟩)]) (by simp [results, Try.results49, go_sem, hr]) rfl ?_
    exact HB5.out.fin HC3.out (by omega) (by omega) (by omega) (by have e1 : (⟨#[76]⟩ : ByteArray).size = 1 := rfl; simp; omega) _ _ (by omega)
  · have bh5 := BH.putT (BH.putNew HB2.out [200, 8, 200, 8] _ rfl (by intro x hx; simp at hx; unfold IsI64; omega) 4 rfl (by decide)) ⟨#[76, 76, 76, 76]⟩
    rw [World.setCell_alloc_past _ _ _ _ (by simp only [World.setCell, Array.size_modify]; exact lt_of_block HB2.out.box)] at bh5
    have hr := HR.out
    have hlt := lt_of_block HB2.out.res
    have hlt2 := lt_of_block HB2.out.box
    have hne1 : ∀ i j, (⟨w1.heap.size, i, none⟩ : Addr) ≠ ⟨w.heap.size, j, none⟩ := fun i j e => by injection e; omega
    have HR5 := Lib.hid (fun u v o => resQ_alloc (o := o) (w1 := (w2.setCell ⟨w1.heap.size, 0, none⟩ (.slice (some ⟨w2.heap.size, 0, none⟩) 4 4)).setCell ⟨w1.heap.size, 1, none⟩ (.string ⟨#[76, 76, 76, 76]⟩)) (b := w.heap.size) (x := .slice none 0 0) (y := .string ⟨#[]⟩) (by rw [World.cell?_setCell_other _ _ _ _ (hne1 _ _), World.cell?_setCell_other _ _ _ _ (hne1 _ _)]; exact r0) (by rw [World.cell?_setCell_other _ _ _ _ (hne1 _ _), World.cell?_setCell_other _ _ _ _ (hne1 _ _)]; exact r1) u v)
    have HB5 := Lib.hid bh5
    clear bh5 hr
    go_wp2
    have hr := HR5.out
    refine bodyPost_ret (v := .agg #[.slice (some ⟨w2.heap.size, 0, none⟩) 4 4, .string ⟨#[76, 76, 76, 76]⟩]) (by simp [results, Try.results49, go_sem, hr]) rfl ?_
    exact HB5.out.finA (by simp [World.setCell]; exact hlt) (by omega) (by omega) (by omega) (by decide) (by decide) _ _ (by omega)
  · have e0 : (⟨#[76, 76, 82, 76, 82, 76, 82, 76, 82, 76, 76, 76]⟩ : ByteArray).size = 12 := rfl
    have hlt := lt_of_block HB2.out.res
    have hlt2 := lt_of_block HB2.out.box
    have bh4 := BH.putNew (BH.put HB2.out (OwnInts.nilv 2 w2 w.heap.size) ⟨#[76, 76, 82, 76, 82, 76, 82, 76, 82, 76, 76, 76]⟩ (.slice none 0 0) (.string ⟨#[76, 76, 82, 76, 82, 76, 82, 76, 82, 76, 76, 76]⟩) ⟨rfl, rfl⟩) [40, 18, 8, 10, 8, 10, 8, 10, 8, 10, 8, 58] _ rfl (by intro x hx; simp at hx; unfold IsI64; omega) 12 rfl (by decide)
    rw [show ((w2.setCell ⟨w1.heap.size, 0, none⟩ (.slice none 0 0)).setCell ⟨w1.heap.size, 1, none⟩ (.string ⟨#[76, 76, 82, 76, 82, 76, 82, 76, 82, 76, 76, 76]⟩)).heap.size = w2.heap.size by simp only [World.setCell, Array.size_modify]] at bh4
    have HB4 := Lib.hid bh4
    have HE0 := Lib.hid e0
    clear bh4 HR e0
    go_wp2_with fail
    refine (oneBH HW.out 2 (by decide) (by decide) HB4.out (by omega)).mono ?_
    rintro e w5 ⟨bl, st5, rfl, bh5⟩
    have HB5 := Lib.hid bh5
    obtain ⟨p0, p1, p2, p3, p4, p5, p6, p7⟩ := bh5.res2
    have h5 := lt_of_block bh5.res
    clear bh5 r0 r1 r2 r3 r4 r5 r6 r7
    cases bl
    · have HR5 := Lib.hid (fun u v => resQ_two u v p0 p1)
      go_wp2
      have hr := HR5.out
      refine bodyPost_ret (v := .agg #[.slice (some ⟨w2.heap.size, 0, none⟩) 12 12, .string ⟨#[76, 76, 82, 76, 82, 76, 82, 76, 82, 76, 76, 76]⟩]) (by simp [results, Try.results49, go_sem, hr]) rfl ?_
      exact HB5.out.fin (by omega) (by omega) (by omega) (by omega) (by rw [HE0.out]; decide) _ _ (by omega)
    · go_wp2_with (at_builtin; (refine wpList_append_intsG rfl _ _ rfl _ [40, 18, 8, 10, 8, 10, 8, 10, 8, 10, 8, 58] [8, 8] _ (by rfl) (by intro x hx; simp at hx; unfold IsI64; omega) 2 rfl (by decide) w.heap.size rfl rfl rfl HB5.out.own (Nat.le_of_lt h5) (by decide) ?_; intro v' w6 ho6 hg6; obtain ⟨k6, c6, rfl, hc6⟩ := own_shape ho6 (by simp) 14 rfl; obtain ⟨bh6, hres6, hbox6⟩ := HB5.out.app hg6 ho6; obtain ⟨x0, x1, x4, x5, _⟩ := two_cells hres6; obtain ⟨v2, v3, v6, v7, _⟩ := two_cells hbox6; have bh7 := BH.putT bh6 (⟨#[76, 76, 82, 76, 82, 76, 82, 76, 82, 76, 76, 76]⟩ ++ ⟨#[76, 82]⟩); obtain ⟨y0, y1, y2, y3, y4, y5, y6, y7⟩ := bh7.res2; have HR7 := Lib.hid (fun u v => resQ_two u v y0 y1); have HB7 := Lib.hid bh7; have HC6 := Lib.hid hc6; clear bh6 hg6 ho6 hres6 hbox6 bh7 hc6))
      have hr := HR7.out
      refine bodyPost_ret (v := .agg #[.slice (some ⟨k6, 0, none⟩) 14 c6, .string (⟨#[76, 76, 82, 76, 82, 76, 82, 76, 82, 76, 76, 76]⟩ ++ ⟨#[76, 82]⟩)]) (by simp [results, Try.results49, go_sem, hr]) rfl ?_
      exact HB7.out.fin HC6.out (by omega) (by omega) (by omega) (by decide) _ _ (by omega)
  · have k0 : (q == 0) = false := by simp; omega
    have k1 : (q == 1) = false := by simp; omega
    have k2 : (q == 2) = false := by simp; omega
    have k3 : (q == 3) = false := by simp; omega
    have k4 : (q == 4) = false := by simp; omega
    have k5 : (q == 5) = false := by simp; omega
    go_wp2
    have hr := HR.out
    refine bodyPost_ret (v := .agg #[.slice (some ⟨hb, 0, none⟩) m cap, .string t]) (by simp [results, Try.results49, go_sem, hr]) rfl ?_
    exact HB2.out.fin l0 (by omega) (by omega) (by omega) (by omega) _ _ (by omega)
end Go.Proofs.Ytlgdaddplibglaa
