/- A group of texts, one behind the other: HouseD, HouseE, HouseF, HouseG. -/
import Derived.Test.YtaokeaiehjgbnaaGreatDoorSrc2
import Derived.Test.YtaokeaiehjgbnaaGreatDoorHouse0
import Derived.Test.YtaokeaiehjgbnaaGreatDoorRecs
import Derived.Test.YtaokeaiehjgbnaaGreatDoorRowCat
import Derived.Deep.RegionHeld3
import Derived.Deep.DeepCutAuto
/- Contracts: a plan of a house that is drawn. -/
namespace Go.Proofs.YtaokeaiehjgbnaaGreatDoor
open Go.RowKit
set_option linter.unusedSimpArgs false
set_option linter.unusedVariables false
set_option linter.unnecessarySimpa false

theorem OwnInts.lit {E : TypeId} {w : World} {base : Nat} (xs : List Int) (cs : Array Value) (hcs : cs = (xs.map (Value.int .i64)).toArray) (hb : base ≤ w.heap.size) (hl : xs.length ≤ 1000) (hi : ∀ x ∈ xs, IsI64 x) :
    OwnInts E (w.alloc (.cells cs E)) base (.slice (some ⟨w.heap.size, 0, none⟩) xs.length xs.length) xs := by
  subst hcs
  exact ⟨⟨by simp, .inr ⟨w.heap.size, xs.length, _, rfl, hb, heap_alloc_new w _, Nat.le_refl _, by unfold maxLen; omega, by simp, by simp [List.take_of_length_le]⟩⟩, hi⟩
/-- a plan is handed back, and the source has gone on -/
def RetHD (g : Nat) (ao : Option Addr) (n c : Nat) (lo hi tl tu : Nat) (B : Nat) (w : World) (e : Ending) (w' : World) : Prop :=
  ∃ hb cap xs t st', e = .returned (.agg #[.slice (some ⟨hb, 0, none⟩) xs.length cap, .string t]) ∧ lo ≤ xs.length ∧ xs.length ≤ hi ∧ xs.length ≤ cap ∧ tl ≤ t.size ∧ t.size ≤ tu ∧ OwnInts 2 w' w.heap.size (.slice (some ⟨hb, 0, none⟩) xs.length cap) xs ∧ st'.Ok B ∧ SrcAt w' g ao n c st' ∧ w.grownBy w' (some g)
/-- .. whose sides have lengths from 0 to 200, one a turn -/
def RetHDv (g : Nat) (ao : Option Addr) (n c : Nat) (lo hi tl tu : Nat) (B : Nat) (w : World) (e : Ending) (w' : World) : Prop :=
  ∃ hb cap xs t st', e = .returned (.agg #[.slice (some ⟨hb, 0, none⟩) xs.length cap, .string t]) ∧ lo ≤ xs.length ∧ xs.length ≤ hi ∧ xs.length ≤ cap ∧ tl ≤ t.size ∧ t.size ≤ tu ∧ OwnInts 2 w' w.heap.size (.slice (some ⟨hb, 0, none⟩) xs.length cap) xs ∧ st'.Ok B ∧ SrcAt w' g ao n c st' ∧ w.grownBy w' (some g) ∧ t.size = xs.length ∧ ∀ x ∈ xs, 0 ≤ x ∧ x ≤ 200
theorem RetHDv.weak {g : Nat} {ao : Option Addr} {n c lo hi tl tu B : Nat} {w w' : World} {e : Ending} (h : RetHDv g ao n c lo hi tl tu B w e w') : RetHD g ao n c lo hi tl tu B w e w' := by
  obtain ⟨hb, cap, xs, t, st', h1, h2, h3, h4, h5, h6, h7, h8, h9, h10, _, _⟩ := h
  exact ⟨hb, cap, xs, t, st', h1, h2, h3, h4, h5, h6, h7, h8, h9, h10⟩
theorem resQ_alloc {w1 : World} {b : Nat} {x y : Value} (r0 : w1.cell? ⟨b, 0, none⟩ = some x) (r1 : w1.cell? ⟨b, 1, none⟩ = some y) (u v : Value) (o : Obj) :
    (((w1.setCell ⟨b, 0, none⟩ u).setCell ⟨b, 1, none⟩ v).alloc o).cell? ⟨b, 0, none⟩ = some u ∧ (((w1.setCell ⟨b, 0, none⟩ u).setCell ⟨b, 1, none⟩ v).alloc o).cell? ⟨b, 1, none⟩ = some v := by
  have h := resQ_two u v r0 r1
  exact ⟨((Ext.refl _).alloc _).cell h.1, ((Ext.refl _).alloc _).cell h.2⟩
theorem hd_end {g : Nat} {ao : Option Addr} {n c lo hx tl tu B : Nat} {w W : World} {st : Src} (h1 : SrcAt W g ao n c st) (h2 : w.grownBy W (some g)) (hgs : g < w.heap.size) (hw : w.heap.size < W.heap.size) (ok : st.Ok B) (xs : List Int) (t : ByteArray)
    (l1 : lo ≤ xs.length) (l2 : xs.length ≤ hx) (l3 : hx ≤ 100) (ht1 : tl ≤ t.size) (ht : t.size ≤ tu) (htx : t.size = xs.length) (hiv : ∀ x ∈ xs, 0 ≤ x ∧ x ≤ 200) (cs : Array Value) (hcs : cs = (xs.map (Value.int .i64)).toArray) (m : Nat) (hm : m = xs.length) (u v : Value) :
    RetHDv g ao n c lo hx tl tu B w (.returned (.agg #[.slice (some ⟨W.heap.size, 0, none⟩) m m, .string t])) (((W.setCell ⟨w.heap.size, 0, none⟩ u).setCell ⟨w.heap.size, 1, none⟩ v).alloc (.cells cs 2)) := by
  subst hm
  have hi : ∀ x ∈ xs, IsI64 x := fun x h => by have := hiv x h; unfold IsI64; omega
  have e : ((W.setCell ⟨w.heap.size, 0, none⟩ u).setCell ⟨w.heap.size, 1, none⟩ v).heap.size = W.heap.size := by simp [World.setCell]
  have o := OwnInts.lit (E := 2) (w := (W.setCell ⟨w.heap.size, 0, none⟩ u).setCell ⟨w.heap.size, 1, none⟩ v) (base := w.heap.size) xs cs hcs (by rw [e]; exact Nat.le_of_lt hw) (by omega) hi
  rw [e] at o
  refine ⟨W.heap.size, xs.length, xs, t, st, rfl, l1, l2, Nat.le_refl _, ht1, ht, o, ok, ?_, ?_, htx, hiv⟩
  · exact blk_old (heapQ_setO _ _ _ (heapQ_setO _ _ _ h1 (by omega)) (by omega))
  · exact grownQ_ext (grownQ_above (grownQ_above h2 (Nat.le_refl _) _) (Nat.le_refl _) _) ((Ext.refl _).alloc _)
set_option maxRecDepth 100000 in
set_option maxHeartbeats 4000000 in
theorem s_l07DrawV {g : Nat} {ao : Option Addr} {n c : Nat} {bs : List UInt8} {W0 : World} (hbW : U8s W0 ao n bs) (hg : W0.heap.size ≤ g) (B : Nat) (hB : B ≤ 2800000000000000000) (st : Src) (ha : st.Ok B) (w : World) (h : SrcAt w g ao n c st) (e0 : Ext W0 w) :
    Calls Tryz.prog 44 #[.pointer (some ⟨g, 0, none⟩)] w (RetHDv g ao n c 4 8 4 8 (B + 12) w) := by
  have HP := Lib.hid (fun (N : Int) (h1 : 1 ≤ N) (h2 : N ≤ 200) (B : Nat) (hB : B ≤ 2900000000000000000) (st : Src) (ha : st.Ok B) (w : World) (h : SrcAt w g ao n c st) (e0 : Ext W0 w) => s_pickQ N h1 h2 hbW hg B hB st ha w h e0)
  have hgs : g < w.heap.size := h.cells.2.2.2.2.2
  have HGS := Lib.hid hgs
  have HG0 := Lib.hid hg
  have HA := Lib.hid ha
  have HE0 := Lib.hid (e0.alloc (.cells #[.slice none 0 0, .string ⟨#[]⟩] 26))
  have HS0 : Hid (SrcAt (w.alloc (.cells #[.slice none 0 0, .string ⟨#[]⟩] 26)) g ao n c st) := Lib.hid (blk_old h)
  have HB0 := Lib.hid (blk_at w (.cells #[.slice none 0 0, .string ⟨#[]⟩] 26) _ rfl)
  have HGR0 : Hid (w.grownBy (w.alloc (.cells #[.slice none 0 0, .string ⟨#[]⟩] 26)) (some g)) := Lib.hid (World.grownBy_alloc w _ _)
  clear hbW hg ha h e0
  go_enter Tryz.func44, Tryz.ntmps44
  go_wp2_with fail
  refine (HP.out 60 (by decide) (by decide) B (by omega) st HA.out _ HS0.out HE0.out).mono ?_
  rintro e w1 ⟨q1, st1, rfl, a1, a2, OK1, s1, g1⟩
  have HE1 := Lib.hid (extQ_of_src g1 HE0.out HG0.out)
  have HB1 := Lib.hid (blkQ_grown HB0.out g1 (fun e => by have := HGS.out; simp at e; omega))
  have HGR1 := Lib.hid (HGR0.out.trans g1)
  have HS1 := Lib.hid s1
  have HOK1 := Lib.hid OK1
  clear s1 g1 OK1
  go_wp2_with fail
  refine (HP.out 60 (by decide) (by decide) (B + 2) (by omega) st1 HOK1.out _ HS1.out HE1.out).mono ?_
  rintro e w2 ⟨q2, st2, rfl, b1, b2, OK2, s2, g2⟩
  have HE2 := Lib.hid (extQ_of_src g2 HE1.out HG0.out)
  have HB2 := Lib.hid (blkQ_grown HB1.out g2 (fun e => by have := HGS.out; simp at e; omega))
  have HGR2 := Lib.hid (HGR1.out.trans g2)
  have HS2 := Lib.hid s2
  have HOK2 := Lib.hid OK2
  clear s2 g2 OK2
  go_wp2_with fail
  refine (HP.out 8 (by decide) (by decide) (B + 2 + 2) (by omega) st2 HOK2.out _ HS2.out HE2.out).mono ?_
  rintro e w3 ⟨q3, st3, rfl, c1, c2, OK3, s3, g3⟩
  have HE3 := Lib.hid (extQ_of_src g3 HE2.out HG0.out)
  have HB3 := Lib.hid (blkQ_grown HB2.out g3 (fun e => by have := HGS.out; simp at e; omega))
  have HGR3 := Lib.hid (HGR2.out.trans g3)
  have HS3 := Lib.hid s3
  have HOK3 := Lib.hid OK3
  clear s3 g3 OK3
  go_wp2_with fail
  refine (HP.out 8 (by decide) (by decide) (B + 2 + 2 + 2) (by omega) st3 HOK3.out _ HS3.out HE3.out).mono ?_
  rintro e w4 ⟨q4, st4, rfl, d1, d2, OK4, s4, g4⟩
  have HE4 := Lib.hid (extQ_of_src g4 HE3.out HG0.out)
  have HB4 := Lib.hid (blkQ_grown HB3.out g4 (fun e => by have := HGS.out; simp at e; omega))
  have HGR4 := Lib.hid (HGR3.out.trans g4)
  have HS4 := Lib.hid s4
  have HOK4 := Lib.hid OK4
  clear s4 g4 OK4
  go_wp2_with fail
  refine (HP.out 5 (by decide) (by decide) (B + 2 + 2 + 2 + 2) (by omega) st4 HOK4.out _ HS4.out HE4.out).mono ?_
  rintro e w5 ⟨q5, st5, rfl, f1, f2, OK5, s5, g5⟩
  have HE5 := Lib.hid (extQ_of_src g5 HE4.out HG0.out)
  have HB5 := Lib.hid (blkQ_grown HB4.out g5 (fun e => by have := HGS.out; simp at e; omega))
  have HGR5 := Lib.hid (HGR4.out.trans g5)
  have HS5 := Lib.hid s5
  have HOK5 := Lib.hid OK5
  clear s5 g5 OK5
  obtain ⟨r0, r1, r2, r3, r4⟩ := two_cells HB5.out
  have hr := resQ_alloc r0 r1
  have h5 : q5 = 0 ∨ q5 = 1 ∨ q5 = 2 ∨ q5 = 3 ∨ q5 = 4 := by omega
  clear HE0 HS0 HB0 HGR0 HE1 HB1 HGR1 HS1 HOK1 HE2 HB2 HGR2 HS2 HOK2 HE3 HB3 HGR3 HS3 HOK3 HE4 HB4 HGR4 HS4 HOK4
  have HI : Hid (∀ l : List Int, (∀ x ∈ l, 0 ≤ x ∧ x ≤ 200) → ∀ x ∈ l, 0 ≤ x ∧ x ≤ 200) := Lib.hid (fun l hl => hl)
  rcases h5 with rfl | rfl | rfl | rfl | rfl
  · have HR := Lib.hid hr
    clear hr
    go_wp2
    have hr := HR.out
    refine bodyPost_ret (v := .agg #[.slice (some ⟨w5.heap.size, 0, none⟩) 4 4, .string ⟨#[76, 76, 76, 76]⟩]) (by simp [results, Tryz.results44, go_sem, hr]) rfl ?_
    exact hd_end HS5.out HGR5.out HGS.out r4 (HOK5.out.mono (by omega)) [24 + q1, 24 + q2, 24 + q1, 24 + q2] ⟨#[76, 76, 76, 76]⟩ (by simp) (by simp) (by decide) (by decide) (by decide) (by simp; rfl) (HI.out _ (fun x hx => by simp at hx; omega)) _ (by simp) _ rfl _ _
  · have HR := Lib.hid hr
    clear hr
    go_wp2
    have hr := HR.out
    refine bodyPost_ret (v := .agg #[.slice (some ⟨w5.heap.size, 0, none⟩) 6 6, .string ⟨#[76, 76, 76, 82, 76, 76]⟩]) (by simp [results, Tryz.results44, go_sem, hr]) rfl ?_
    exact hd_end HS5.out HGR5.out HGS.out r4 (HOK5.out.mono (by omega)) [24 + q1, 24 + q2, 8 + q3, 8 + q4, 24 + q1 - (8 + q3), 24 + q2 - (8 + q4)] ⟨#[76, 76, 76, 82, 76, 76]⟩ (by simp) (by simp) (by decide) (by decide) (by decide) (by simp; rfl) (HI.out _ (fun x hx => by simp at hx; omega)) _ (by simp) _ rfl _ _
  · have HR := Lib.hid hr
    clear hr
    go_wp2
    have hr := HR.out
    refine bodyPost_ret (v := .agg #[.slice (some ⟨w5.heap.size, 0, none⟩) 6 6, .string ⟨#[76, 76, 82, 76, 76, 76]⟩]) (by simp [results, Tryz.results44, go_sem, hr]) rfl ?_
    exact hd_end HS5.out HGR5.out HGS.out r4 (HOK5.out.mono (by omega)) [24 + q1, 24 + q2, 8 + q3, 8 + q4, 24 + q1 - (8 + q3), 24 + q2 + (8 + q4)] ⟨#[76, 76, 82, 76, 76, 76]⟩ (by simp) (by simp) (by decide) (by decide) (by decide) (by simp; rfl) (HI.out _ (fun x hx => by simp at hx; omega)) _ (by simp) _ rfl _ _
  · have HR := Lib.hid hr
    clear hr
    go_wp2
    have hr := HR.out
    refine bodyPost_ret (v := .agg #[.slice (some ⟨w5.heap.size, 0, none⟩) 8 8, .string ⟨#[82, 76, 76, 82, 76, 76, 76, 76]⟩]) (by simp [results, Tryz.results44, go_sem, hr]) rfl ?_
    exact hd_end HS5.out HGR5.out HGS.out r4 (HOK5.out.mono (by omega)) [8 + (8 + q3), 8, 9 + (8 + q4), 8, 24 + q1, 24 + q2, 17 + (8 + q3) + (8 + q4) + (24 + q1), 24 + q2] ⟨#[82, 76, 76, 82, 76, 76, 76, 76]⟩ (by simp) (by simp) (by decide) (by decide) (by decide) (by simp; rfl) (HI.out _ (fun x hx => by simp at hx; omega)) _ (by simp) _ rfl _ _
  · go_wp2_with fail
    refine (HP.out 4 (by decide) (by decide) (B + 2 + 2 + 2 + 2 + 2) (by omega) st5 HOK5.out _ HS5.out HE5.out).mono ?_
    rintro e w6 ⟨q6, st6, rfl, k1, k2, OK6, s6, g6⟩
    have HB6 := Lib.hid (blkQ_grown HB5.out g6 (fun e => by have := HGS.out; simp at e; omega))
    have HGR6 := Lib.hid (HGR5.out.trans g6)
    have HS6 := Lib.hid s6
    have HOK6 := Lib.hid OK6
    clear s6 g6 OK6 r0 r1 r2 r3 r4 hr
    obtain ⟨r0, r1, r2, r3, r4⟩ := two_cells HB6.out
    have hr := resQ_alloc r0 r1
    have HR := Lib.hid hr
    clear hr
    go_wp2
    have hr := HR.out
    refine bodyPost_ret (v := .agg #[.slice (some ⟨w6.heap.size, 0, none⟩) 8 8, .string ⟨#[76, 76, 76, 82, 82, 76, 76, 76]⟩]) (by simp [results, Tryz.results44, go_sem, hr]) rfl ?_
    exact hd_end HS6.out HGR6.out HGS.out r4 (HOK6.out.mono (by omega)) [60, 30, 20, 26 + 4 * q6, 20, 26 + 4 * q6, 20, 30] ⟨#[76, 76, 76, 82, 82, 76, 76, 76]⟩ (by simp) (by simp) (by decide) (by decide) (by decide) (by simp; rfl) (HI.out _ (fun x hx => by simp at hx; omega)) _ (by simp) _ rfl _ _
theorem s_l07Draw {g : Nat} {ao : Option Addr} {n c : Nat} {bs : List UInt8} {W0 : World} (hbW : U8s W0 ao n bs) (hg : W0.heap.size ≤ g) (B : Nat) (hB : B ≤ 2800000000000000000) (st : Src) (ha : st.Ok B) (w : World) (h : SrcAt w g ao n c st) (e0 : Ext W0 w) :
    Calls Tryz.prog 44 #[.pointer (some ⟨g, 0, none⟩)] w (RetHD g ao n c 4 8 4 8 (B + 12) w) :=
  (s_l07DrawV hbW hg B hB st ha w h e0).mono (fun _ _ h => h.weak)
end Go.Proofs.YtaokeaiehjgbnaaGreatDoor

/- Contracts: a plan of a house that is drawn, and bent seldom. -/
namespace Go.Proofs.YtaokeaiehjgbnaaGreatDoor
open Go.RowKit
set_option linter.unusedSimpArgs false
set_option linter.unusedVariables false
set_option linter.unnecessarySimpa false

theorem ints_ne {E : TypeId} {w : World} {base : Nat} {v : Value} {xs : List Int} (h : OwnInts E w base v xs) {b : Nat} {cs : Array Value} {T : TypeId} {m : Nat × Nat} (hb : w.heap[b]? = some (.cells cs T m)) (hT : T ≠ E) : ∀ j, v.ownBlock = some j → b ≠ j := by
  intro j hj e
  subst e
  rcases h.1.2 with ⟨rfl, _⟩ | ⟨g, cap, cur, rfl, _, hh, _⟩
  · simp [Value.ownBlock] at hj
  · have e : g = b := by simpa [Value.ownBlock] using hj
    subst e
    rw [hh] at hb
    simp only [Option.some.injEq, Obj.cells.injEq] at hb
    exact hT hb.2.1.symm
/-- what stands in memory while a plan is bent -/
structure BH (w : World) (g : Nat) (ao : Option Addr) (n c b3 : Nat) (v : Value) (t : ByteArray) (xs : List Int) (W0 : World) (B : Nat) (st : Src) (W : World) : Prop where
  res : W.heap[w.heap.size]? = some (.cells #[.slice none 0 0, .string ⟨#[]⟩] 26 (0, 0))
  box : W.heap[b3]? = some (.cells #[v, .string t] 26 (0, 0))
  own : OwnInts 2 W w.heap.size v xs
  src : SrcAt W g ao n c st
  gr : w.grownBy W (some g)
  lt : w.heap.size < b3
  gs : g < w.heap.size
  ok : st.Ok B
  ex : Ext W0 W
  w0 : W0.heap.size ≤ g
theorem BH.draw {w : World} {g : Nat} {ao : Option Addr} {n c b3 : Nat} {v : Value} {t : ByteArray} {xs : List Int} {W0 : World} {B B' : Nat} {st st' : Src} {W W' : World} (h : BH w g ao n c b3 v t xs W0 B st W) (hs : SrcAt W' g ao n c st') (hg : W.grownBy W' (some g)) (ok : st'.Ok B') : BH w g ao n c b3 v t xs W0 B' st' W' :=
  have h1 := h.gs
  have h2 := h.lt
  ⟨blkQ_grown h.res hg (fun e => by simp at e; omega), blkQ_grown h.box hg (fun e => by simp at e; omega), h.own.kept hg (fun k hk => by cases hk; exact h.gs), hs, h.gr.trans hg, h.lt, h.gs, ok, extQ_of_src hg h.ex h.w0, h.w0⟩
theorem BH.ext {w : World} {g : Nat} {ao : Option Addr} {n c b3 : Nat} {v : Value} {t : ByteArray} {xs : List Int} {W0 : World} {B : Nat} {st : Src} {W W' : World} (h : BH w g ao n c b3 v t xs W0 B st W) (e : Ext W W') : BH w g ao n c b3 v t xs W0 B st W' :=
  ⟨e.block h.res, e.block h.box, h.own.ext e, e.block h.src, grownQ_ext h.gr e, h.lt, h.gs, h.ok, h.ex.trans e, h.w0⟩
theorem BH.two {w : World} {g : Nat} {ao : Option Addr} {n c b3 : Nat} {v : Value} {t : ByteArray} {xs : List Int} {W0 : World} {B : Nat} {st : Src} {W : World} (h : BH w g ao n c b3 v t xs W0 B st W) : Two W b3 v (.string t) := Two.of h.box
/-- both cells of the plan are written anew -/
theorem BH.put {w : World} {g : Nat} {ao : Option Addr} {n c b3 : Nat} {v : Value} {t : ByteArray} {xs : List Int} {W0 : World} {B : Nat} {st : Src} {W : World} (h : BH w g ao n c b3 v t xs W0 B st W) {v' : Value} {xs' : List Int} (o : OwnInts 2 W w.heap.size v' xs') (t' : ByteArray) (u u' : Value) (hu : (u = v' ∧ u' = .string t')) :
    BH w g ao n c b3 v' t' xs' W0 B st ((W.setCell ⟨b3, 0, none⟩ u).setCell ⟨b3, 1, none⟩ u') := by
  obtain ⟨rfl, rfl⟩ := hu
  have h1 := h.gs
  have h2 := h.lt
  have h3 := h.w0
  have hne := ints_ne o h.box (by decide)
  refine ⟨heapQ_setO _ _ _ (heapQ_setO _ _ _ h.res (by omega)) (by omega), ?_, ⟨ownsRow_setCell_other (ownsRow_setCell_other o.1 hne _) hne _, o.2⟩, heapQ_setO _ _ _ (heapQ_setO _ _ _ h.src (by omega)) (by omega), ?_, h.lt, h.gs, h.ok, ?_, h.w0⟩
  · exact heap_setS _ _ 1 _ (heap_setS _ _ 0 _ h.box)
  · exact grownQ_above (grownQ_above h.gr (by dsimp only; omega) _) (by dsimp only; omega) _
  · exact (h.ex.setCell (by dsimp only; omega) _).setCell (by dsimp only; omega) _
theorem BH.putT {w : World} {g : Nat} {ao : Option Addr} {n c b3 : Nat} {v : Value} {t : ByteArray} {xs : List Int} {W0 : World} {B : Nat} {st : Src} {W : World} (h : BH w g ao n c b3 v t xs W0 B st W) (t' : ByteArray) : BH w g ao n c b3 v t' xs W0 B st (W.setCell ⟨b3, 1, none⟩ (.string t')) := by
  have h1 := h.gs
  have h2 := h.lt
  have h3 := h.w0
  have hne := ints_ne h.own h.box (by decide)
  refine ⟨heapQ_setO _ _ _ h.res (by omega), heap_setS _ _ 1 _ h.box, ⟨ownsRow_setCell_other h.own.1 hne _, h.own.2⟩, heapQ_setO _ _ _ h.src (by omega), ?_, h.lt, h.gs, h.ok, ?_, h.w0⟩
  · exact grownQ_above h.gr (by dsimp only; omega) _
  · exact h.ex.setCell (by dsimp only; omega) _
theorem BH.putV {w : World} {g : Nat} {ao : Option Addr} {n c b3 : Nat} {v : Value} {t : ByteArray} {xs : List Int} {W0 : World} {B : Nat} {st : Src} {W : World} (h : BH w g ao n c b3 v t xs W0 B st W) {v' : Value} {xs' : List Int} (o : OwnInts 2 W w.heap.size v' xs') : BH w g ao n c b3 v' t xs' W0 B st (W.setCell ⟨b3, 0, none⟩ v') := by
  have h1 := h.gs
  have h2 := h.lt
  have h3 := h.w0
  have hne := ints_ne o h.box (by decide)
  refine ⟨heapQ_setO _ _ _ h.res (by omega), heap_setS _ _ 0 _ h.box, ⟨ownsRow_setCell_other o.1 hne _, o.2⟩, heapQ_setO _ _ _ h.src (by omega), ?_, h.lt, h.gs, h.ok, ?_, h.w0⟩
  · exact grownQ_above h.gr (by dsimp only; omega) _
  · exact h.ex.setCell (by dsimp only; omega) _
/-- a side is written anew -/
theorem BH.putX {w : World} {g : Nat} {ao : Option Addr} {n c b3 hb m cap : Nat} {t : ByteArray} {xs : List Int} {W0 : World} {B : Nat} {st : Src} {W : World} (h : BH w g ao n c b3 (.slice (some ⟨hb, 0, none⟩) m cap) t xs W0 B st W) (j : Nat) (z : Int) (hz : IsI64 z) : BH w g ao n c b3 (.slice (some ⟨hb, 0, none⟩) m cap) t (xs.set j z) W0 B st (W.setCell ⟨hb, j, none⟩ (.int .i64 z)) := by
  have h1 := h.gs
  have h2 := h.lt
  have h3 := h.w0
  have hb1 := h.own.blk hb rfl
  have n1 := ints_ne h.own h.box (by decide) hb rfl
  have n2 := ints_ne h.own h.res (by decide) hb rfl
  have hl : xs.length = m := h.own.ints.1
  subst hl
  have hst := (h.own.1.stored j (.int .i64 z)).1
  refine ⟨heapQ_setO _ _ _ h.res n2, heapQ_setO _ _ _ h.box n1, ⟨?_, fun x hx => ?_⟩, heapQ_setO _ _ _ h.src (by omega), ?_, h.lt, h.gs, h.ok, ?_, h.w0⟩
  · rw [List.length_set, List.map_set]; exact hst
  · rcases List.mem_or_eq_of_mem_set hx with h4 | h4
    · exact h.own.2 x h4
    · rw [h4]; exact hz
  · exact grownQ_above h.gr (by dsimp only; omega) _
  · exact h.ex.setCell (by dsimp only; omega) _
theorem BH.row {w : World} {g : Nat} {ao : Option Addr} {n c b3 hb m cap : Nat} {t : ByteArray} {xs : List Int} {W0 : World} {B : Nat} {st : Src} {W : World} (h : BH w g ao n c b3 (.slice (some ⟨hb, 0, none⟩) m cap) t xs W0 B st W) : ∀ j : Nat, j < m → W.cell? ⟨hb, j, none⟩ = some (.int .i64 (xs.getD j 0)) ∧ W.frozen? ⟨hb, j, none⟩ = false := by
  intro j hj
  obtain ⟨b, off, he, hc⟩ := h.own.ints.2.2.1 j hj
  simp only [Option.some.injEq, Addr.mk.injEq, and_true] at he
  obtain ⟨rfl, rfl⟩ := he
  rw [Nat.zero_add] at hc
  have hl : xs.length = m := h.own.ints.1
  subst hl
  exact ⟨hc, h.own.1.frozenAt _⟩
/-- the plan is handed back -/
theorem BH.fin {w : World} {g : Nat} {ao : Option Addr} {n c b3 hb m cap : Nat} {t : ByteArray} {xs : List Int} {W0 : World} {B : Nat} {st : Src} {W : World} (h : BH w g ao n c b3 (.slice (some ⟨hb, 0, none⟩) m cap) t xs W0 B st W) {lo hx tl tu : Nat} (l0 : m ≤ cap) (l1 : lo ≤ m) (l2 : m ≤ hx) (ht1 : tl ≤ t.size) (ht : t.size ≤ tu) (u u' : Value) {B' : Nat} (hB : B ≤ B') :
    RetHD g ao n c lo hx tl tu B' w (.returned (.agg #[.slice (some ⟨hb, 0, none⟩) m cap, .string t])) ((W.setCell ⟨w.heap.size, 0, none⟩ u).setCell ⟨w.heap.size, 1, none⟩ u') := by
  have h1 := h.gs
  have hl : xs.length = m := h.own.ints.1
  subst hl
  have hne := ints_ne h.own h.res (by decide)
  refine ⟨hb, cap, xs, t, st, rfl, l1, l2, l0, ht1, ht, ⟨ownsRow_setCell_other (ownsRow_setCell_other h.own.1 hne _) hne _, h.own.2⟩, h.ok.mono hB, heapQ_setO _ _ _ (heapQ_setO _ _ _ h.src (by omega)) (by omega), ?_⟩
  exact grownQ_above (grownQ_above h.gr (Nat.le_refl _) _) (Nat.le_refl _) _
theorem BH.res2 {w : World} {g : Nat} {ao : Option Addr} {n c b3 : Nat} {v : Value} {t : ByteArray} {xs : List Int} {W0 : World} {B : Nat} {st : Src} {W : World} (h : BH w g ao n c b3 v t xs W0 B st W) : W.cell? ⟨w.heap.size, 0, none⟩ = some (.slice none 0 0) ∧ W.cell? ⟨w.heap.size, 1, none⟩ = some (.string ⟨#[]⟩) ∧ W.cell? ⟨b3, 0, none⟩ = some v ∧ W.cell? ⟨b3, 1, none⟩ = some (.string t) ∧ W.frozen? ⟨w.heap.size, 0, none⟩ = false ∧ W.frozen? ⟨w.heap.size, 1, none⟩ = false ∧ W.frozen? ⟨b3, 0, none⟩ = false ∧ W.frozen? ⟨b3, 1, none⟩ = false := by
  obtain ⟨a1, a2, a3, a4, _⟩ := two_cells h.res
  obtain ⟨c1, c2, c3, c4, _⟩ := two_cells h.box
  exact ⟨a1, a2, c1, c2, a3, a4, c3, c4⟩
theorem BH.putNew {w : World} {g : Nat} {ao : Option Addr} {n c b3 : Nat} {v : Value} {t : ByteArray} {xs : List Int} {W0 : World} {B : Nat} {st : Src} {W : World} (h : BH w g ao n c b3 v t xs W0 B st W) (ys : List Int) (cs : Array Value) (hcs : cs = (ys.map (Value.int .i64)).toArray) (hi : ∀ x ∈ ys, IsI64 x) (k : Nat) (hk : ys.length = k) (hk2 : k ≤ 100) :
    BH w g ao n c b3 (.slice (some ⟨W.heap.size, 0, none⟩) k k) t ys W0 B st ((W.setCell ⟨b3, 0, none⟩ (.slice (some ⟨W.heap.size, 0, none⟩) k k)).alloc (.cells cs 2)) := by
  subst hk
  have hbl := lt_of_block h.box
  have hgl := lt_of_block h.res
  have o := OwnInts.lit (E := 2) (w := W) (base := w.heap.size) ys cs hcs (Nat.le_of_lt hgl) (by omega) hi
  have h2 := (h.ext ((Ext.refl _).alloc (.cells cs 2))).putV o
  rw [World.setCell_alloc_past _ _ _ _ hbl] at h2
  exact h2
theorem BH.finA {w : World} {g : Nat} {ao : Option Addr} {n c b3 hb m cap : Nat} {t : ByteArray} {xs : List Int} {W0 : World} {B : Nat} {st : Src} {W : World} {o : Obj} (h : BH w g ao n c b3 (.slice (some ⟨hb, 0, none⟩) m cap) t xs W0 B st (W.alloc o)) (hl : w.heap.size < W.heap.size) {lo hx tl tu : Nat} (l0 : m ≤ cap) (l1 : lo ≤ m) (l2 : m ≤ hx) (ht1 : tl ≤ t.size) (ht : t.size ≤ tu) (u u' : Value) {B' : Nat} (hB : B ≤ B') :
    RetHD g ao n c lo hx tl tu B' w (.returned (.agg #[.slice (some ⟨hb, 0, none⟩) m cap, .string t])) (((W.setCell ⟨w.heap.size, 0, none⟩ u).setCell ⟨w.heap.size, 1, none⟩ u').alloc o) := by
  have h2 := h.fin l0 l1 l2 ht1 ht u u' hB
  rw [World.setCell_alloc_past _ _ _ _ hl, World.setCell_alloc_past _ _ _ _ (by simp [World.setCell]; exact hl)] at h2
  exact h2
/-- numbers are appended to the sides -/
theorem wpList_append_intsG {w0 w : World} {ops : Array Oper} {rest : List Oper} {o : Oper} {a : Act} {Q : Exit → Act → World → Prop} (hgd : o.guard = none) (s x : Operand)
    (ho : o.op = .call { callee := .builtin .append, args := #[s, x], argTypes := #[24, 24] })
    (v : Value) (xs ys : List Int) (cs : Array Value) (hcs : cs = (ys.map (Value.int .i64)).toArray) (hi : ∀ x ∈ ys, IsI64 x) (k : Nat) (hk : ys.length = k) (hk2 : k ≤ 100) (base : Nat) (hs : a.eval s = v) (hw : w = w0.alloc (.cells cs 2)) (hx : a.eval x = .slice (some ⟨w0.heap.size, 0, none⟩) k k)
    (hown : OwnInts 2 w0 base v xs) (hb : base ≤ w0.heap.size) (hlen : xs.length ≤ 1000000)
    (h : ∀ v' w', OwnInts 2 w' base v' (xs ++ ys) → w0.grownBy w' v.ownBlock → wpList Tryz.prog ops Q rest (a.put o.dst v') w') : wpList Tryz.prog ops Q (o :: rest) a w := by
  obtain ⟨i0, h0, hz0, hz1, hz2⟩ := info_parts info_i64
  subst hw hk
  have hY := (OwnInts.lit (E := 2) (w := w0) (base := w0.heap.size) ys cs hcs (Nat.le_refl _) (by omega) hi).ints
  refine wpList_append_own _ hgd s x 24 ho base 2 i0 (.int .i64 0) 1 8 Tryz.underlying24 h0 hz0 hz1 hz2 rfl (by decide) v xs.length (xs.map (Value.int .i64)) hs (hown.1.alloc _)
    ⟨w0.heap.size, 0, none⟩ ys.length ys.length (ys.map (Value.int .i64)) hx (by simp) (ints_news hY) ints_one (by unfold maxLen; omega) (by omega) (by simp; omega) ?_
  intro v' w' ho' hg _
  exact h v' w' (cat_own ho' rfl rfl hown.2 hi) ((World.grownBy_alloc w0 _ _).trans hg)
/-- behind an append to the sides -/
theorem BH.app {w : World} {g : Nat} {ao : Option Addr} {n c b3 : Nat} {v : Value} {t : ByteArray} {xs : List Int} {W0 : World} {B : Nat} {st : Src} {W W' : World} (h : BH w g ao n c b3 v t xs W0 B st W) (hg : W.grownBy W' v.ownBlock) {v' : Value} {ys : List Int} (o : OwnInts 2 W' w.heap.size v' ys) :
    BH w g ao n c b3 v' t ys W0 B st (W'.setCell ⟨b3, 0, none⟩ v') ∧ W'.heap[w.heap.size]? = some (.cells #[.slice none 0 0, .string ⟨#[]⟩] 26 (0, 0)) ∧ W'.heap[b3]? = some (.cells #[v, .string t] 26 (0, 0)) := by
  have h1 := h.gs
  have h2 := h.lt
  have h3 := h.w0
  have n1 := ints_ne h.own h.box (by decide)
  have n2 := ints_ne h.own h.res (by decide)
  have n3 := fun j hj => (h.own.1.lt j hj).1
  have hres := blkQ_grown h.res hg (fun e => n2 _ e.symm rfl)
  have hbox := blkQ_grown h.box hg (fun e => n1 _ e.symm rfl)
  have hne := ints_ne o hbox (by decide)
  refine ⟨⟨heapQ_setO _ _ _ hres (by omega), heap_setS _ _ 0 _ hbox, ⟨ownsRow_setCell_other o.1 hne _, o.2⟩, heapQ_setO _ _ _ (blkQ_grown h.src hg (fun e => by have := n3 g e.symm; omega)) (by omega), ?_, h.lt, h.gs, h.ok, ?_, h.w0⟩, hres, hbox⟩
  · exact grownQ_above (grownQ_then h.gr hg (fun j hj => n3 j hj)) (by dsimp only; omega) _
  · exact (h.ex.grown hg (fun j hj => by have := n3 j hj; omega)).setCell (by dsimp only; omega) _
theorem strs_lit {w : World} (ss : List ByteArray) (cs : Array Value) (hcs : cs = (ss.map Value.string).toArray) (hl : ss.length ≤ 1000) (hi : ∀ s ∈ ss, s.size ≤ 9223372036854775807) : Strs (w.alloc (.cells cs 9)) (some ⟨w.heap.size, 0, none⟩) ss.length ss := by
  subst hcs
  refine ⟨rfl, by omega, fun i h => ⟨w.heap.size, 0, rfl, ?_⟩, hi⟩
  have hb := heap_alloc_new w (.cells (ss.map Value.string).toArray 9)
  simp only [World.cell?, hb]
  simp [h, List.getD_eq_getElem?_getD]
theorem pickBH {w : World} {g : Nat} {ao : Option Addr} {n c b3 : Nat} {bs : List UInt8} {v : Value} {t : ByteArray} {xs : List Int} {W0 : World} (hbW : U8s W0 ao n bs) (N : Int) (h1 : 1 ≤ N) (h2 : N ≤ 200) {B : Nat} {st : Src} {W : World} (h : BH w g ao n c b3 v t xs W0 B st W) (hB : B ≤ 2900000000000000000) :
    Calls Tryz.prog 50 #[.pointer (some ⟨g, 0, none⟩), .int .i64 N] W (fun e w' => ∃ q st', e = .returned (.int .i64 q) ∧ 0 ≤ q ∧ q < N ∧ BH w g ao n c b3 v t xs W0 (B + 2) st' w' ∧ W.grownBy w' (some g)) := by
  refine (s_pickQ N h1 h2 hbW h.w0 B hB st h.ok W h.src h.ex).mono ?_
  rintro e w' ⟨q, st', rfl, a, b, ok, s1, g1⟩
  exact ⟨q, st', rfl, a, b, h.draw s1 g1 ok, g1⟩
theorem oneBH {w : World} {g : Nat} {ao : Option Addr} {n c b3 : Nat} {bs : List UInt8} {v : Value} {t : ByteArray} {xs : List Int} {W0 : World} (hbW : U8s W0 ao n bs) (N : Int) (h1 : 1 ≤ N) (h2 : N ≤ 200) {B : Nat} {st : Src} {W : World} (h : BH w g ao n c b3 v t xs W0 B st W) (hB : B ≤ 2900000000000000000) :
    Calls Tryz.prog 46 #[.pointer (some ⟨g, 0, none⟩), .int .i64 N] W (fun e w' => ∃ b st', e = .returned (.bool b) ∧ BH w g ao n c b3 v t xs W0 (B + 2) st' w') := by
  refine (s_oneQ N h1 h2 hbW h.w0 B hB st h.ok W h.src h.ex).mono ?_
  rintro e w' ⟨b, st', rfl, ok, s1, g1⟩
  exact ⟨b, st', rfl, h.draw s1 g1 ok⟩
theorem lit_ints {W : World} (ys : List Int) (cs : Array Value) (hcs : cs = (ys.map (Value.int .i64)).toArray) (hi : ∀ x ∈ ys, IsI64 x) (m : Nat) (hm : ys.length = m) (hm2 : m ≤ 200) (k : Nat) (hk : k = W.heap.size) : Ints (W.alloc (.cells cs 2)) (some ⟨k, 0, none⟩) m ys := by
  subst hk hm
  exact (OwnInts.lit (E := 2) (w := W) (base := W.heap.size) ys cs hcs (Nat.le_refl _) (by omega) hi).ints
theorem Ints.grown {W w' : World} {g k m : Nat} {ys : List Int} (h : Ints W (some ⟨k, 0, none⟩) m ys) (hg : W.grownBy w' (some g)) (hk : k ≠ g) : Ints w' (some ⟨k, 0, none⟩) m ys := by
  refine ⟨h.1, h.2.1, fun i hi => ?_, h.2.2.2⟩
  obtain ⟨b, off, he, hc⟩ := h.2.2.1 i hi
  simp only [Option.some.injEq, Addr.mk.injEq, and_true] at he
  obtain ⟨rfl, rfl⟩ := he
  exact ⟨k, 0, rfl, cell_grown hc hg (fun e => hk (by simpa using e))⟩
theorem amongBH {w : World} {g : Nat} {ao : Option Addr} {n c b3 : Nat} {bs : List UInt8} {v : Value} {t : ByteArray} {xs : List Int} {W0 : World} (hbW : U8s W0 ao n bs) (ys : List Int) (m : Nat) (hm1 : 1 ≤ m) (hm2 : m ≤ 200) (k : Nat) {B : Nat} {st : Src} {W : World} (h : BH w g ao n c b3 v t xs W0 B st W) (hI : Ints W (some ⟨k, 0, none⟩) m ys) (hk : k ≠ g) (hB : B ≤ 2900000000000000000) :
    Calls Tryz.prog 59 #[.pointer (some ⟨g, 0, none⟩), .slice (some ⟨k, 0, none⟩) m m] W (fun e w' => ∃ x st', e = .returned (.int .i64 x) ∧ x ∈ ys ∧ BH w g ao n c b3 v t xs W0 (B + 2) st' w') := by
  refine (s_amongQ hbW h.w0 B hB st h.ok _ h.src h.ex k m m ys hI hk hm1 hm2).mono ?_
  rintro e w' ⟨x, st', rfl, hx, ok, s1, g1⟩
  exact ⟨x, st', rfl, hx, h.draw s1 g1 ok⟩
theorem textBH {w : World} {g : Nat} {ao : Option Addr} {n c b3 : Nat} {bs : List UInt8} {v : Value} {t : ByteArray} {xs : List Int} {W0 : World} (hbW : U8s W0 ao n bs) (ss : List ByteArray) (cs : Array Value) (hcs : cs = (ss.map Value.string).toArray) (hi : ∀ x ∈ ss, x.size ≤ 4) (m : Nat) (hm : ss.length = m) (hm1 : 1 ≤ m) (hm2 : m ≤ 200) {B : Nat} {st : Src} {W : World} (h : BH w g ao n c b3 v t xs W0 B st W) (hB : B ≤ 2900000000000000000) (k : Nat) (hk : k = W.heap.size) :
    Calls Tryz.prog 71 #[.pointer (some ⟨g, 0, none⟩), .slice (some ⟨k, 0, none⟩) m m] (W.alloc (.cells cs 9)) (fun e w' => ∃ x st', e = .returned (.string x) ∧ x.size ≤ 4 ∧ BH w g ao n c b3 v t xs W0 (B + 2) st' w') := by
  subst hk hm
  have hW := h.ext ((Ext.refl W).alloc (.cells cs 9))
  have hg1 := h.gs
  have hg2 := lt_of_block h.res
  have hI := strs_lit (w := W) ss cs hcs (by omega) (fun s hs => by have := hi s hs; omega)
  have hbd := pickV_bd bs st ss.length
  refine (s_text g ao n c bs st (some ⟨W.heap.size, 0, none⟩) ss.length ss.length ss _ hW.src W0 hW.ex hbW h.w0 (h.ok.mono (by omega)) hI (fun a ha => by cases ha; dsimp only; omega) hm1 hm2).mono ?_
  rintro e w' ⟨rfl, s1, g1⟩
  refine ⟨_, _, rfl, ?_, hW.draw s1 g1 (pickS_ok h.ok)⟩
  obtain ⟨b1, b2⟩ := hbd
  have b3 := b2 (by omega)
  refine hi _ ?_
  rw [List.getD_eq_getElem?_getD, List.getElem?_eq_getElem (by omega)]
  exact List.getElem_mem _
end Go.Proofs.YtaokeaiehjgbnaaGreatDoor

/- Contracts: a plan of a house that is bent seldom: the walk. -/
namespace Go.Proofs.YtaokeaiehjgbnaaGreatDoor
open Go.RowKit
set_option linter.unusedSimpArgs false
set_option linter.unusedVariables false
set_option linter.unnecessarySimpa false

theorem BH.first {g : Nat} {ao : Option Addr} {n c hb m cap B : Nat} {st : Src} {xs : List Int} {t : ByteArray} {W0 w w1 : World} {o : Obj} (ho : o = .cells #[.slice none 0 0, .string ⟨#[]⟩] 26) (hm : xs.length = m) (gs : g < w.heap.size) (w0 : W0.heap.size ≤ g) (e0 : Ext W0 w) (o1 : OwnInts 2 w1 (w.alloc o).heap.size (.slice (some ⟨hb, 0, none⟩) m cap) xs) (ok : st.Ok B) (s1 : SrcAt w1 g ao n c st) (g1 : (w.alloc o).grownBy w1 (some g)) :
    BH w g ao n c w1.heap.size (.slice (some ⟨hb, 0, none⟩) m cap) t xs W0 B st (w1.alloc (.cells #[.slice (some ⟨hb, 0, none⟩) m cap, .string t] 26)) := by
  subst ho
  have hr := blkQ_grown (blk_at w (.cells #[.slice none 0 0, .string ⟨#[]⟩] 26) _ rfl) g1 (fun e => by simp at e; omega)
  refine ⟨blk_old hr, blk_at _ _ _ rfl, (o1.mono (by simp)).ext ((Ext.refl _).alloc _), blk_old s1, grownQ_ext ((World.grownBy_alloc w _ _).trans g1) ((Ext.refl _).alloc _), lt_of_block hr, gs, ok, ?_, w0⟩
  exact (extQ_of_src g1 (e0.alloc _) w0).alloc _
theorem own_shape {E : TypeId} {w : World} {base : Nat} {v : Value} {xs : List Int} (h : OwnInts E w base v xs) (hx : xs ≠ []) (N : Nat) (hN : xs.length = N) : ∃ k cap, v = .slice (some ⟨k, 0, none⟩) N cap ∧ N ≤ cap := by
  subst hN
  rcases h.1.2 with ⟨_, h0⟩ | ⟨g, cap, cur, hv, _, _, hc, _⟩
  · exact absurd (List.eq_nil_of_length_eq_zero h0) hx
  · exact ⟨g, cap, hv, hc⟩
def six : List Int := [-1, 7, 8, 200, 201, -9223372036854775808]
theorem six_ok : ∀ x ∈ six, IsI64 x := fun x hx => by
  simp [six] at hx
  unfold IsI64
  omega
set_option maxRecDepth 100000 in
set_option maxHeartbeats 8000000 in
theorem s_l07Bent {g : Nat} {ao : Option Addr} {n c : Nat} {bs : List UInt8} {W0 : World} (hbW : U8s W0 ao n bs) (hg : W0.heap.size ≤ g) (B : Nat) (hB : B ≤ 2700000000000000000) (st : Src) (ha : st.Ok B) (w : World) (h : SrcAt w g ao n c st) (e0 : Ext W0 w) :
    Calls Tryz.prog 58 #[.pointer (some ⟨g, 0, none⟩)] w (RetHD g ao n c 4 14 0 20 (B + 40) w) := by
  have HD := Lib.hid (fun w1 (h1 : SrcAt w1 g ao n c st) (e1 : Ext W0 w1) => s_l07Draw hbW hg B (by omega) st ha w1 h1 e1)
  have hgs : g < w.heap.size := h.cells.2.2.2.2.2
  have HGS := Lib.hid hgs
  have HG0 := Lib.hid hg
  have HW := Lib.hid hbW
  have HE := Lib.hid e0
  have HS0 : Hid (SrcAt (w.alloc (.cells #[.slice none 0 0, .string ⟨#[]⟩] 26)) g ao n c st) := Lib.hid (blk_old h)
  clear hbW hg ha h e0
  go_enter Tryz.func58, Tryz.ntmps58
  go_wp2_with fail
  refine (HD.out _ HS0.out (HE.out.alloc _)).mono ?_
  rintro e w1 ⟨hb, cap, xs, t, st1, rfl, l1, l2, l0, t1, t2, o1, OK1, s1, g1⟩
  obtain ⟨m, hm⟩ : ∃ m, xs.length = m := ⟨_, rfl⟩
  rw [hm] at l0 l1 l2 o1
  rw [hm]
  have HM := Lib.hid hm
  have HB1 := Lib.hid (BH.first (t := t) rfl hm HGS.out HG0.out HE.out o1 OK1 s1 g1)
  clear o1 OK1 s1 g1 hm
  go_wp2_with fail
  refine (pickBH HW.out 20 (by decide) (by decide) HB1.out (by omega)).mono ?_
  rintro e w2 ⟨q, st2, rfl, q1, q2, bh2, _⟩
  have HB2 := Lib.hid bh2
  obtain ⟨r0, r1, r2, r3, r4, r5, r6, r7⟩ := bh2.res2
  have hr := fun u v => resQ_two u v r0 r1
  have HR := Lib.hid hr
  have h12 : w.heap.size < w1.heap.size := bh2.lt
  clear hr bh2 HS0 HD HB1
  have hq : q = 0 ∨ q = 1 ∨ q = 2 ∨ q = 3 ∨ q = 4 ∨ q = 5 ∨ 6 ≤ q := by omega
  rcases hq with rfl | rfl | rfl | rfl | rfl | rfl | hq
  · have HT := r2
    have hmI : (m : Int) ≤ (cap : Int) := by omega
    have BH2 := HB2.out
    have w1e : ∀ W, Ext w2 W → Ext w2 W := fun W h => h
    clear r0 r1 r4 r5
    go_wp2
    go_region_held3 (fun W => W.cell? ⟨w1.heap.size, 0, none⟩ = some (.slice (some ⟨hb, 0, none⟩) m cap)) (first | exact (BH.two (BH.ext BH2 (Ext.refl _).drew)).1 | exact (BH.two (by assumption)).1 | exact (BH.two (BH.ext (by assumption) ((Ext.refl _).alloc _))).1 | exact (BH.two (BH.putX (by assumption) _ _ (by assumption))).1) (first
      | (go_at_call 50; refine (pickBH HW.out (m : Int) (by omega) (by omega) (by first | assumption | exact BH.ext BH2 (Ext.refl _).drew | exact BH.ext BH2 ((Ext.refl _).drew.alloc _)) (by omega)).mono ?_; rintro e w3 ⟨q3, st3, rfl, z1, z2, bh3, g3⟩; obtain ⟨j, rfl⟩ := Int.eq_ofNat_of_zero_le z1; have hj : j < m := (by omega); (try (have hI3 := Ints.grown (k := w2.heap.size) (m := 6) (ys := six) (by first | exact lit_ints six _ rfl six_ok 6 rfl (by decide) _ rfl | exact Ints.ext (lit_ints (W := w2) six _ rfl six_ok 6 rfl (by decide) _ rfl) (Ext.refl _).drew) g3 (by have := lt_of_block BH2.res; omega))); clear g3; have hw3 := (bh3.row j hj).1; have hf3 := (bh3.row j hj).2)
      | (go_at_call 59; refine (amongBH HW.out six 6 (by decide) (by decide) _ (by first | assumption | exact BH.ext (by assumption) ((Ext.refl _).alloc _)) (by first | assumption | exact lit_ints six _ (by rfl) six_ok 6 rfl (by decide) _ rfl) (by have := lt_of_block BH2.res; have := lt_of_block bh3.res; omega) (by omega)).mono ?_; rintro e w4 ⟨x, st4, rfl, hx, bh4⟩; have hx6 := six_ok x hx; clear hx; have hw4 := (bh4.row j hj).1; have hf4 := (bh4.row j hj).2))
    all_goals
      have bh5 := BH.putX bh4 j x hx6
      obtain ⟨p0, p1, p2, p3, p4, p5, p6, p7⟩ := bh5.res2
      have HR5 := Lib.hid (fun u v => resQ_two u v p0 p1)
      have HB5 := Lib.hid bh5
      clear bh5 BH2 bh4 hx6 HR
      go_wp2
      have hr := HR5.out
      refine bodyPost_ret (v := .agg #[.slice (some ⟨hb, 0, none⟩) m cap, .string t]) (by simp [results, Tryz.results58, go_sem, hr]) rfl ?_
      exact HB5.out.fin l0 (by omega) (by omega) (by omega) (by omega) _ _ (by omega)
  · have k1 : (1 : Int) ≤ (t.size : Int) := by omega
    have bh5 := BH.putT HB2.out (t.extract 1 t.size)
    obtain ⟨p0, p1, p2, p3, p4, p5, p6, p7⟩ := bh5.res2
    have HR5 := Lib.hid (fun u v => resQ_two u v p0 p1)
    have HB5 := Lib.hid bh5
    clear bh5 HR
    go_wp2
    have hr := HR5.out
    refine bodyPost_ret (v := .agg #[.slice (some ⟨hb, 0, none⟩) m cap, .string (t.extract 1 t.size)]) (by simp [results, Tryz.results58, go_sem, hr]) rfl ?_
    exact HB5.out.fin l0 (by omega) (by omega) (by omega) (by simp; omega) _ _ (by omega)
  · have k1 : (4 : Int) ≤ (t.size : Int) := by omega
    have BH2 := HB2.out
    have hlt2 := lt_of_block BH2.box
    clear r0 r1 r4 r5
    go_wp2
    go_region_with (first
      | (go_at_call 71; refine (textBH HW.out [⟨#[82, 82, 82, 82]⟩, ⟨#[76, 76, 76, 88]⟩, ⟨#[76, 76, 76, 82]⟩] _ (by rfl) (by decide) 3 rfl (by decide) (by decide) (by first | exact BH.ext BH2 (Ext.refl _).drew) (by omega) _ (by rfl)).mono ?_; rintro e w3 ⟨y, st3, rfl, hy, bh3⟩; have hcat : ¬ (9223372036854775807 < y.size + (t.size - 4)) := (by omega); have bh5 := BH.putT bh3 (y ++ t.extract 4 t.size); obtain ⟨u0, u1, u2, u3, u4, u5, u6, u7⟩ := bh3.res2; obtain ⟨p0, p1, p2, p3, p4, p5, p6, p7⟩ := bh5.res2; have HR5 := Lib.hid (fun u v => resQ_two u v p0 p1); have HB5 := Lib.hid bh5; clear bh5 bh3))
    all_goals
      go_wp2
      have hr := HR5.out
      refine bodyPost_ret (v := .agg #[.slice (some ⟨hb, 0, none⟩) m cap, .string (y ++ t.extract 4 t.size)]) (by simp [results, Tryz.results58, go_sem, hr]) rfl ?_
      exact HB5.out.fin l0 (by omega) (by omega) (by omega) (by simp; omega) _ _ (by omega)
  · have hl : xs.length ≤ 1000000 := by have := HM.out; omega
    have hlt := lt_of_block HB2.out.res
    have hcat : ¬ (9223372036854775807 < t.size + 1) := by omega
    go_wp2_with (at_builtin; refine wpList_append_intsG rfl _ _ rfl _ xs [8] _ (by rfl) (by intro x hx; simp at hx; unfold IsI64; omega) 1 rfl (by decide) w.heap.size rfl rfl rfl HB2.out.own (Nat.le_of_lt hlt) hl ?_; intro v' w3 ho3 hg3; obtain ⟨k3, c3, rfl, hc3⟩ := own_shape ho3 (by simp) (m + 1) (by simp [HM.out]); obtain ⟨bh3, hres3, hbox3⟩ := HB2.out.app hg3 ho3; obtain ⟨x0, x1, x4, x5, _⟩ := two_cells hres3; obtain ⟨v2, v3, v6, v7, _⟩ := two_cells hbox3; have bh5 := BH.putT bh3 (t ++ ⟨#[76]⟩); obtain ⟨p0, p1, p2, p3, p4, p5, p6, p7⟩ := bh5.res2; have HR5 := Lib.hid (fun u v => resQ_two u v p0 p1); have HB5 := Lib.hid bh5; have HC3 := Lib.hid hc3; clear bh3 hg3 ho3 hres3 hbox3 bh5 hc3)
    have hr := HR5.out
    refine bodyPost_ret (v := .agg #[.slice (some ⟨k3, 0, none⟩) (m + 1) c3, .string (t ++ ⟨#[76]⟩)]) (by simp [results, Tryz.results58, go_sem, hr]) rfl ?_
    exact HB5.out.fin HC3.out (by omega) (by omega) (by omega) (by have e1 : (⟨#[76]⟩ : ByteArray).size = 1 := rfl; simp; omega) _ _ (by omega)
  · have bh5 := BH.putT (BH.putNew HB2.out [200, 8, 200, 8] _ rfl (by intro x hx; simp at hx; unfold IsI64; omega) 4 rfl (by decide)) ⟨#[76, 76, 76, 76]⟩
    rw [World.setCell_alloc_past _ _ _ _ (by simp only [World.setCell, Array.size_modify]; exact lt_of_block HB2.out.box)] at bh5
    have hr := HR.out
    have hlt := lt_of_block HB2.out.res
    have hlt2 := lt_of_block HB2.out.box
    have hne1 : ∀ i j, (⟨w1.heap.size, i, none⟩ : Addr) ≠ ⟨w.heap.size, j, none⟩ := fun i j e => by injection e; omega
    have HR5 := Lib.hid (fun u v o => resQ_alloc (o := o) (w1 := (w2.setCell ⟨w1.heap.size, 0, none⟩ (.slice (some ⟨w2.heap.size, 0, none⟩) 4 4)).setCell ⟨w1.heap.size, 1, none⟩ (.string ⟨#[76, 76, 76, 76]⟩)) (b := w.heap.size) (x := .slice none 0 0) (y := .string ⟨#[]⟩) (by rw [World.cell?_setCell_other _ _ _ _ (hne1 _ _), World.cell?_setCell_other _ _ _ _ (hne1 _ _)]; exact r0) (by rw [World.cell?_setCell_other _ _ _ _ (hne1 _ _), World.cell?_setCell_other _ _ _ _ (hne1 _ _)]; exact r1) u v)
    have HB5 := Lib.hid bh5
    clear bh5 hr
    go_wp2
    have hr := HR5.out
    refine bodyPost_ret (v := .agg #[.slice (some ⟨w2.heap.size, 0, none⟩) 4 4, .string ⟨#[76, 76, 76, 76]⟩]) (by simp [results, Tryz.results58, go_sem, hr]) rfl ?_
    exact HB5.out.finA (by simp [World.setCell]; exact hlt) (by omega) (by omega) (by omega) (by decide) (by decide) _ _ (by omega)
  · have e0 : (⟨#[76, 76, 82, 76, 82, 76, 82, 76, 82, 76, 76, 76]⟩ : ByteArray).size = 12 := rfl
    have hlt := lt_of_block HB2.out.res
    have hlt2 := lt_of_block HB2.out.box
    have bh4 := BH.putNew (BH.put HB2.out (OwnInts.nilv 2 w2 w.heap.size) ⟨#[76, 76, 82, 76, 82, 76, 82, 76, 82, 76, 76, 76]⟩ (.slice none 0 0) (.string ⟨#[76, 76, 82, 76, 82, 76, 82, 76, 82, 76, 76, 76]⟩) ⟨rfl, rfl⟩) [40, 18, 8, 10, 8, 10, 8, 10, 8, 10, 8, 58] _ rfl (by intro x hx; simp at hx; unfold IsI64; omega) 12 rfl (by decide)
    rw [show ((w2.setCell ⟨w1.heap.size, 0, none⟩ (.slice none 0 0)).setCell ⟨w1.heap.size, 1, none⟩ (.string ⟨#[76, 76, 82, 76, 82, 76, 82, 76, 82, 76, 76, 76]⟩)).heap.size = w2.heap.size by simp only [World.setCell, Array.size_modify]] at bh4
    have HB4 := Lib.hid bh4
    have HE0 := Lib.hid e0
    clear bh4 HR e0
    go_wp2_with fail
    refine (oneBH HW.out 2 (by decide) (by decide) HB4.out (by omega)).mono ?_
    rintro e w5 ⟨bl, st5, rfl, bh5⟩
    have HB5 := Lib.hid bh5
    obtain ⟨p0, p1, p2, p3, p4, p5, p6, p7⟩ := bh5.res2
    have h5 := lt_of_block bh5.res
    clear bh5 r0 r1 r2 r3 r4 r5 r6 r7
    cases bl
    · have HR5 := Lib.hid (fun u v => resQ_two u v p0 p1)
      go_wp2
      have hr := HR5.out
      refine bodyPost_ret (v := .agg #[.slice (some ⟨w2.heap.size, 0, none⟩) 12 12, .string ⟨#[76, 76, 82, 76, 82, 76, 82, 76, 82, 76, 76, 76]⟩]) (by simp [results, Tryz.results58, go_sem, hr]) rfl ?_
      exact HB5.out.fin (by omega) (by omega) (by omega) (by omega) (by rw [HE0.out]; decide) _ _ (by omega)
    · go_wp2_with (at_builtin; (refine wpList_append_intsG rfl _ _ rfl _ [40, 18, 8, 10, 8, 10, 8, 10, 8, 10, 8, 58] [8, 8] _ (by rfl) (by intro x hx; simp at hx; unfold IsI64; omega) 2 rfl (by decide) w.heap.size rfl rfl rfl HB5.out.own (Nat.le_of_lt h5) (by decide) ?_; intro v' w6 ho6 hg6; obtain ⟨k6, c6, rfl, hc6⟩ := own_shape ho6 (by simp) 14 rfl; obtain ⟨bh6, hres6, hbox6⟩ := HB5.out.app hg6 ho6; obtain ⟨x0, x1, x4, x5, _⟩ := two_cells hres6; obtain ⟨v2, v3, v6, v7, _⟩ := two_cells hbox6; have bh7 := BH.putT bh6 (⟨#[76, 76, 82, 76, 82, 76, 82, 76, 82, 76, 76, 76]⟩ ++ ⟨#[76, 82]⟩); obtain ⟨y0, y1, y2, y3, y4, y5, y6, y7⟩ := bh7.res2; have HR7 := Lib.hid (fun u v => resQ_two u v y0 y1); have HB7 := Lib.hid bh7; have HC6 := Lib.hid hc6; clear bh6 hg6 ho6 hres6 hbox6 bh7 hc6))
      have hr := HR7.out
      refine bodyPost_ret (v := .agg #[.slice (some ⟨k6, 0, none⟩) 14 c6, .string (⟨#[76, 76, 82, 76, 82, 76, 82, 76, 82, 76, 76, 76]⟩ ++ ⟨#[76, 82]⟩)]) (by simp [results, Tryz.results58, go_sem, hr]) rfl ?_
      exact HB7.out.fin HC6.out (by omega) (by omega) (by omega) (by decide) _ _ (by omega)
  · have k0 : (q == 0) = false := by simp; omega
    have k1 : (q == 1) = false := by simp; omega
    have k2 : (q == 2) = false := by simp; omega
    have k3 : (q == 3) = false := by simp; omega
    have k4 : (q == 4) = false := by simp; omega
    have k5 : (q == 5) = false := by simp; omega
    go_wp2
    have hr := HR.out
    refine bodyPost_ret (v := .agg #[.slice (some ⟨hb, 0, none⟩) m cap, .string t]) (by simp [results, Tryz.results58, go_sem, hr]) rfl ?_
    exact HB2.out.fin l0 (by omega) (by omega) (by omega) (by omega) _ _ (by omega)
end Go.Proofs.YtaokeaiehjgbnaaGreatDoor

/- Contracts: a question about a plan is drawn: a plan, a side, a course. -/
namespace Go.Proofs.YtaokeaiehjgbnaaGreatDoor
open Go.RowKit
set_option linter.unusedSimpArgs false
set_option linter.unusedVariables false
set_option linter.unnecessarySimpa false

/-- what stands in memory while a question is drawn -/
structure AH (w : World) (ao : Option Addr) (n c b : Nat) (v : Value) (t : ByteArray) (xs : List Int) (B : Nat) (st : Src) (W : World) : Prop where
  res : W.heap[w.heap.size]? = some (.cells #[.slice none 0 0, .string ⟨#[]⟩] 26 (0, 0))
  box : W.heap[b]? = some (.cells #[v, .string t] 26 (0, 0))
  own : OwnInts 2 W (w.heap.size + 2) v xs
  src : SrcAt W (w.heap.size + 1) ao n c st
  ex : Ext w W
  lt : w.heap.size + 1 < b
  ok : st.Ok B
theorem AH.draw {w : World} {ao : Option Addr} {n c b : Nat} {v : Value} {t : ByteArray} {xs : List Int} {B B' : Nat} {st st' : Src} {W W' : World} (h : AH w ao n c b v t xs B st W) (hs : SrcAt W' (w.heap.size + 1) ao n c st') (hg : W.grownBy W' (some (w.heap.size + 1))) (ok : st'.Ok B') : AH w ao n c b v t xs B' st' W' :=
  have h2 := h.lt
  ⟨blkQ_grown h.res hg (fun e => by simp at e), blkQ_grown h.box hg (fun e => by simp at e; omega), h.own.kept hg (fun k hk => by cases hk; omega), hs, h.ex.grown hg (fun k hk => by cases hk; omega), h.lt, ok⟩
theorem AH.ext {w : World} {ao : Option Addr} {n c b : Nat} {v : Value} {t : ByteArray} {xs : List Int} {B : Nat} {st : Src} {W W' : World} (h : AH w ao n c b v t xs B st W) (e : Ext W W') : AH w ao n c b v t xs B st W' :=
  ⟨e.block h.res, e.block h.box, h.own.ext e, e.block h.src, h.ex.trans e, h.lt, h.ok⟩
theorem AH.two {w : World} {ao : Option Addr} {n c b : Nat} {v : Value} {t : ByteArray} {xs : List Int} {B : Nat} {st : Src} {W : World} (h : AH w ao n c b v t xs B st W) : Two W b v (.string t) := Two.of h.box
theorem AH.two2 {w : World} {ao : Option Addr} {n c b : Nat} {v : Value} {t : ByteArray} {xs : List Int} {B : Nat} {st : Src} {W : World} (h : AH w ao n c b v t xs B st W) (u u' : Value) : Two ((W.setCell ⟨w.heap.size, 0, none⟩ u).setCell ⟨w.heap.size, 1, none⟩ u') b v (.string t) := by
  have h2 := h.lt
  exact Two.of (heapQ_setO _ _ _ (heapQ_setO _ _ _ h.box (by omega)) (by omega))
/-- a plan, a side and a course are handed back -/
def AskF (lo hx tu : Nat) (w : World) (v : Value) (t : ByteArray) (xs : List Int) (W : World) : Prop :=
  ∃ hb cap, v = .slice (some ⟨hb, 0, none⟩) xs.length cap ∧ lo ≤ xs.length ∧ xs.length ≤ hx ∧ xs.length ≤ cap ∧ t.size ≤ tu ∧ Ints W (some ⟨hb, 0, none⟩) xs.length xs ∧ OwnInts 2 W w.heap.size v xs ∧ Ext w W
def RetAskH (w : World) (e : Ending) (w' : World) : Prop :=
  ∃ v t xs k r, e = .returned (.tuple #[.agg #[v, .string t], .int .i64 k, .int .i64 r]) ∧ IsI64 k ∧ IsI64 r ∧ AskF 4 14 20 w v t xs w'
theorem AH.fin {w : World} {ao : Option Addr} {n c b hb m cap : Nat} {t : ByteArray} {xs : List Int} {B : Nat} {st : Src} {W : World} (h : AH w ao n c b (.slice (some ⟨hb, 0, none⟩) m cap) t xs B st W) {lo hx tu : Nat} (l0 : m ≤ cap) (l1 : lo ≤ m) (l2 : m ≤ hx) (ht : t.size ≤ tu) (u u' : Value) :
    AskF lo hx tu w (.slice (some ⟨hb, 0, none⟩) m cap) t xs ((W.setCell ⟨w.heap.size, 0, none⟩ u).setCell ⟨w.heap.size, 1, none⟩ u') := by
  have hl : xs.length = m := h.own.ints.1
  subst hl
  have o2 : OwnInts 2 ((W.setCell ⟨w.heap.size, 0, none⟩ u).setCell ⟨w.heap.size, 1, none⟩ u') (w.heap.size + 2) (.slice (some ⟨hb, 0, none⟩) xs.length cap) xs := (h.own.setBelow (by dsimp only; omega) _).setBelow (by dsimp only; omega) _
  exact ⟨hb, cap, rfl, l1, l2, l0, ht, o2.ints, o2.mono (by omega), (h.ex.setCell (Nat.le_refl _) _).setCell (Nat.le_refl _) _⟩
theorem AskF.ext {lo hx tu : Nat} {w : World} {v : Value} {t : ByteArray} {xs : List Int} {W W' : World} (h : AskF lo hx tu w v t xs W) (e : Ext W W') : AskF lo hx tu w v t xs W' := by
  obtain ⟨hb, cap, h1, h2, h3, h4, h5, h6, h7, h8⟩ := h
  exact ⟨hb, cap, h1, h2, h3, h4, h5, h6.ext e, h7.ext e, h8.trans e⟩
theorem AH.res2 {w : World} {ao : Option Addr} {n c b : Nat} {v : Value} {t : ByteArray} {xs : List Int} {B : Nat} {st : Src} {W : World} (h : AH w ao n c b v t xs B st W) : W.cell? ⟨w.heap.size, 0, none⟩ = some (.slice none 0 0) ∧ W.cell? ⟨w.heap.size, 1, none⟩ = some (.string ⟨#[]⟩) ∧ W.cell? ⟨b, 0, none⟩ = some v ∧ W.cell? ⟨b, 1, none⟩ = some (.string t) ∧ W.frozen? ⟨w.heap.size, 0, none⟩ = false ∧ W.frozen? ⟨w.heap.size, 1, none⟩ = false ∧ W.frozen? ⟨b, 0, none⟩ = false ∧ W.frozen? ⟨b, 1, none⟩ = false := by
  obtain ⟨a1, a2, a3, a4, _⟩ := two_cells h.res
  obtain ⟨c1, c2, c3, c4, _⟩ := two_cells h.box
  exact ⟨a1, a2, c1, c2, a3, a4, c3, c4⟩
theorem pickAH {w : World} {ao : Option Addr} {n c b : Nat} {bs : List UInt8} {v : Value} {t : ByteArray} {xs : List Int} (hbW : U8s w ao n bs) (N : Int) (h1 : 1 ≤ N) (h2 : N ≤ 200) {B : Nat} {st : Src} {W : World} (h : AH w ao n c b v t xs B st W) (hB : B ≤ 2900000000000000000) :
    Calls Tryz.prog 50 #[.pointer (some ⟨w.heap.size + 1, 0, none⟩), .int .i64 N] W (fun e w' => ∃ q st', e = .returned (.int .i64 q) ∧ 0 ≤ q ∧ q < N ∧ AH w ao n c b v t xs (B + 2) st' w') := by
  refine (s_pickQ N h1 h2 hbW (by omega) B hB st h.ok W h.src h.ex).mono ?_
  rintro e w' ⟨q, st', rfl, a, b, ok, s1, g1⟩
  exact ⟨q, st', rfl, a, b, h.draw s1 g1 ok⟩
theorem oneAH {w : World} {ao : Option Addr} {n c b : Nat} {bs : List UInt8} {v : Value} {t : ByteArray} {xs : List Int} (hbW : U8s w ao n bs) (N : Int) (h1 : 1 ≤ N) (h2 : N ≤ 200) {B : Nat} {st : Src} {W : World} (h : AH w ao n c b v t xs B st W) (hB : B ≤ 2900000000000000000) :
    Calls Tryz.prog 46 #[.pointer (some ⟨w.heap.size + 1, 0, none⟩), .int .i64 N] W (fun e w' => ∃ b' st', e = .returned (.bool b') ∧ AH w ao n c b v t xs (B + 2) st' w') := by
  refine (s_oneQ N h1 h2 hbW (by omega) B hB st h.ok W h.src h.ex).mono ?_
  rintro e w' ⟨b', st', rfl, ok, s1, g1⟩
  exact ⟨b', st', rfl, h.draw s1 g1 ok⟩
theorem amongAH {w : World} {ao : Option Addr} {n c b : Nat} {bs : List UInt8} {v : Value} {t : ByteArray} {xs : List Int} (hbW : U8s w ao n bs) (ys : List Int) (m : Nat) (hm1 : 1 ≤ m) (hm2 : m ≤ 200) (k : Nat) {B : Nat} {st : Src} {W : World} (h : AH w ao n c b v t xs B st W) (hI : Ints W (some ⟨k, 0, none⟩) m ys) (hk : k ≠ w.heap.size + 1) (hB : B ≤ 2900000000000000000) :
    Calls Tryz.prog 59 #[.pointer (some ⟨w.heap.size + 1, 0, none⟩), .slice (some ⟨k, 0, none⟩) m m] W (fun e w' => ∃ x st', e = .returned (.int .i64 x) ∧ x ∈ ys ∧ AH w ao n c b v t xs (B + 2) st' w') := by
  refine (s_amongQ hbW (by omega) B hB st h.ok _ h.src h.ex k m m ys hI hk hm1 hm2).mono ?_
  rintro e w' ⟨x, st', rfl, hx, ok, s1, g1⟩
  exact ⟨x, st', rfl, hx, h.draw s1 g1 ok⟩
theorem AH.first {ao : Option Addr} {n c hb m cap B : Nat} {st : Src} {xs : List Int} {t : ByteArray} {w W1 w1 : World} (hr : W1.heap[w.heap.size]? = some (.cells #[.slice none 0 0, .string ⟨#[]⟩] 26 (0, 0))) (e0 : Ext w W1) (hz : W1.heap.size = w.heap.size + 2) (o1 : OwnInts 2 w1 W1.heap.size (.slice (some ⟨hb, 0, none⟩) m cap) xs) (ok : st.Ok B) (s1 : SrcAt w1 (w.heap.size + 1) ao n c st) (g1 : W1.grownBy w1 (some (w.heap.size + 1))) :
    AH w ao n c w1.heap.size (.slice (some ⟨hb, 0, none⟩) m cap) t xs B st (w1.alloc (.cells #[.slice (some ⟨hb, 0, none⟩) m cap, .string t] 26)) := by
  refine ⟨blk_old (blkQ_grown hr g1 (fun e => by simp at e)), blk_at _ _ _ rfl, (o1.mono (by omega)).ext ((Ext.refl _).alloc _), blk_old s1, (e0.grown g1 (fun k hk => by cases hk; omega)).alloc _, ?_, ok⟩
  have := g1.size
  omega
def four : List Int := [-1, 0, 1000, 1001]
theorem four_ok : ∀ x ∈ four, IsI64 x := fun x hx => by
  simp [four] at hx
  unfold IsI64
  omega
set_option maxRecDepth 100000 in
set_option maxHeartbeats 8000000 in
theorem s_l07Ask (ao : Option Addr) (n c : Nat) (bs : List UInt8) (w : World) (hbW : U8s w ao n bs) : Calls Tryz.prog 27 #[.slice ao n c] w (RetAskH w) := by
  have HW := Lib.hid hbW
  have HD := Lib.hid (fun w1 (h1 : SrcAt w1 (w.heap.size + 1) ao n c ⟨0, 0⟩) (e1 : Ext w w1) => s_l07Bent hbW (show w.heap.size ≤ w.heap.size + 1 by omega) 0 (by omega) ⟨0, 0⟩ ⟨by decide, by decide⟩ w1 h1 e1)
  have hr0 := blk_at w (.cells #[.slice none 0 0, .string ⟨#[]⟩] 26) _ rfl
  have HR0 := Lib.hid hr0
  clear hbW hr0
  go_enter Tryz.func27, Tryz.ntmps27
  go_wp2_with fail
  refine (s_l00From ao n c _).mono ?_
  rintro e w1 ⟨rfl, s1, e1, z1⟩
  have hsz : (w.alloc (.cells #[.slice none 0 0, .string ⟨#[]⟩] 26)).heap.size = w.heap.size + 1 := by simp
  rw [hsz] at s1 z1
  rw [hsz]
  have HS1 := Lib.hid s1
  have HZ1 := Lib.hid z1
  have HE1 := Lib.hid (((Ext.refl w).alloc _).trans e1)
  have HR1 := Lib.hid (e1.block HR0.out)
  clear s1 e1 z1 HR0 hsz
  go_wp2_with fail
  refine (HD.out _ HS1.out HE1.out).mono ?_
  rintro e w2 ⟨hb, cap, xs, t, st2, rfl, l1, l2, l0, t1, t2, o2, OK2, s2, g2⟩
  obtain ⟨m, hm⟩ : ∃ m, xs.length = m := ⟨_, rfl⟩
  rw [hm] at l0 l1 l2 o2
  rw [hm]
  have HM := Lib.hid hm
  have HA2 := Lib.hid (AH.first (t := t) HR1.out HE1.out HZ1.out o2 OK2 s2 g2)
  have hlt : w.heap.size + 1 < w2.heap.size := HA2.out.lt
  clear o2 OK2 s2 g2 hm
  go_wp2_with fail
  refine (pickAH HW.out ((m : Int) + 1) (by omega) (by omega) HA2.out (by omega)).mono ?_
  rintro e w3 ⟨k, st3, rfl, k1, k2, a3⟩
  have HA3 := Lib.hid a3
  clear a3 HA2
  go_wp2_with fail
  refine (oneAH HW.out 12 (by decide) (by decide) HA3.out (by omega)).mono ?_
  rintro e w4 ⟨b4, st4, rfl, a4⟩
  have HA4 := Lib.hid a4
  obtain ⟨r0, r1, r2, r3, r4, r5, r6, r7⟩ := a4.res2
  have hik : IsI64 k := by unfold IsI64; omega
  have HIK := Lib.hid hik
  clear a4 HA3 hik
  have hlt4 := lt_of_block (AH.res HA4.out)
  rcases Bool.eq_false_or_eq_true b4 with rfl | rfl
  · have HY : Hid (∀ x ∈ [-1, (m : Int), 9223372036854775807], IsI64 x) := Lib.hid (fun x hx => by simp at hx; unfold IsI64; omega)
    have HI : Hid (Ints (w4.alloc (.cells #[.int .i64 (-1), .int .i64 (m : Int), .int .i64 9223372036854775807] 2)) (some ⟨w4.heap.size, 0, none⟩) 3 [-1, (m : Int), 9223372036854775807]) := Lib.hid (lit_ints _ _ rfl HY.out 3 rfl (by decide) _ rfl)
    have HSR := Lib.hid (AH.src HA4.out)
    have hgl := lt_of_block HSR.out
    clear HIK k1 k2
    go_wp2_with fail
    refine (amongAH HW.out [-1, (m : Int), 9223372036854775807] 3 (by decide) (by decide) _ (AH.ext HA4.out ((Ext.refl _).alloc _)) HI.out (by omega) (by omega)).mono ?_
    clear r0 r1 r2 r3 r4 r5 r6 r7
    rintro e w4 ⟨k, st4, rfl, hx, a4⟩
    have HIK := Lib.hid (HY.out k hx)
    clear HA4 HI HY hx HSR
    have HA4 := Lib.hid a4
    obtain ⟨r0, r1, r2, r3, r4, r5, r6, r7⟩ := a4.res2
    clear a4
    go_wp2_with fail
    refine (oneAH HW.out 10 (by decide) (by decide) HA4.out (by omega)).mono ?_
    clear r0 r1 r2 r3 r4 r5 r6 r7
    rintro e w5 ⟨b5, st5, rfl, A5⟩
    obtain ⟨r0, r1, r2, r3, r4, r5, r6, r7⟩ := A5.res2
    have hgl5 := lt_of_block A5.src
    have hbl5 := lt_of_block A5.box
    clear HA4
    rcases Bool.eq_false_or_eq_true b5 with rfl | rfl
    · go_wp2
      go_region_held3 (fun W => Two W w2.heap.size (.slice (some ⟨hb, 0, none⟩) m cap) (.string t)) (first | exact AH.two (AH.ext A5 (Ext.refl _).drew) | exact AH.two (by assumption) | exact AH.two (AH.ext A5 ((Ext.refl _).drew.alloc _)) | exact AH.two2 (by assumption) _ _) (first
        | (go_at_call 59; refine (amongAH HW.out four 4 (by decide) (by decide) _ (by first | exact AH.ext A5 ((Ext.refl _).drew.alloc _) | exact AH.ext A5 ((Ext.refl _).alloc _).drew) (by first | exact lit_ints four _ rfl four_ok 4 rfl (by decide) _ rfl | exact Ints.ext (lit_ints (W := w5) four _ rfl four_ok 4 rfl (by decide) _ rfl) (Ext.refl _).drew) (by omega) (by omega)).mono ?_; rintro e w6 ⟨x, st6, rfl, hx, a6⟩; have hix := four_ok x hx; clear hx; obtain ⟨u0, u1, u2, u3, u4, u5, u6, u7⟩ := a6.res2))
      all_goals
        have HR6 := Lib.hid (fun u v => resQ_two u v u0 u1)
        go_wp2
        have hr := HR6.out
        refine bodyPost_ret (v := .tuple #[.agg #[.slice (some ⟨hb, 0, none⟩) m cap, .string t], .int .i64 k, .int .i64 x]) (by simp [results, Tryz.results27, go_sem, hr]) rfl ?_
        exact ⟨_, t, xs, k, x, rfl, HIK.out, hix, a6.fin l0 (by omega) (by omega) (by omega) _ _⟩
    · go_wp2
      go_region_held3 (fun W => Two W w2.heap.size (.slice (some ⟨hb, 0, none⟩) m cap) (.string t)) (first | exact AH.two (AH.ext A5 (Ext.refl _).drew) | exact AH.two (by assumption) | exact AH.two2 (by assumption) _ _) (first
        | (go_at_call 50; refine (pickAH HW.out 6 (by decide) (by decide) (by first | exact AH.ext A5 (Ext.refl _).drew) (by omega)).mono ?_; rintro e w6 ⟨x, st6, rfl, x1, x2, a6⟩; obtain ⟨u0, u1, u2, u3, u4, u5, u6, u7⟩ := a6.res2))
      all_goals
        have HR6 := Lib.hid (fun u v => resQ_two u v u0 u1)
        go_wp2
        have hr := HR6.out
        refine bodyPost_ret (v := .tuple #[.agg #[.slice (some ⟨hb, 0, none⟩) m cap, .string t], .int .i64 k, .int .i64 x]) (by simp [results, Tryz.results27, go_sem, hr]) rfl ?_
        exact ⟨_, t, xs, k, x, rfl, HIK.out, (by unfold IsI64; omega), a6.fin l0 (by omega) (by omega) (by omega) _ _⟩
  · go_wp2_with fail
    refine (oneAH HW.out 10 (by decide) (by decide) HA4.out (by omega)).mono ?_
    clear r0 r1 r2 r3 r4 r5 r6 r7
    rintro e w5 ⟨b5, st5, rfl, A5⟩
    obtain ⟨r0, r1, r2, r3, r4, r5, r6, r7⟩ := A5.res2
    have hgl5 := lt_of_block A5.src
    have hbl5 := lt_of_block A5.box
    clear HA4
    rcases Bool.eq_false_or_eq_true b5 with rfl | rfl
    · go_wp2
      go_region_held3 (fun W => Two W w2.heap.size (.slice (some ⟨hb, 0, none⟩) m cap) (.string t)) (first | exact AH.two (AH.ext A5 (Ext.refl _).drew) | exact AH.two (by assumption) | exact AH.two (AH.ext A5 ((Ext.refl _).drew.alloc _)) | exact AH.two2 (by assumption) _ _) (first
        | (go_at_call 59; refine (amongAH HW.out four 4 (by decide) (by decide) _ (by first | exact AH.ext A5 ((Ext.refl _).drew.alloc _) | exact AH.ext A5 ((Ext.refl _).alloc _).drew) (by first | exact lit_ints four _ rfl four_ok 4 rfl (by decide) _ rfl | exact Ints.ext (lit_ints (W := w5) four _ rfl four_ok 4 rfl (by decide) _ rfl) (Ext.refl _).drew) (by omega) (by omega)).mono ?_; rintro e w6 ⟨x, st6, rfl, hx, a6⟩; have hix := four_ok x hx; clear hx; obtain ⟨u0, u1, u2, u3, u4, u5, u6, u7⟩ := a6.res2))
      all_goals
        have HR6 := Lib.hid (fun u v => resQ_two u v u0 u1)
        go_wp2
        have hr := HR6.out
        refine bodyPost_ret (v := .tuple #[.agg #[.slice (some ⟨hb, 0, none⟩) m cap, .string t], .int .i64 k, .int .i64 x]) (by simp [results, Tryz.results27, go_sem, hr]) rfl ?_
        exact ⟨_, t, xs, k, x, rfl, HIK.out, hix, a6.fin l0 (by omega) (by omega) (by omega) _ _⟩
    · go_wp2
      go_region_held3 (fun W => Two W w2.heap.size (.slice (some ⟨hb, 0, none⟩) m cap) (.string t)) (first | exact AH.two (AH.ext A5 (Ext.refl _).drew) | exact AH.two (by assumption) | exact AH.two2 (by assumption) _ _) (first
        | (go_at_call 50; refine (pickAH HW.out 6 (by decide) (by decide) (by first | exact AH.ext A5 (Ext.refl _).drew) (by omega)).mono ?_; rintro e w6 ⟨x, st6, rfl, x1, x2, a6⟩; obtain ⟨u0, u1, u2, u3, u4, u5, u6, u7⟩ := a6.res2))
      all_goals
        have HR6 := Lib.hid (fun u v => resQ_two u v u0 u1)
        go_wp2
        have hr := HR6.out
        refine bodyPost_ret (v := .tuple #[.agg #[.slice (some ⟨hb, 0, none⟩) m cap, .string t], .int .i64 k, .int .i64 x]) (by simp [results, Tryz.results27, go_sem, hr]) rfl ?_
        exact ⟨_, t, xs, k, x, rfl, HIK.out, (by unfold IsI64; omega), a6.fin l0 (by omega) (by omega) (by omega) _ _⟩
end Go.Proofs.YtaokeaiehjgbnaaGreatDoor
