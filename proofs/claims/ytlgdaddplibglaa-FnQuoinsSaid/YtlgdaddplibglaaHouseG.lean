/- Contracts: a question about a plan is drawn: a plan, a side, a course. -/
import Derived.Test.YtlgdaddplibglaaHouseF
namespace Go.Proofs.Ytlgdaddplibglaa
open Go.RowKit
set_option linter.unusedSimpArgs false
set_option linter.unusedVariables false
set_option linter.unnecessarySimpa false

/-- what stands in memory while a question is drawn -/
structure AH (w : World) (ao : Option Addr) (n c b : Nat) (v : Value) (t : ByteArray) (xs : List Int) (B : Nat) (st : Src) (W : World) : Prop where
  res : W.heap[w.heap.size]? = some (.cells #[.slice none 0 0, .string ⟨#[]⟩] 26 (0, 0))
  box : W.heap[b]? = some (.cells #[v, .string t] 26 (0, 0))
  own : OwnInts 2 W (w.heap.size + 2) v xs
  src : SrcAt W (w.heap.size + 1) ao n c st
  ex : Ext w W
  lt : w.heap.size + 1 < b
  ok : st.Ok B
theorem AH.draw {w : World} {ao : Option Addr} {n c b : Nat} {v : Value} {t : ByteArray} {xs : List Int} {B B' : Nat} {st st' : Src} {W W' : World} (h : AH w ao n c b v t xs B st W) (hs : SrcAt W' (w.heap.size + 1) ao n c st') (hg : W.grownBy W' (some (w.heap.size + 1))) (ok : st'.Ok B') : AH w ao n c b v t xs B' st' W' :=
  have h2 := h.lt
  ⟨blkQ_grown h.res hg (fun e => by simp at e), blkQ_grown h.box hg (fun e => by simp at e; omega), h.own.kept hg (fun k hk => by cases hk; omega), hs, h.ex.grown hg (fun k hk => by cases hk; omega), h.lt, ok⟩
theorem AH.ext {w : World} {ao : Option Addr} {n c b : Nat} {v : Value} {t : ByteArray} {xs : List Int} {B : Nat} {st : Src} {W W' : World} (h : AH w ao n c b v t xs B st W) (e : Ext W W') : AH w ao n c b v t xs B st W' :=
  ⟨e.block h.res, e.block h.box, h.own.ext e, e.block h.src, h.ex.trans e, h.lt, h.ok⟩
theorem AH.two {w : World} {ao : Option Addr} {n c b : Nat} {v : Value} {t : ByteArray} {xs : List Int} {B : Nat} {st : Src} {W : World} (h : AH w ao n c b v t xs B st W) : Two W b v (.string t) := Two.of h.box
theorem AH.two2 {w : World} {ao : Option Addr} {n c b : Nat} {v : Value} {t : ByteArray} {xs : List Int} {B : Nat} {st : Src} {W : World} (h : AH w ao n c b v t xs B st W) (u u' : Value) : Two ((W.setCell ⟨w.heap.size, 0, none⟩ u).setCell ⟨w.heap.size, 1, none⟩ u') b v (.string t) := by
  have h2 := h.lt
  exact Two.of (heapQ_setO _ _ _ (heapQ_setO _ _ _ h.box (by omega)) (by omega))
/-- a plan, a side and a course are handed back -/
def AskF (lo hx tu : Nat) (w : World) (v : Value) (t : ByteArray) (xs : List Int) (W : World) : Prop :=
  ∃ hb cap, v = .slice (some ⟨hb, 0, none⟩) xs.length cap ∧ lo ≤ xs.length ∧ xs.length ≤ hx ∧ xs.length ≤ cap ∧ t.size ≤ tu ∧ Ints W (some ⟨hb, 0, none⟩) xs.length xs ∧ OwnInts 2 W w.heap.size v xs ∧ Ext w W
def RetAskH (w : World) (e : Ending) (w' : World) : Prop :=
  ∃ v t xs k r, e = .returned (.tuple #[.agg #[v, .string t], .int .i64 k, .int .i64 r]) ∧ IsI64 k ∧ IsI64 r ∧ AskF 4 14 20 w v t xs w'
theorem AH.fin {w : World} {ao : Option Addr} {n c b hb m cap : Nat} {t : ByteArray} {xs : List Int} {B : Nat} {st : Src} {W : World} (h : AH w ao n c b (.slice (some ⟨hb, 0, none⟩) m cap) t xs B st W) {lo hx tu : Nat} (l0 : m ≤ cap) (l1 : lo ≤ m) (l2 : m ≤ hx) (ht : t.size ≤ tu) (u u' : Value) :
    AskF lo hx tu w (.slice (some ⟨hb, 0, none⟩) m cap) t xs ((W.setCell ⟨w.heap.size, 0, none⟩ u).setCell ⟨w.heap.size, 1, none⟩ u') := by
  have hl : xs.length = m := h.own.ints.1
  subst hl
  have o2 : OwnInts 2 ((W.setCell ⟨w.heap.size, 0, none⟩ u).setCell ⟨w.heap.size, 1, none⟩ u') (w.heap.size + 2) (.slice (some ⟨hb, 0, none⟩) xs.length cap) xs := (h.own.setBelow (by dsimp only; omega) _).setBelow (by dsimp only; omega) _
  exact ⟨hb, cap, rfl, l1, l2, l0, ht, o2.ints, o2.mono (by omega), (h.ex.setCell (Nat.le_refl _) _).setCell (Nat.le_refl _) _⟩
theorem AskF.ext {lo hx tu : Nat} {w : World} {v : Value} {t : ByteArray} {xs : List Int} {W W' : World} (h : AskF lo hx tu w v t xs W) (e : Ext W W') : AskF lo hx tu w v t xs W' := by
  obtain ⟨hb, cap, h1, h2, h3, h4, h5, h6, h7, h8⟩ := h
  exact ⟨hb, cap, h1, h2, h3, h4, h5, h6.ext e, h7.ext e, h8.trans e⟩
theorem AH.res2 {w : World} {ao : Option Addr} {n c b : Nat} {v : Value} {t : ByteArray} {xs : List Int} {B : Nat} {st : Src} {W : World} (h : AH w ao n c b v t xs B st W) : W.cell? ⟨w.heap.size, 0, none⟩ = some (.slice none 0 0) ∧ W.cell? ⟨w.heap.size, 1, none⟩ = some (.string ⟨#[]⟩) ∧ W.cell? ⟨b, 0, none⟩ = some v ∧ W.cell? ⟨b, 1, none⟩ = some (.string t) ∧ W.frozen? ⟨w.heap.size, 0, none⟩ = false ∧ W.frozen? ⟨w.heap.size, 1, none⟩ = false ∧ W.frozen? ⟨b, 0, none⟩ = false ∧ W.frozen? ⟨b, 1, none⟩ = false := by
  obtain ⟨a1, a2, a3, a4, _⟩ := two_cells h.res
  obtain ⟨c1, c2, c3, c4, _⟩ := two_cells h.box
  exact ⟨a1, a2, c1, c2, a3, a4, c3, c4⟩
theorem pickAH {w : World} {ao : Option Addr} {n c b : Nat} {bs : List UInt8} {v : Value} {t : ByteArray} {xs : List Int} (hbW : U8s w ao n bs) (N : Int) (h1 : 1 ≤ N) (h2 : N ≤ 200) {B : Nat} {st : Src} {W : World} (h : AH w ao n c b v t xs B st W) (hB : B ≤ 2900000000000000000) :
    Calls Try.prog 50 #[.pointer (some ⟨w.heap.size + 1, 0, none⟩), .int .i64 N] W (fun e w' => ∃ q st', e = .returned (.int .i64 q) ∧ 0 ≤ q ∧ q < N ∧ AH w ao n c b v t xs (B + 2) st' w') := by
  refine (s_pickQ N h1 h2 hbW (by omega) B hB st h.ok W h.src h.ex).mono ?_
  rintro e w' ⟨q, st', rfl, a, b, ok, s1, g1⟩
  exact ⟨q, st', rfl, a, b, h.draw s1 g1 ok⟩
theorem oneAH {w : World} {ao : Option Addr} {n c b : Nat} {bs : List UInt8} {v : Value} {t : ByteArray} {xs : List Int} (hbW : U8s w ao n bs) (N : Int) (h1 : 1 ≤ N) (h2 : N ≤ 200) {B : Nat} {st : Src} {W : World} (h : AH w ao n c b v t xs B st W) (hB : B ≤ 2900000000000000000) :
    Calls Try.prog 51 #[.pointer (some ⟨w.heap.size + 1, 0, none⟩), .int .i64 N] W (fun e w' => ∃ b' st', e = .returned (.bool b') ∧ AH w ao n c b v t xs (B + 2) st' w') := by
  refine (s_oneQ N h1 h2 hbW (by omega) B hB st h.ok W h.src h.ex).mono ?_
  rintro e w' ⟨b', st', rfl, ok, s1, g1⟩
  exact ⟨b', st', rfl, h.draw s1 g1 ok⟩
theorem amongAH {w : World} {ao : Option Addr} {n c b : Nat} {bs : List UInt8} {v : Value} {t : ByteArray} {xs : List Int} (hbW : U8s w ao n bs) (ys : List Int) (m : Nat) (hm1 : 1 ≤ m) (hm2 : m ≤ 200) (k : Nat) {B : Nat} {st : Src} {W : World} (h : AH w ao n c b v t xs B st W) (hI : Ints W (some ⟨k, 0, none⟩) m ys) (hk : k ≠ w.heap.size + 1) (hB : B ≤ 2900000000000000000) :
    Calls Try.prog 52 #[.pointer (some ⟨w.heap.size + 1, 0, none⟩), .slice (some ⟨k, 0, none⟩) m m] W (fun e w' => ∃ x st', e = .returned (.int .i64 x) ∧ x ∈ ys ∧ AH w ao n c b v t xs (B + 2) st' w') := by
  refine (s_amongQ hbW (by omega) B hB st h.ok _ h.src h.ex k m m ys hI hk hm1 hm2).mono ?_
  rintro e w' ⟨x, st', rfl, hx, ok, s1, g1⟩
  exact ⟨x, st', rfl, hx, h.draw s1 g1 ok⟩
theorem AH.first {ao : Option Addr} {n c hb m cap B : Nat} {st : Src} {xs : List Int} {t : ByteArray} {w W1 w1 : World} (hr : W1.heap[w.heap.size]? = some (.cells #[.slice none 0 0, .string ⟨#[]⟩] 26 (0, 0))) (e0 : Ext w W1) (hz : W1.heap.size = w.heap.size + 2) (o1 : OwnInts 2 w1 W1.heap.size (.slice (some ⟨hb, 0, none⟩) m cap) xs) (ok : st.Ok B) (s1 : SrcAt w1 (w.heap.size + 1) ao n c st) (g1 : W1.grownBy w1 (some (w.heap.size + 1))) :
    AH w ao n c w1.heap.size (.slice (some ⟨hb, 0, none⟩) m cap) t xs B st (w1.alloc (.cells #[.slice (some ⟨hb, 0, none⟩) m cap, .string t] 26)) := by
  refine ⟨blk_old (blkQ_grown hr g1 (fun e => by simp at e)), blk_at _ _ _ rfl, (o1.mono (by omega)).ext ((Ext.refl _).alloc _), blk_old s1, (e0.grown g1 (fun k hk => by cases hk; omega)).alloc _, ?_, ok⟩
  have := g1.size
  omega
def four : List Int := [-1, 0, 1000, 1001]
theorem four_ok : ∀ x ∈ four, IsI64 x := fun x hx => by
  simp [four] at hx
  unfold IsI64
  omega
set_option maxRecDepth 100000 in
set_option maxHeartbeats 8000000 in
theorem s_l07Ask (ao : Option Addr) (n c : Nat) (bs : List UInt8) (w : World) (hbW : U8s w ao n bs) : Calls Try.prog 37 #[.slice ao n c] w (RetAskH w) := by
  have HW := Lib.hid hbW
  have HD := Lib.hid (fun w1 (h1 : SrcAt w1 (w.heap.size + 1) ao n c ⟨0, 0⟩) (e1 : Ext w w1) => s_l07Bent hbW (show w.heap.size ≤ w.heap.size + 1 by omega) 0 (by omega) ⟨0, 0⟩ ⟨by decide, by decide⟩ w1 h1 e1)
  have hr0 := blk_at w (.cells #[.slice none 0 0, .string ⟨#[]⟩] 26) _ rfl
  have HR0 := Lib.hid hr0
  clear hbW hr0
  go_enter Try.func37, Try.ntmps37
  go_wp2_with fail
  refine (s_l00From ao n c _).mono ?_
  rintro e w1 ⟨rfl, s1, e1, z1⟩
  have hsz : (w.alloc (.cells #[.slice none 0 0, .string ⟨#[]⟩] 26)).heap.size = w.heap.size + 1 := by simp
  rw [hsz] at s1 z1
  rw [hsz]
  have HS1 := Lib.hid s1
  have HZ1 := Lib.hid z1
  have HE1 := Lib.hid (((Ext.refl w).alloc _).trans e1)
  have HR1 := Lib.hid (e1.block HR0.out)
  clear s1 e1 z1 HR0 hsz
  go_wp2_with fail
  refine (HD.out _ HS1.out HE1.out).mono ?_
  rintro e w2 ⟨hb, cap, xs, t, st2, rfl, l1, l2, l0, t1, t2, o2, OK2, s2, g2⟩
  obtain ⟨m, hm⟩ : ∃ m, xs.length = m := ⟨_, rfl⟩
  rw [hm] at l0 l1 l2 o2
  rw [hm]
  have HM := Lib.hid hm
  have HA2 := Lib.hid (AH.first (t := t) HR1.out HE1.out HZ1.out o2 OK2 s2 g2)
  have hlt : w.heap.size + 1 < w2.heap.size := HA2.out.lt
  clear o2 OK2 s2 g2 hm
  go_wp2_with fail
  refine (pickAH HW.out ((m : Int) + 1) (by omega) (by omega) HA2.out (by omega)).mono ?_
  rintro e w3 ⟨k, st3, rfl, k1, k2, a3⟩
  have HA3 := Lib.hid a3
  clear a3 HA2
  go_wp2_with fail
  refine (oneAH HW.out 12 (by decide) (by decide) HA3.out (by omega)).mono ?_
  rintro e w4 ⟨b4, st4, rfl, a4⟩
  have HA4 := Lib.hid a4
  obtain ⟨r0, r1, r2, r3, r4, r5, r6, r7⟩ := a4.res2
  have hik : IsI64 k := by unfold IsI64; omega
  have HIK := Lib.hid hik
  clear a4 HA3 hik
  have hlt4 := lt_of_block (AH.res HA4.out)
  rcases Bool.eq_false_or_eq_true b4 with rfl | rfl
  · have HY : Hid (∀ x ∈ [-1, (m : Int), 9223372036854775807], IsI64 x) := Lib.hid (fun x hx => by simp at hx; unfold IsI64; omega)
    have HI : Hid (Ints (w4.alloc (.cells #[.int .i64 (-1), .int .i64 (m : Int), .int .i64 9223372036854775807] 2)) (some ⟨w4.heap.size, 0, none⟩) 3 [-1, (m : Int), 9223372036854775807]) := Lib.hid (lit_ints _ _ rfl HY.out 3 rfl (by decide) _ rfl)
    have HSR := Lib.hid (AH.src HA4.out)
    have hgl := lt_of_block HSR.out
    clear HIK k1 k2
    go_wp2_with fail
    refine (amongAH HW.out [-1, (m : Int), 9223372036854775807] 3 (by decide) (by decide) _ (AH.ext HA4.out ((Ext.refl _).alloc _)) HI.out (by omega) (by omega)).mono ?_
    clear r0 r1 r2 r3 r4 r5 r6 r7
    rintro e w4 ⟨k, st4, rfl, hx, a4⟩
    have HIK := Lib.hid (HY.out k hx)
    clear HA4 HI HY hx HSR
    have HA4 := Lib.hid a4
    obtain ⟨r0, r1, r2, r3, r4, r5, r6, r7⟩ := a4.res2
    clear a4
    go_wp2_with fail
    refine (oneAH HW.out 10 (by decide) (by decide) HA4.out (by omega)).mono ?_
    clear r0 r1 r2 r3 r4 r5 r6 r7
    rintro e w5 ⟨b5, st5, rfl, A5⟩
    obtain ⟨r0, r1, r2, r3, r4, r5, r6, r7⟩ := A5.res2
    have hgl5 := lt_of_block A5.src
    have hbl5 := lt_of_block A5.box
    clear HA4
    rcases Bool.eq_false_or_eq_true b5 with rfl | rfl
    · go_wp2
      go_region_held3 (fun W => Two W w2.heap.size (.slice (some ⟨hb, 0, none⟩) m cap) (.string t)) (first | exact AH.two (AH.ext A5 (Ext.refl _).drew) | exact AH.two (by assumption) | exact AH.two (AH.ext A5 ((Ext.refl _).drew.alloc _)) | exact AH.two2 (by assumption) _ _) (first
        | (go_at_call 52; refine (amongAH HW.out four 4 (by decide) (by decide) _ (by first | exact AH.ext A5 ((Ext.refl _).drew.alloc _) | exact AH.ext A5 ((Ext.refl _).alloc _).drew) (by first | exact lit_ints four _ rfl four_ok 4 rfl (by decide) _ rfl | exact Ints.ext (lit_ints (W := w5) four _ rfl four_ok 4 rfl (by decide) _ rfl) (Ext.refl _).drew) (by omega) (by omega)).mono ?_; rintro e w6 ⟨x, st6, rfl, hx, a6⟩; have hix := four_ok x hx; clear hx; obtain ⟨u0, u1, u2, u3, u4, u5, u6, u7⟩ := a6.res2))
      all_goals
        have HR6 := Lib.hid (fun u v => resQ_two u v u0 u1)
        go_wp2
        have hr := HR6.out
        refine bodyPost_ret (v := .tuple #[.agg #[.slice (some ⟨hb, 0, none⟩) m cap, .string t], .int .i64 k, .int .i64 x]) (by simp [results, Try.results37, go_sem, hr]) rfl ?_
        exact ⟨_, t, xs, k, x, rfl, HIK.out, hix, a6.fin l0 (by omega) (by omega) (by omega) _ _⟩
    · go_wp2
      go_region_held3 (fun W => Two W w2.heap.size (.slice (some ⟨hb, 0, none⟩) m cap) (.string t)) (first | exact AH.two (AH.ext A5 (Ext.refl _).drew) | exact AH.two (by assumption) | exact AH.two2 (by assumption) _ _) (first
        | (go_at_call 50; refine (pickAH HW.out 6 (by decide) (by decide) (by first | exact AH.ext A5 (Ext.refl _).drew) (by omega)).mono ?_; rintro e w6 ⟨x, st6, rfl, x1, x2, a6⟩; obtain ⟨u0, u1, u2, u3, u4, u5, u6, u7⟩ := a6.res2))
      all_goals
        have HR6 := Lib.hid (fun u v => resQ_two u v u0 u1)
        go_wp2
        have hr := HR6.out
        refine bodyPost_ret (v := .tuple #[.agg #[.slice (some ⟨hb, 0, none⟩) m cap, .string t], .int .i64 k, .int .i64 x]) (by simp [results, Try.results37, go_sem, hr]) rfl ?_
        exact ⟨_, t, xs, k, x, rfl, HIK.out, (by unfold IsI64; omega), a6.fin l0 (by omega) (by omega) (by omega) _ _⟩
  · go_wp2_with fail
    refine (oneAH HW.out 10 (by decide) (by decide) HA4.out (by omega)).mono ?_
    clear r0 r1 r2 r3 r4 r5 r6 r7
    rintro e w5 ⟨b5, st5, rfl, A5⟩
    obtain ⟨r0, r1, r2, r3, r4, r5, r6, r7⟩ := A5.res2
    have hgl5 := lt_of_block A5.src
    have hbl5 := lt_of_block A5.box
    clear HA4
    rcases Bool.eq_false_or_eq_true b5 with rfl | rfl
    · go_wp2
      go_region_held3 (fun W => Two W w2.heap.size (.slice (some ⟨hb, 0, none⟩) m cap) (.string t)) (first | exact AH.two (AH.ext A5 (Ext.refl _).drew) | exact AH.two (by assumption) | exact AH.two (AH.ext A5 ((Ext.refl _).drew.alloc _)) | exact AH.two2 (by assumption) _ _) (first
        | (go_at_call 52; refine (amongAH HW.out four 4 (by decide) (by decide) _ (by first | exact AH.ext A5 ((Ext.refl _).drew.alloc _) | exact AH.ext A5 ((Ext.refl _).alloc _).drew) (by first | exact lit_ints four _ rfl four_ok 4 rfl (by decide) _ rfl | exact Ints.ext (lit_ints (W := w5) four _ rfl four_ok 4 rfl (by decide) _ rfl) (Ext.refl _).drew) (by omega) (by omega)).mono ?_; rintro e w6 ⟨x, st6, rfl, hx, a6⟩; have hix := four_ok x hx; clear hx; obtain ⟨u0, u1, u2, u3, u4, u5, u6, u7⟩ := a6.res2))
      all_goals
        have HR6 := Lib.hid (fun u v => resQ_two u v u0 u1)
        go_wp2
        have hr := HR6.out
        refine bodyPost_ret (v := .tuple #[.agg #[.slice (some ⟨hb, 0, none⟩) m cap, .string t], .int .i64 k, .int .i64 x]) (by simp [results, Try.results37, go_sem, hr]) rfl ?_
        exact ⟨_, t, xs, k, x, rfl, HIK.out, hix, a6.fin l0 (by omega) (by omega) (by omega) _ _⟩
    · go_wp2
      go_region_held3 (fun W => Two W w2.heap.size (.slice (some ⟨hb, 0, none⟩) m cap) (.string t)) (first | exact AH.two (AH.ext A5 (Ext.refl _).drew) | exact AH.two (by assumption) | exact AH.two2 (by assumption) _ _) (first
        | (go_at_call 50; refine (pickAH HW.out 6 (by decide) (by decide) (by first | exact AH.ext A5 (Ext.refl _).drew) (by omega)).mono ?_; rintro e w6 ⟨x, st6, rfl, x1, x2, a6⟩; obtain ⟨u0, u1, u2, u3, u4, u5, u6, u7⟩ := a6.res2))
      all_goals
        have HR6 := Lib.hid (fun u v => resQ_two u v u0 u1)
        go_wp2
        have hr := HR6.out
        refine bodyPost_ret (v := .tuple #[.agg #[.slice (some ⟨hb, 0, none⟩) m cap, .string t], .int .i64 k, .int .i64 x]) (by simp [results, Try.results37, go_sem, hr]) rfl ?_
        exact ⟨_, t, xs, k, x, rfl, HIK.out, (by unfold IsI64; omega), a6.fin l0 (by omega) (by omega) (by omega) _ _⟩
end Go.Proofs.Ytlgdaddplibglaa
