/- Openings are sorted in a row of the call's own: Go's insertion sort, which serves up to twelve elements. -/
import Derived.Test.YtnhmcmohnpbcjaaGaAdd
import Derived.Test.YtnhmcmohnpbcjaaFrontV1
import Derived.Test.YtnhmcmohnpbcjaaCls
import Derived.Deep.RegionHeld3
import Derived.Test.YtnhmcmohnpbcjaaShLen
namespace Go.Proofs.Ytnhmcmohnpbcjaa
open Go.RowKit
set_option linter.unusedSimpArgs false
set_option linter.unusedVariables false
set_option linter.unnecessarySimpa false

/-! ### an element of four cells is read and written -/
theorem OwnOpens.recs4 {w : World} {base : Nat} {v : Value} {os : List Opn} (h : OwnOpens w base v os) : OwnRecs 34 4 w base v (os.map opnC) := by
  refine ⟨?_, fun r hr => by obtain ⟨o, _, rfl⟩ := List.mem_map.1 hr; rfl⟩
  rw [List.length_map, ← List.flatMap_def]
  exact h.1
theorem OwnRecs.opns {w : World} {base : Nat} {v : Value} {os : List Opn} (h : OwnRecs 34 4 w base v (os.map opnC)) (ho : ∀ o ∈ os, o.ok) : OwnOpens w base v os := by
  have := h.1
  rw [List.length_map, ← List.flatMap_def] at this
  exact ⟨this, ho⟩
theorem opn_four (a b c d : Value) : ∀ l : List Value, l.length = 4 → (((l.set 0 a).set 1 b).set 2 c).set 3 d = [a, b, c, d]
  | [_, _, _, _], _ => rfl
theorem OwnOpens.read4 {w : World} {base g n cap : Nat} {os : List Opn} (h : OwnOpens w base (.slice (some ⟨g, 0, none⟩) n cap) os) (j : Nat) (hj : j < n) :
    (w.cell? ⟨g, j * 4, none⟩ = some (.int .i64 (os.getD j default).fr) ∧ w.cell? ⟨g, j * 4 + 1, none⟩ = some (.int .i64 (os.getD j default).en) ∧ w.cell? ⟨g, j * 4 + 2, none⟩ = some (.int .i64 (os.getD j default).lo) ∧ w.cell? ⟨g, j * 4 + 3, none⟩ = some (.int .i64 (os.getD j default).hi)) ∧
    (w.frozen? ⟨g, j * 4, none⟩ = false ∧ w.frozen? ⟨g, j * 4 + 1, none⟩ = false ∧ w.frozen? ⟨g, j * 4 + 2, none⟩ = false ∧ w.frozen? ⟨g, j * 4 + 3, none⟩ = false) := by
  have hr := h.recs4
  have hl := hr.len
  rw [List.length_map] at hl
  have e : (os.map opnC).getD j [] = opnC (os.getD j default) := by
    rw [List.getD_eq_getElem?_getD, List.getElem?_map, List.getElem?_eq_getElem (by omega), List.getD_eq_getElem?_getD, List.getElem?_eq_getElem (by omega)]; rfl
  obtain ⟨r0, f0⟩ := hr.reads j 0 hj (by omega) (.int .i64 (os.getD j default).fr) (by rw [e]; rfl)
  obtain ⟨r1, f1⟩ := hr.reads j 1 hj (by omega) (.int .i64 (os.getD j default).en) (by rw [e]; rfl)
  obtain ⟨r2, f2⟩ := hr.reads j 2 hj (by omega) (.int .i64 (os.getD j default).lo) (by rw [e]; rfl)
  obtain ⟨r3, f3⟩ := hr.reads j 3 hj (by omega) (.int .i64 (os.getD j default).hi) (by rw [e]; rfl)
  exact ⟨⟨r0, r1, r2, r3⟩, f0, f1, f2, f3⟩
theorem OwnOpens.put4 {w : World} {base g n cap : Nat} {os : List Opn} (h : OwnOpens w base (.slice (some ⟨g, 0, none⟩) n cap) os) (j : Nat) (hj : j < n) (x : Opn) (hx : x.ok) :
    OwnOpens ((((w.setCell ⟨g, j * 4, none⟩ (.int .i64 x.fr)).setCell ⟨g, j * 4 + 1, none⟩ (.int .i64 x.en)).setCell ⟨g, j * 4 + 2, none⟩ (.int .i64 x.lo)).setCell ⟨g, j * 4 + 3, none⟩ (.int .i64 x.hi)) base (.slice (some ⟨g, 0, none⟩) n cap) (os.set j x) := by
  have hr := h.recs4
  have hl := hr.len
  rw [List.length_map] at hl
  have h3 := (((hr.put j 0 hj (by omega) (.int .i64 x.fr)).put j 1 hj (by omega) (.int .i64 x.en)).put j 2 hj (by omega) (.int .i64 x.lo)).put j 3 hj (by omega) (.int .i64 x.hi)
  have g1 : ∀ (y : List Value), ((os.map opnC).set j y).getD j [] = y := fun y => by rw [List.getD_eq_getElem?_getD, List.getElem?_set_self (by rw [List.length_map]; omega)]; rfl
  simp only [g1, List.set_set] at h3
  rw [opn_four _ _ _ _ _ (flat_split _ hr.2 j (by rw [List.length_map]; omega)).2.2] at h3
  refine OwnRecs.opns (by rw [List.map_set]; exact h3) (fun o ho => ?_)
  rcases List.mem_or_eq_of_mem_set ho with ho | rfl
  · exact h.2 o ho
  · exact hx
/-! ### the sort as a list -/
/-- the first k, each put in its place -/
def insTo (os : List Opn) (k : Nat) : List Opn := (os.take k).foldl putO []
theorem insTo_succ {os : List Opn} {k : Nat} (hk : k < os.length) : insTo os (k + 1) = putO (insTo os k) (os.getD k default) := by
  unfold insTo
  rw [List.take_succ_eq_append_getElem hk, List.foldl_append, List.getD_eq_getElem?_getD, List.getElem?_eq_getElem hk]
  rfl
theorem insTo_len (os : List Opn) : ∀ k, k ≤ os.length → (insTo os k).length = k
  | 0, _ => by simp [insTo]
  | k + 1, h => by rw [insTo_succ (by omega), putO_len, insTo_len os k (by omega)]
theorem insTo_ok {os : List Opn} (h : ∀ o ∈ os, o.ok) : ∀ k, k ≤ os.length → ∀ o ∈ insTo os k, o.ok
  | 0, _ => by simp [insTo]
  | k + 1, hk => by
    rw [insTo_succ (by omega)]
    exact putO_ok (insTo_ok h k (by omega)) (by rw [getD_lt (show k < os.length by omega)]; exact h _ (List.getElem_mem _))
/-- x stands at place j of s, and the rest behind -/
def midO (s : List Opn) (x : Opn) (j : Nat) (r : List Opn) : List Opn := s.take j ++ x :: s.drop j ++ r
theorem midO_len (s : List Opn) (x : Opn) (j : Nat) (r : List Opn) (hj : j ≤ s.length) : (midO s x j r).length = s.length + 1 + r.length := by
  unfold midO
  rw [List.length_append, List.length_append, List.length_cons, List.length_take, List.length_drop]; omega
theorem midO_at (s : List Opn) (x : Opn) (j : Nat) (r : List Opn) (hj : j ≤ s.length) : (midO s x j r).getD j default = x := by
  unfold midO
  rw [List.getD_eq_getElem?_getD, List.append_assoc, List.getElem?_append_right (by rw [List.length_take]; omega), List.length_take, show j - min j s.length = 0 by omega]
  rfl
theorem midO_pred (s : List Opn) (x : Opn) (j : Nat) (r : List Opn) (hj : j ≤ s.length) (h0 : 0 < j) : (midO s x j r).getD (j - 1) default = s.getD (j - 1) default := by
  unfold midO
  rw [List.getD_eq_getElem?_getD, List.append_assoc, List.getElem?_append_left (by rw [List.length_take]; omega), List.getElem?_take, if_pos (by omega), List.getD_eq_getElem?_getD]
theorem midO_swap (s : List Opn) (x : Opn) (j : Nat) (r : List Opn) (hj : j ≤ s.length) (h0 : 0 < j) : ((midO s x j r).set j (s.getD (j - 1) default)).set (j - 1) x = midO s x (j - 1) r := by
  obtain ⟨i, rfl⟩ : ∃ i, j = i + 1 := ⟨j - 1, by omega⟩
  rw [Nat.add_sub_cancel]
  have hi : i < s.length := by omega
  unfold midO
  rw [List.take_succ_eq_append_getElem hi, List.drop_eq_getElem_cons hi, getD_lt hi]
  have hl : (s.take i).length = i := by rw [List.length_take]; omega
  simp only [List.append_assoc, List.cons_append, List.nil_append, List.singleton_append]
  rw [List.set_append_right _ _ (by omega), hl, show i + 1 - i = 1 by omega]
  simp only [List.set_cons_succ, List.set_cons_zero]
  rw [List.set_append_right _ _ (by omega), hl, Nat.sub_self]
  rfl
theorem midO_start (s : List Opn) (os : List Opn) (k : Nat) (hs : s.length = k) (hk : k < os.length) : s ++ os.drop k = midO s (os.getD k default) k (os.drop (k + 1)) := by
  unfold midO
  rw [List.take_of_length_le (l := s) (by omega), List.drop_of_length_le (l := s) (by omega), List.drop_eq_getElem_cons hk, getD_lt hk]
  simp
theorem midO_end (s : List Opn) (x : Opn) (j : Nat) (r : List Opn) (h : putPos s x s.length = j) : midO s x j r = putO s x ++ r := by
  unfold midO putO
  rw [h]
theorem cmpO_lt (a b : Opn) : decide (cmpO a b < 0) = befB a b := by
  rw [Bool.eq_iff_iff, befB_iff, decide_eq_true_eq]
  unfold cmpO cmpI
  split <;> (repeat split) <;> omega
theorem enters_compareOpenings : ∀ args w, (callFunc 57 args).run Try.prog w = .ok (.enter 57 args) w := enters_of Try.func57 (by kernel_rfl) rfl
/-- the row has been sorted, and nothing else has changed -/
def RetSorted (base : Nat) (v : Value) (os : List Opn) (w : World) (e : Ending) (w' : World) : Prop := e = .returned (.tuple #[]) ∧ OwnOpens w' base v (insTo os os.length) ∧ w.grownBy w' v.ownBlock
set_option maxRecDepth 100000 in
set_option maxHeartbeats 4000000 in
theorem f_insertion (base : Nat) (ao : Option Addr) (n c : Nat) (os : List Opn) (w : World) (hx : OwnOpens w base (.slice ao n c) os) (hl : os.length = n) (hn : n ≤ 12) :
    Calls Try.prog 135 #[.slice ao n c, .int .i64 0, .int .i64 n, .func (.func 57) #[] #[]] w (RetSorted base (.slice ao n c) os w) := by
  have hok := hx.2
  have HX := Lib.hid hx
  have HL := Lib.hid hl
  have HOK := Lib.hid hok
  have HC := Lib.hid (fun a b W => i_compareOpenings a b W)
  have HEN := enters_compareOpenings
  clear hx hok hl
  go_enter Try.func135, Try.ntmps135
  go_wp2
  go_loopw [8] (fun i wr => ∃ k : Nat, 1 ≤ k ∧ k ≤ n + 1 ∧ i = .int .i64 k ∧ Hid (k ≤ n → OwnOpens wr base (.slice ao n c) (insTo os k ++ os.drop k)) ∧ Hid (k = n + 1 → n = 0 ∧ OwnOpens wr base (.slice ao n c) os) ∧ Hid (w.grownBy wr (Value.slice ao n c).ownBlock)) (fun i _ => n + 1 - (intOf i).toNat)
  case atStart =>
    refine ⟨1, Nat.le_refl _, by omega, rfl, Lib.hid (fun h => ?_), Lib.hid (fun h => ⟨by omega, HX.out⟩), Lib.hid (World.grownBy.refl _ _)⟩
    have h0 : 0 < os.length := by have := HL.out; omega
    rw [insTo_succ h0, getD_lt h0]
    have e : insTo os 0 = [] := rfl
    rw [e, putO_nil, List.singleton_append, List.getElem_cons_drop, List.drop_zero]
    exact HX.out
  case round =>
    obtain ⟨k, k1, k2, rfl, HO, HZ, HG⟩ := hrel
    by_cases hlt : k < n
    · have hki : (k : Int) < (n : Int) := by omega
      have hL := HL.out
      have hko : k < os.length := by omega
      have hs := insTo_len os k (by omega)
      have hsok := insTo_ok HOK.out k (by omega)
      have hx0 : (os.getD k default).ok := by rw [getD_lt hko]; exact HOK.out _ (List.getElem_mem _)
      have hst := HO.out (by omega)
      rw [midO_start _ os k hs hko] at hst
      have hsu := insTo_succ hko
      obtain ⟨x, hxe⟩ : ∃ x, os.getD k default = x := ⟨_, rfl⟩
      obtain ⟨s, hse⟩ : ∃ s, insTo os k = s := ⟨_, rfl⟩
      obtain ⟨r, hre⟩ : ∃ r, os.drop (k + 1) = r := ⟨_, rfl⟩
      rw [hxe] at hst hx0 hsu
      rw [hse] at hst hs hsok hsu
      rw [hre] at hst
      have HRE := Lib.hid hre
      have HS := Lib.hid hs
      have HSO := Lib.hid hsok
      have HX0 := Lib.hid hx0
      have HSU := Lib.hid hsu
      have HST := Lib.hid hst
      clear hst hsu hxe hse hre hs hsok hx0 hL hko
      obtain ⟨g, rfl⟩ : ∃ g, ao = some ⟨g, 0, none⟩ := by
        rcases HX.out.1.2 with ⟨h, _⟩ | ⟨g, cap, cur, h, _⟩
        · simp at h; omega
        · simp at h; exact ⟨g, h.1⟩
      go_wp2
      go_loopw [9] (fun i wr => ∃ j : Nat, j ≤ k ∧ i = .int .i64 j ∧ Hid (putPos s x s.length = putPos s x j) ∧ Hid (OwnOpens wr base (.slice (some ⟨g, 0, none⟩) n c) (midO s x j r)) ∧ Hid (w.grownBy wr (some g))) (fun i _ => (intOf i).toNat)
      case atStart => exact ⟨k, Nat.le_refl _, rfl, Lib.hid (by rw [HS.out]), HST, HG⟩
      case round =>
        obtain ⟨j, hj, rfl, HP, HM, HGJ⟩ := hrel
        have hsl := HS.out
        by_cases h0 : 0 < j
        · have hj0 : (0 : Int) < (j : Int) := by omega
          obtain ⟨⟨a0, a1, a2, a3⟩, f0, f1, f2, f3⟩ := HM.out.read4 j (by omega)
          obtain ⟨⟨b0, b1, b2, b3⟩, q0, q1, q2, q3⟩ := HM.out.read4 (j - 1) (by omega)
          rw [midO_at s x j r (by omega)] at a0 a1 a2 a3
          rw [midO_pred s x j r (by omega) h0] at b0 b1 b2 b3
          obtain ⟨y, hye⟩ : ∃ y, s.getD (j - 1) default = y := ⟨_, rfl⟩
          have hsw := midO_swap s x j r (by omega) h0
          have hps : putPos s x j = if befB x y then putPos s x (j - 1) else j := by
            obtain ⟨i, rfl⟩ : ∃ i, j = i + 1 := ⟨j - 1, by omega⟩
            rw [Nat.add_sub_cancel] at hye ⊢
            rw [putPos, hye]
          have hyo : y.ok := by rw [← hye, getD_lt (show j - 1 < s.length by omega)]; exact HSO.out _ (List.getElem_mem _)
          rw [hye] at b0 b1 b2 b3 hsw
          have hcl := cmpO_lt x y
          obtain ⟨bv, hbv⟩ : ∃ b, befB x y = b := ⟨_, rfl⟩
          rw [hbv] at hps hcl
          have HCC := Lib.hid (fun W => HC.out x y W)
          have hw1 : IntKind.i64.wrap ((j : Int) - 1) = (j : Int) - 1 := IntWalk.i64_in _ (by omega)
          have hm0 : (0 : Int) ≤ (j : Int) - 1 := by omega
          have hm1 : (j : Int) - 1 < (n : Int) := by omega
          have hm2 : ¬ (n : Int) ≤ (j : Int) - 1 := by omega
          have hm3 : ((j : Int) - 1).toNat = j - 1 := by omega
          have hn1 : (j : Int) < (n : Int) := by omega
          obtain ⟨cv, hcv⟩ : ∃ v, cmpO x y = v := ⟨_, rfl⟩
          rw [hcv] at hcl HCC
          have HSW := Lib.hid hsw
          have HYE := Lib.hid hye
          have HPS := Lib.hid hps
          have HXO := HX0.out
          have HYO := Lib.hid hyo
          obtain ⟨x1, x2, x3, x4⟩ := x
          obtain ⟨y1, y2, y3, y4⟩ := y
          dsimp only at a0 a1 a2 a3 b0 b1 b2 b3
          clear hsw hps hyo hye hbv hcv hsl
          have HMP := Lib.hid (HM.out.put4 j (by omega) ⟨y1, y2, y3, y4⟩ HYO.out)
          have HMQ := Lib.hid (HMP.out.put4 (j - 1) (by omega) ⟨x1, x2, x3, x4⟩ HXO)
          obtain ⟨α, hne, F, hK⟩ := cls_of wr
          have HK := Lib.hid hK
          have p0 := hK.cell a0
          have p1 := hK.cell a1
          have p2 := hK.cell a2
          have p3 := hK.cell a3
          have s0 := hK.cell b0
          have s1 := hK.cell b1
          have s2 := hK.cell b2
          have s3 := hK.cell b3
          have d0 : decide ((0 : Int) < (j : Int)) = true := by (simp <;> omega)
          clear hK HXO
          go_upto_region 4 with fail
          refine wp_region_cls F (by kernel_rfl) (by kernel_rfl) HK.out.drew ?_
          repeat (go_big_quiet_step ((first | (go_at_call 57; exact HK.out.retE (HCC.out _)))))
          refine wpQuiet_nil ?_
          rintro _ ⟨z, rfl⟩
          have HE := Lib.hid (HK.out.ext z)
          obtain ⟨W, hW⟩ : ∃ W, F z = W := ⟨_, rfl⟩
          rw [hW] at HE ⊢
          clear hW p0 p1 p2 p3 s0 s1 s2 s3 HK hw1
          have HM2 := Lib.hid (HM.out.ext HE.out)
          have HG2 := Lib.hid (grown_ext_by HGJ.out HE.out)
          cases bv with
          | false =>
            have HP2 : Hid (putPos s ⟨x1, x2, x3, x4⟩ s.length = j) := Lib.hid (by rw [HP.out, HPS.out]; rfl)
            have hd : decide (cv < 0) = false := hcl
            go_wp2
            go_roundw
            case rel =>
              have hO := HM2.out
              rw [midO_end _ _ _ _ HP2.out, ← HSU.out, ← HRE.out] at hO
              first | exact ⟨k + 1, by omega, by omega, by go_num, Lib.hid (fun _ => hO), Lib.hid (fun h => by omega), HG2⟩ | ((repeat apply Exists.intro); exact ⟨⟨k + 1, by omega, by omega, by go_num, Lib.hid (fun _ => hO), Lib.hid (fun h => by omega), HG2⟩, rfl⟩)
            case measure => (simp [intOf] <;> omega)
          | true =>
            have HP2 : Hid (putPos s ⟨x1, x2, x3, x4⟩ s.length = putPos s ⟨x1, x2, x3, x4⟩ (j - 1)) := Lib.hid (by rw [HP.out, HPS.out]; rfl)
            have hd : decide (cv < 0) = true := hcl
            have HMP := Lib.hid (HM2.out.put4 j (by omega) ⟨y1, y2, y3, y4⟩ HYO.out)
            have HMQ := Lib.hid (HMP.out.put4 (j - 1) (by omega) ⟨x1, x2, x3, x4⟩ HX0.out)
            have HGQ := Lib.hid (grown_set_by (j := (j - 1) * 4 + 3) (grown_set_by (j := (j - 1) * 4 + 2) (grown_set_by (j := (j - 1) * 4 + 1) (grown_set_by (j := (j - 1) * 4) (grown_set_by (j := j * 4 + 3) (grown_set_by (j := j * 4 + 2) (grown_set_by (j := j * 4 + 1) (grown_set_by (j := j * 4) HG2.out (.int .i64 y1)) (.int .i64 y2)) (.int .i64 y3)) (.int .i64 y4)) (.int .i64 x1)) (.int .i64 x2)) (.int .i64 x3)) (.int .i64 x4))
            obtain ⟨⟨a0, a1, a2, a3⟩, f0, f1, f2, f3⟩ := HM2.out.read4 j (by omega)
            obtain ⟨⟨b0, b1, b2, b3⟩, q0, q1, q2, q3⟩ := HM2.out.read4 (j - 1) (by omega)
            rw [midO_at s _ j r (by have := HS.out; omega)] at a0 a1 a2 a3
            rw [midO_pred s _ j r (by have := HS.out; omega) h0] at b0 b1 b2 b3
            rw [HYE.out] at b0 b1 b2 b3
            dsimp only at a0 a1 a2 a3 b0 b1 b2 b3
            have hlt2 : ¬ (n : Int) ≤ (j : Int) := by omega
            have hne1 : ¬ j = j - 1 := by omega
            have hw1 : IntKind.i64.wrap ((j : Int) - 1) = (j : Int) - 1 := IntWalk.i64_in _ (by omega)
            go_upto_region 6 with fail
            clear d0 hd hcl
            go_region
            go_wp2
            go_roundw
            case rel =>
              have hO := HMQ.out.ext (Ext.refl _).drew
              rw [HSW.out] at hO
              have HO2 := Lib.hid hO
              have HG3 := Lib.hid (grown_ext_by HGQ.out (Ext.refl _).drew)
              first | exact ⟨j - 1, by omega, by go_num, HP2, HO2, HG3⟩ | ((repeat apply Exists.intro); exact ⟨⟨j - 1, by omega, by go_num, HP2, HO2, HG3⟩, rfl⟩)
            case measure => (simp [intOf] <;> omega)
        · obtain rfl : j = 0 := by omega
          have HP2 : Hid (putPos s x s.length = 0) := HP
          have d0 : decide ((0 : Int) < 0) = false := rfl
          obtain ⟨α, hne, F, hK⟩ := cls_of wr
          have HK := Lib.hid hK
          clear hK hsl
          go_upto_region 4 with fail
          refine wp_region_cls F (by kernel_rfl) (by kernel_rfl) HK.out.drew ?_
          repeat (go_big_quiet_step ((fail)))
          refine wpQuiet_nil ?_
          rintro _ ⟨z, rfl⟩
          have HE := Lib.hid (HK.out.ext z)
          have HM2 := Lib.hid (HM.out.ext HE.out)
          have HG2 := Lib.hid (grown_ext_by HGJ.out HE.out)
          go_wp2
          go_roundw
          case rel =>
            have hO := HM2.out
            rw [midO_end _ _ _ _ HP2.out, ← HSU.out, ← HRE.out] at hO
            first | exact ⟨k + 1, by omega, by omega, by go_num, Lib.hid (fun _ => hO), Lib.hid (fun h => by omega), HG2⟩ | ((repeat apply Exists.intro); exact ⟨⟨k + 1, by omega, by omega, by go_num, Lib.hid (fun _ => hO), Lib.hid (fun h => by omega), HG2⟩, rfl⟩)
          case measure => (simp [intOf] <;> omega)
    · have HF : Hid (OwnOpens wr base (.slice ao n c) (insTo os os.length)) := Lib.hid (by
        have hL := HL.out
        by_cases e : k = n
        · have h := HO.out (by omega)
          rw [List.drop_of_length_le (by omega), List.append_nil] at h
          rwa [show os.length = k by omega]
        · obtain ⟨h0, h⟩ := HZ.out (by omega)
          have : os = [] := List.length_eq_zero_iff.1 (by omega)
          subst this
          exact h)
      have hki : ¬ (k : Int) < (n : Int) := by omega
      go_wp2
      go_end0
      exact ⟨rfl, HF.out, HG.out⟩
set_option maxRecDepth 100000 in
set_option maxHeartbeats 2000000 in
theorem f_pdq (base : Nat) (ao : Option Addr) (n c : Nat) (os : List Opn) (lim : Int) (w : World) (hx : OwnOpens w base (.slice ao n c) os) (hl : os.length = n) (hn : n ≤ 12) :
    Calls Try.prog 103 #[.slice ao n c, .int .i64 0, .int .i64 n, .int .i64 lim, .func (.func 57) #[] #[]] w (RetSorted base (.slice ao n c) os w) := by
  have HI := Lib.hid (f_insertion base ao n c os w hx hl hn)
  clear hx hl
  go_enter Try.func103, Try.ntmps103
  go_wp2
  refine wp_loop_rounds 1 ?_
  rw [rounds_succ]
  go_wp2_with (go_at_call 135; refine HI.out.mono ?_; rintro e w' ⟨rfl, ho, hg⟩)
  (try simp only [Exit.inBlock, Exit.then])
  refine bodyPost_ret (results_none rfl _ _ _) rfl ?_
  exact ⟨rfl, ho, hg⟩
set_option maxRecDepth 100000 in
set_option maxHeartbeats 2000000 in
theorem f_SortFunc (base : Nat) (ao : Option Addr) (n c : Nat) (os : List Opn) (w : World) (hx : OwnOpens w base (.slice ao n c) os) (hl : os.length = n) (hn : n ≤ 12) :
    Calls Try.prog 70 #[.slice ao n c, .func (.func 57) #[] #[]] w (RetSorted base (.slice ao n c) os w) := by
  have HI := Lib.hid (fun lim => f_pdq base ao n c os lim w hx hl hn)
  clear hx hl
  go_enter Try.func70, Try.ntmps70
  have hw : IntKind.u64.wrap (n : Int) = (n : Int) := by rw [IntKind.wrap_u64]; omega
  go_wp2_with (first
    | (go_at_call 104; refine (Try.bits_Len (n : Int) _ (by omega) (by omega)).mono ?_; rintro e w' ⟨rfl, rfl⟩)
    | (go_at_call 103; refine (HI.out _).mono ?_; rintro e w' ⟨rfl, ho, hg⟩))
  go_end0
  exact ⟨rfl, ho, hg⟩
end Go.Proofs.Ytnhmcmohnpbcjaa
