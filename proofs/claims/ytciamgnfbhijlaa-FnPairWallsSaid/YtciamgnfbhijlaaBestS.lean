/- The reference's best course above another one: the walk. -/
import Derived.Test.YtciamgnfbhijlaaBestS0
import Derived.Test.YtciamgnfbhijlaaCount
import Derived.Deep.RegionHeld3
import Derived.Deep.DeepCutAuto
import Derived.IntWalk
namespace Go.Proofs.Ytciamgnfbhijlaa
open Go.RowKit
set_option linter.unusedSimpArgs false
set_option linter.unusedVariables false
set_option linter.unnecessarySimpa false

def cS : Option Rw → Int | none => -1 | some r => r.c
def pS : Option Rw → Int | none => 0 | some r => r.p
def tS : Option Rw → ByteArray | none => ByteArray.empty | some r => mkS r.t
/-- a course from a place on, as the reference holds it -/
def cellsS (o : Option Rw) : List Value := [.int .i64 (cS o), .int .i64 (pS o), .string (tS o)]
def z3 : List Value := [.int .i64 0, .int .i64 0, .string ByteArray.empty]
theorem cellsS_len (o : Option Rw) : (cellsS o).length = 3 := rfl
theorem info_l08T : (Try.prog.info? 64).map (fun i => (i.zero, i.size, i.bytes)) = some (some (.agg #[.int .i64 0, .int .i64 0, .string ByteArray.empty]), 3, 32) := by kernel_rfl
/-- the best of the first k letters -/
def nowS (ok : Int → Bool) (L : Int) (d k : Nat) : Option Rw := (order5.take k).foldl (fun now b => pickBy ltS now (cand ok L (d + 1) (rowsT ok L d) b)) none
theorem nowS_zero (ok : Int → Bool) (L : Int) (d : Nat) : nowS ok L d 0 = none := rfl
theorem nowS_succ (ok : Int → Bool) (L : Int) (d k : Nat) (hk : k < 5) : nowS ok L d (k + 1) = pickBy ltS (nowS ok L d k) (cand ok L (d + 1) (rowsT ok L d) (order5.getD k 0)) := by
  unfold nowS
  rw [List.take_succ_eq_append_getElem (show k < order5.length from hk), List.foldl_append, List.getD_eq_getElem?_getD, List.getElem?_eq_getElem (show k < order5.length from hk)]
  rfl
theorem nowS_five (ok : Int → Bool) (L : Int) (d : Nat) : nowS ok L d 5 = best ok L (d + 1) := rfl
theorem nowS_good (ok : Int → Bool) (L : Int) (d k : Nat) (hk : k ≤ 5) : ∀ r, nowS ok L d k = some r → Good (d + 1) r := by
  have hb : ∀ d', d' ≤ d → ∀ r, best ok L d' = some r → Good d' r := fun d' _ => best_good ok L d'
  induction k with
  | zero => intro r h; rw [nowS_zero] at h; cases h
  | succ k ih =>
    intro r h
    rw [nowS_succ ok L d k (by omega)] at h
    rcases pickBy_from h with h | h
    · exact ih (by omega) r h
    · have hk5 : k = 0 ∨ k = 1 ∨ k = 2 ∨ k = 3 ∨ k = 4 := by omega
      rcases hk5 with rfl | rfl | rfl | rfl | rfl
      · exact cand_good hb qB_S (by decide) h
      · exact cand_good hb qB_H (by decide) h
      · exact cand_good hb qB_T (by decide) h
      · exact cand_good hb qB_B (by decide) h
      · exact cand_good hb qB_C (by decide) h
theorem ord_q (k : Nat) (hk : k < 5) : ∃ q : Nat, 1 ≤ q ∧ q ≤ 4 ∧ qB (order5.getD k 0) = q := by
  have hk5 : k = 0 ∨ k = 1 ∨ k = 2 ∨ k = 3 ∨ k = 4 := by omega
  rcases hk5 with rfl | rfl | rfl | rfl | rfl
  · exact ⟨4, by omega, by omega, qB_S⟩
  · exact ⟨2, by omega, by omega, qB_H⟩
  · exact ⟨3, by omega, by omega, qB_T⟩
  · exact ⟨2, by omega, by omega, qB_B⟩
  · exact ⟨1, by omega, by omega, qB_C⟩
def lessO (a : Rw) : Option Rw → Bool
  | none => true
  | some b => ltS a b
theorem pick_less (a : Rw) (now : Option Rw) : pickBy ltS now (some a) = if lessO a now then some a else now := by
  cases now with
  | none => rfl
  | some b => rfl
theorem mkS_toList (l : List UInt8) : (mkS l).toList = l := by rw [ByteArray.toList_eq]; rfl
theorem lessG_cells (a : Rw) (now : Option Rw) (ha : 0 ≤ a.c) (hb : ∀ b, now = some b → 0 ≤ b.c) : lessG a.c a.p (mkS a.t) (cS now) (pS now) (tS now) = lessO a now := by
  cases now with
  | none => unfold lessG; rw [if_pos (Or.inr (by decide))]; simp [lessO, ha, cS]
  | some b =>
    have := hb b rfl
    have h2 : ¬ (a.c < 0 ∨ cS (some b) < 0) := by simp only [cS]; omega
    unfold lessG
    rw [if_neg h2]
    simp only [cS, pS, tS, lessO, ltS, mkS_toList]
    rfl
/-- a letter cut out of the order, ahead of a text -/
theorem extract_one (M : ByteArray) (k : Nat) (h : k < M.size) : M.extract k (k + 1) = mkS [M[k]] := by
  apply ByteArray.ext
  apply Array.ext'
  have h' : k < M.data.toList.length := by simpa using h
  simp only [ByteArray.data_extract, Array.toList_extract, List.extract_eq_take_drop, mkS]
  rw [show k + 1 - k = 1 by omega, List.drop_eq_getElem_cons h']
  rfl
abbrev TC (w : World) (g o : Nat) (a b c : Value) : Prop := w.cell? ⟨g, o, none⟩ = some a ∧ w.cell? ⟨g, o + 1, none⟩ = some b ∧ w.cell? ⟨g, o + 2, none⟩ = some c
theorem TC.ext {w w' : World} {g o : Nat} {a b c : Value} (h : TC w g o a b c) (e : Ext w w') : TC w' g o a b c := ⟨e.cell h.1, e.cell h.2.1, e.cell h.2.2⟩
theorem keepTC {w2 W W' : World} {g o : Nat} {a b c : Value} (h : TC W g o a b c ∧ Ext w2 W) (e : Ext W W') : TC W' g o a b c ∧ Ext w2 W' := ⟨h.1.ext e, h.2.trans e⟩
set_option maxRecDepth 100000 in
set_option maxHeartbeats 8000000 in
theorem s_l08Above (L : Nat) (ao : Option Addr) (n c : Nat) (xs : List Int) (lap : Int) (w : World) (hL1 : 1 ≤ L) (hL : L ≤ 200) (hx : Ints w ao n xs) (hb : Near xs) :
    Calls Try.prog 42 #[.int .i64 L, .slice ao n c, .int .i64 lap] w (RetE (.agg (cellsS (best (farB lap xs) L L)).toArray) w) := by
  obtain ⟨i0, hi, hz0, hz1, hz2⟩ := info_parts info_l08T
  obtain ⟨M, hM, hMs, hMb⟩ := order_txt
  have HO := Lib.hid (fun W => s_l06Order W)
  rw [← hM] at HO
  have HMB := Lib.hid hMb
  have HX := Lib.hid hx
  have HFar := Lib.hid (fun W (e : Ext w W) y y1 y2 => s_l08Far ao n c xs y lap W (hx.ext e) hb y1 y2)
  obtain ⟨ok, hok⟩ : ∃ ok, farB lap xs = ok := ⟨_, rfl⟩
  rw [hok] at HFar ⊢
  clear hM hMb hx hb hok
  go_enter Try.func42, Try.ntmps42
  go_wp2_with (first | (go_at_call 53; refine (HO.out _).mono ?_; rintro e w' ⟨rfl, rfl⟩) | (at_make; refine wpList_make_full _ rfl _ _ 98 rfl (w.heap.size + 1) 64 i0 (.agg #[.int .i64 0, .int .i64 0, .string ByteArray.empty]) 3 Try.underlying98 hi hz0 hz1 _ _ _ _ (L + 1) rfl rfl rfl rfl ?b2 ?b3 ?b4 ?_))
  case b2 => rw [hz2]; omega
  case b3 => unfold maxLen; omega
  case b4 => simp
  intro w2 hown hgrow
  have e2 : Ext (w.alloc (.cells #[.int .i64 0, .int .i64 0, .string ⟨#[]⟩] 64)) w2 := Ext.grown (Ext.refl _) hgrow (by intro k h; cases h)
  clear hgrow hi hz0 hz1 hz2
  have hB : Box 64 (w.alloc (.cells #[.int .i64 0, .int .i64 0, .string ⟨#[]⟩] 64)) w.heap.size w.heap.size z3 := Box.new 64 w w.heap.size z3 (Nat.le_refl _)
  have eW : Ext w (w.alloc (.cells #[.int .i64 0, .int .i64 0, .string ⟨#[]⟩] 64)) := (Ext.refl w).alloc _
  have hW1 : (w.alloc (.cells #[.int .i64 0, .int .i64 0, .string ⟨#[]⟩] 64)).heap.size = w.heap.size + 1 := by simp
  obtain ⟨W1, hW1e⟩ : ∃ W1, w.alloc (.cells #[.int .i64 0, .int .i64 0, .string ⟨#[]⟩] 64) = W1 := ⟨_, rfl⟩
  rw [hW1e] at e2 hB eW hW1
  have HW1 := Lib.hid hW1
  clear hW1e hW1
  rw [made3] at hown
  have ho0 : OwnRecs 64 3 w2 (w.heap.size + 1) (.slice (some ⟨w.heap.size + 1, 0, none⟩) (L + 1) (L + 1)) (List.replicate (L + 1) z3) := ⟨by rw [List.length_replicate]; exact hown, fun r hr => by rw [List.eq_of_mem_replicate hr]; rfl⟩
  have hz : (List.replicate (L + 1) z3).getD L [] = z3 := by rw [List.getD_eq_getElem?_getD, List.getElem?_replicate, if_pos (by omega)]; rfl
  obtain ⟨r0, r1, r2, f0, f1, f2⟩ := ho0.reads3 L (by omega) hz
  have HT0 : Hid (OwnRecs 64 3 (((w2.setCell ⟨w.heap.size + 1, L * 3, none⟩ (.int .i64 0)).setCell ⟨w.heap.size + 1, L * 3 + 1, none⟩ (.int .i64 0)).setCell ⟨w.heap.size + 1, L * 3 + 2, none⟩ (.string ⟨#[]⟩)) (w.heap.size + 1) (.slice (some ⟨w.heap.size + 1, 0, none⟩) (L + 1) (L + 1)) (tab (best ok L) cellsS z3 L 0)) := Lib.hid (by
    have := ho0.put3 L (by omega) (.int .i64 0) (.int .i64 0) (.string ⟨#[]⟩)
    rw [← tab_zero]
    exact this)
  have HE0 : Hid (Ext W1 (((w2.setCell ⟨w.heap.size + 1, L * 3, none⟩ (.int .i64 0)).setCell ⟨w.heap.size + 1, L * 3 + 1, none⟩ (.int .i64 0)).setCell ⟨w.heap.size + 1, L * 3 + 2, none⟩ (.string ⟨#[]⟩))) := Lib.hid (by
    have h := HW1.out
    exact ((e2.setCell (by simp; omega) _).setCell (by simp; omega) _).setCell (by simp; omega) _)
  clear hown ho0 hz e2
  have hLi : (L : Int) < (L : Int) + 1 := by omega
  go_wp2
  go_loopw [9] (fun i wr => ∃ d : Nat, d ≤ L ∧ i = .int .i64 ((L : Int) - 1 - d) ∧ OwnRecs 64 3 wr (w.heap.size + 1) (.slice (some ⟨w.heap.size + 1, 0, none⟩) (L + 1) (L + 1)) (tab (best ok L) cellsS z3 L d) ∧ Ext W1 wr) (fun i _ => (intOf i + 1).toNat)
  case atStart => exact ⟨0, by omega, by simp, HT0.out, HE0.out⟩
  case round =>
    obtain ⟨d, hd, rfl, ho, er⟩ := hrel
    clear r0 r1 r2 f0 f1 f2 HT0 HE0
    by_cases hdl : d < L
    · have hge : (d : Int) ≤ (L : Int) - 1 := by omega
      go_wp2
      go_loopw [11] (fun i wi => ∃ k : Nat, k ≤ 5 ∧ i = .int .i64 k ∧ Box 64 wi wr.heap.size wr.heap.size (cellsS (nowS ok L d k)) ∧ Ext wr wi) (fun i _ => 5 - (intOf i).toNat)
      case atStart => exact ⟨0, by omega, rfl, by rw [nowS_zero]; exact Box.new _ _ _ _ (Nat.le_refl _), (Ext.refl wr).alloc _⟩
      case round =>
        obtain ⟨k, hk, rfl, hbx, ei⟩ := hrel
        by_cases hkl : k < 5
        · have hkM : k < M.size := by omega
          have hoj := order_at M HMB.out k hkM
          obtain ⟨qq, q1, q4, hq⟩ := ord_q k hkl
          have hns := nowS_succ ok L d k hkl
          rw [hoj] at hns hq
          rw [cand_eq ok L d qq _ hq q1] at hns
          have hng := nowS_good ok L d k hk
          have HQ : Hid (∀ W, Calls Try.prog 55 #[.int .u8 (M[k].toNat : Int)] W (RetV (.int .i64 qq) W)) := Lib.hid (fun W => by
            have := s_l02Quarters (M[k].toNat : Int) W
            rw [show qI (M[k].toNat : Int) = (qq : Int) from hq] at this
            exact this)
          obtain ⟨now, hnow⟩ : ∃ now, nowS ok L d k = now := ⟨_, rfl⟩
          rw [hnow] at hbx hns hng
          have HNS := Lib.hid hns
          have HNG := Lib.hid hng
          have HX1 := Lib.hid hbx
          clear hoj hns hng hnow hbx hq
          by_cases hgt : d + 1 < qq
          · have HN : Hid (nowS ok L d (k + 1) = now) := Lib.hid (by rw [HNS.out, if_pos hgt]; rfl)
            have hgi : (L : Int) < (L : Int) - 1 - d + qq := by omega
            clear HNS
            go_wp2_with (first | (go_at_call 55; refine (HQ.out _).mono ?_; rintro e w' ⟨rfl, rfl⟩))
            go_roundw
            case rel => first | exact ⟨k + 1, by omega, by go_num, by rw [HN.out]; exact HX1.out, ei⟩ | ((repeat apply Exists.intro); exact ⟨⟨k + 1, by omega, by go_num, by rw [HN.out]; exact HX1.out, ei⟩, rfl⟩)
            case measure => simp [intOf]; omega
          · have hnx : ((L : Int) - 1 - d + qq).toNat = L - (d + 1 - qq) := by omega
            have hn0 : (0 : Int) ≤ (L : Int) - 1 - d + qq := by omega
            have hn1 : (L : Int) - 1 - d + qq < (L : Int) + 1 := by omega
            have hn2 : ¬ (L : Int) < (L : Int) - 1 - d + qq := by omega
            have hg := tab_get (best ok L) cellsS z3 [] L d (L - (d + 1 - qq)) (by omega) (by omega)
            rw [show L - (L - (d + 1 - qq)) = d + 1 - qq by omega] at hg
            have hbg := best_good ok L (d + 1 - qq)
            obtain ⟨o, hoo⟩ : ∃ o, best ok L (d + 1 - qq) = o := ⟨_, rfl⟩
            rw [hoo] at hg hbg HNS
            have ho2 := ho.ext ei
            obtain ⟨N, hNN⟩ : ∃ N, L - (d + 1 - qq) = N := ⟨_, rfl⟩
            rw [hNN] at hg hnx
            have hNL : N < L + 1 := by omega
            clear hoo
            rcases o with _ | r
            · obtain ⟨r0, r1, r2, _, _, _⟩ := ho2.reads3 N (by omega) (a := .int .i64 (-1)) (b := .int .i64 0) (c := .string ByteArray.empty) hg
              have HN : Hid (nowS ok L d (k + 1) = now) := Lib.hid (by rw [HNS.out, if_neg hgt]; rfl)
              clear HNS hg ho2 hNN hbg
              go_wp2_with (first | (go_at_call 55; refine (HQ.out _).mono ?_; rintro e w' ⟨rfl, rfl⟩))
              go_roundw
              case rel => first | exact ⟨k + 1, by omega, by go_num, by rw [HN.out]; exact HX1.out, ei⟩ | ((repeat apply Exists.intro); exact ⟨⟨k + 1, by omega, by go_num, by rw [HN.out]; exact HX1.out, ei⟩, rfl⟩)
              case measure => simp [intOf]; omega
            · have hgd := hbg r rfl
              have hgb := hgd.bd
              obtain ⟨r0, r1, r2, _, _, _⟩ := ho2.reads3 N (by omega) (a := .int .i64 r.c) (b := .int .i64 r.p) (c := .string (mkS r.t)) hg
              obtain ⟨bv, hbv⟩ : ∃ bv, ok ((L : Int) - (d + 1 : Nat) + qq) = bv := ⟨_, rfl⟩
              have HF : Hid (∀ W, Ext w W → Calls Try.prog 62 #[.slice ao n c, .int .i64 ((L : Int) - 1 - d + qq), .int .i64 lap] W (RetV (.bool bv) W)) := Lib.hid (fun W e => by
                have h := HFar.out W e ((L : Int) - 1 - d + qq) (by omega) (by omega)
                rw [show (L : Int) - 1 - d + qq = (L : Int) - (d + 1 : Nat) + qq by omega, hbv] at h
                rw [show (L : Int) - 1 - d + qq = (L : Int) - (d + 1 : Nat) + qq by omega]
                exact h)
              have EW2 := (eW.trans er).trans ei
              by_cases hgo : qq < d + 1 ∧ bv = false
              · obtain ⟨hlt, rfl⟩ := hgo
                have HN : Hid (nowS ok L d (k + 1) = now) := Lib.hid (by rw [HNS.out, if_neg hgt]; simp only []; rw [if_pos ⟨hlt, hbv⟩]; rfl)
                have hlt2 : (L : Int) - 1 - d + qq < (L : Int) := by omega
                have HEW := Lib.hid EW2
                clear HNS hg ho2 hNN hbg hbv hgd EW2
                go_wp2_with (first | (go_at_call 55; refine (HQ.out _).mono ?_; rintro e w' ⟨rfl, rfl⟩) | (go_at_call 62; refine (HF.out _ HEW.out).mono ?_; rintro e w' ⟨rfl, rfl⟩))
                go_roundw
                case rel => first | exact ⟨k + 1, by omega, by go_num, by rw [HN.out]; exact HX1.out, ei⟩ | ((repeat apply Exists.intro); exact ⟨⟨k + 1, by omega, by go_num, by rw [HN.out]; exact HX1.out, ei⟩, rfl⟩)
                case measure => simp [intOf]; omega
              · have HN : Hid (nowS ok L d (k + 1) = if lessO (ahead M[k] r) now then some (ahead M[k] r) else now) := Lib.hid (by
                  rw [HNS.out, if_neg hgt]
                  simp only []
                  rw [if_neg (fun h => hgo ⟨h.1, hbv.symm.trans h.2⟩), pick_less])
                have hex := extract_one M k hkM
                obtain ⟨E1, hE1⟩ : ∃ E1, M.extract k (k + 1) = E1 := ⟨_, rfl⟩
                rw [hE1] at hex
                have hE1s : E1.size = 1 := by rw [hex, mkS_size]; rfl
                have hrs : (mkS r.t).size ≤ 400 := by rw [mkS_size]; have := hgd.le; omega
                obtain ⟨rt, hrt⟩ : ∃ rt, mkS r.t = rt := ⟨_, rfl⟩
                have htx : E1 ++ rt = mkS (ahead M[k] r).t := by rw [hex, ← hrt, mkS_app]; rfl
                rw [hrt] at r2 hrs
                have HTX := Lib.hid htx
                have HCost : Hid (∀ W, Calls Try.prog 63 #[.int .u8 (M[k].toNat : Int)] W (RetV (.int .i64 (if cutB M[k] then 1 else 0)) W)) := Lib.hid (fun W => s_l08Cost _ W)
                obtain ⟨cc, hcc⟩ : ∃ cc : Int, (if cutB M[k] then (1 : Int) else 0) = cc := ⟨_, rfl⟩
                have hcb : 0 ≤ cc ∧ cc ≤ 1 := by rw [← hcc]; split <;> omega
                rw [hcc] at HCost
                have HA : Hid (cellsS (some (ahead M[k] r)) = [.int .i64 (r.c + cc), .int .i64 (r.p + 1), .string (E1 ++ rt)]) := Lib.hid (by rw [htx]; unfold cellsS cS pS tS ahead; rw [hcc])
                have HEW := Lib.hid EW2
                have hk1 : IntKind.i64.wrap ((k : Int) + 1) = (k : Int) + 1 := IntWalk.i64_in _ (by omega)
                have hk2 : (0 : Int) ≤ (k : Int) + 1 := by omega
                have hk3 : ((k : Int) + 1).toNat = k + 1 := by omega
                have hk4 : (k : Int) + 1 ≤ 5 := by omega
                have hs1 : ¬ (9223372036854775807 < 1 + rt.size) := by omega
                have hs2 : ¬ (9223372036854775807 < E1.size + rt.size) := by omega
                have hk5 : (0 : Int) ≤ (k : Int) := by omega
                have hk6 : (k : Int) ≤ (k : Int) + 1 := by omega
                have hk7 : k ≤ k + 1 := by omega
                have hk8 : k + 1 ≤ 5 := by omega
                have hr1 : IntKind.i64.wrap (r.c + cc) = r.c + cc := IntWalk.i64_in _ (by omega)
                have hr2 : IntKind.i64.wrap (r.p + 1) = r.p + 1 := IntWalk.i64_in _ (by omega)
                have S0 : TC wr (w.heap.size + 1) (N * 3) (.int .i64 r.c) (.int .i64 r.p) (.string rt) := ⟨r0, r1, r2⟩
                obtain ⟨x0, y0⟩ := HX1.out.at 0 (by rw [cellsS_len]; decide) _ rfl
                have HXB := Lib.hid ((Box.new 64 wr wr.heap.size [.int .i64 (r.c + cc), .int .i64 (r.p + 1), .string (E1 ++ rt)] (Nat.le_refl _)).ext (Ext.refl _).drew)
                have HNB := Lib.hid (HX1.out.ext ((Ext.refl wr).alloc (.cells #[.int .i64 (r.c + cc), .int .i64 (r.p + 1), .string (E1 ++ rt)] 64)).drew)
                have HEX := Lib.hid (ei.trans ((Ext.refl wr).alloc (.cells #[.int .i64 (r.c + cc), .int .i64 (r.p + 1), .string (E1 ++ rt)] 64)).drew)
                have hles : lessG (r.c + cc) (r.p + 1) (E1 ++ rt) (cS now) (pS now) (tS now) = lessO (ahead M[k] r) now := by
                  rw [← lessG_cells (ahead M[k] r) now (by simp only [ahead]; rw [hcc]; omega) (fun b h => (HNG.out b h).bd.1), htx]
                  simp only [ahead, hcc]
                have HLess := Lib.hid (fun W => s_l08Less (r.c + cc) (r.p + 1) (E1 ++ rt) (cS now) (pS now) (tS now) W)
                rw [hles] at HLess
                obtain ⟨lo, hlo⟩ : ∃ lo, lessO (ahead M[k] r) now = lo := ⟨_, rfl⟩
                rw [hlo] at HLess HN
                clear hles hlo
                by_cases hlt : qq < d + 1
                · have hbt : bv = true := by
                    cases bv with
                    | true => rfl
                    | false => exact absurd ⟨hlt, rfl⟩ hgo
                  subst hbt
                  have hlt2 : (L : Int) - 1 - d + qq < (L : Int) := by omega
                  clear HNS hg ho2 hNN hbg hbv hgd EW2 hex hrt htx hgo hcc
                  go_upto_region 13 with (first | (go_at_call 55; refine (HQ.out _).mono ?_; rintro e w' ⟨rfl, rfl⟩) | (go_at_call 62; refine (HF.out _ HEW.out).mono ?_; rintro e w' ⟨rfl, rfl⟩))
                  go_region_held3 (fun W => TC W (w.heap.size + 1) (N * 3) (.int .i64 r.c) (.int .i64 r.p) (.string rt) ∧ Ext wr W) (first | exact ⟨S0.ext (Ext.refl _).drew, (Ext.refl _).drew⟩ | exact ⟨S0.ext ((Ext.refl _).alloc _).drew, ((Ext.refl _).alloc _).drew⟩) (first | (go_at_call 63; refine (HCost.out _).mono ?_; rintro e w' ⟨rfl, rfl⟩))
                  all_goals
                    obtain ⟨a0, _⟩ := HXB.out.at 0 (by simp) _ rfl
                    obtain ⟨a1, _⟩ := HXB.out.at 1 (by simp) _ rfl
                    obtain ⟨a2, _⟩ := HXB.out.at 2 (by simp) _ rfl
                    obtain ⟨b0, g0⟩ := HNB.out.at 0 (by rw [cellsS_len]; decide) _ rfl
                    obtain ⟨b1, g1⟩ := HNB.out.at 1 (by rw [cellsS_len]; decide) _ rfl
                    obtain ⟨b2, g2⟩ := HNB.out.at 2 (by rw [cellsS_len]; decide) _ rfl
                    cases lo with
                    | true =>
                      go_wp2_with (go_at_call 64; refine (HLess.out _).mono ?_; rintro e w5 ⟨rfl, e5⟩; replace a0 := e5.cell a0; replace a1 := e5.cell a1; replace a2 := e5.cell a2; obtain ⟨b0, g0⟩ := (HNB.out.ext e5).at 0 (by rw [cellsS_len]; decide) _ rfl; obtain ⟨b1, g1⟩ := (HNB.out.ext e5).at 1 (by rw [cellsS_len]; decide) _ rfl; obtain ⟨b2, g2⟩ := (HNB.out.ext e5).at 2 (by rw [cellsS_len]; decide) _ rfl)
                      go_roundw
                      case rel =>
                        have hp := ((((HNB.out.ext e5).put 0 (by rw [cellsS_len]; decide) (.int .i64 (r.c + cc))).put 1 (by rw [List.length_set, cellsS_len]; decide) (.int .i64 (r.p + 1))).put 2 (by rw [List.length_set, List.length_set, cellsS_len]; decide) (.string (E1 ++ rt)))
                        rw [three_list (cellsS_len now)] at hp
                        have hn : cellsS (nowS ok L d (k + 1)) = [.int .i64 (r.c + cc), .int .i64 (r.p + 1), .string (E1 ++ rt)] := by rw [HN.out, if_pos (by trivial), HA.out]
                        first | exact ⟨k + 1, by omega, by go_num, by rw [hn]; exact hp, (((HEX.out.trans e5).setCell (Nat.le_refl _) _).setCell (Nat.le_refl _) _).setCell (Nat.le_refl _) _⟩ | ((repeat apply Exists.intro); exact ⟨⟨k + 1, by omega, by go_num, by rw [hn]; exact hp, (((HEX.out.trans e5).setCell (Nat.le_refl _) _).setCell (Nat.le_refl _) _).setCell (Nat.le_refl _) _⟩, rfl⟩)
                      case measure => simp [intOf]; omega
                    | false =>
                      go_wp2_with (go_at_call 64; refine (HLess.out _).mono ?_; rintro e w5 ⟨rfl, e5⟩)
                      go_roundw
                      case rel =>
                        have hn : nowS ok L d (k + 1) = now := by rw [HN.out, if_neg (by simp)]
                        first | exact ⟨k + 1, by omega, by go_num, by rw [hn]; exact HNB.out.ext e5, HEX.out.trans e5⟩ | ((repeat apply Exists.intro); exact ⟨⟨k + 1, by omega, by go_num, by rw [hn]; exact HNB.out.ext e5, HEX.out.trans e5⟩, rfl⟩)
                      case measure => simp [intOf]; omega
                · have hlt2 : ¬ (L : Int) - 1 - d + qq < (L : Int) := by omega
                  clear HNS hg ho2 hNN hbg hbv hgd EW2 hex hrt htx hgo hcc
                  go_upto_region 13 with (first | (go_at_call 55; refine (HQ.out _).mono ?_; rintro e w' ⟨rfl, rfl⟩))
                  go_region_held3 (fun W => TC W (w.heap.size + 1) (N * 3) (.int .i64 r.c) (.int .i64 r.p) (.string rt) ∧ Ext wr W) (first | exact ⟨S0.ext (Ext.refl _).drew, (Ext.refl _).drew⟩ | exact ⟨S0.ext ((Ext.refl _).alloc _).drew, ((Ext.refl _).alloc _).drew⟩) (first | (go_at_call 63; refine (HCost.out _).mono ?_; rintro e w' ⟨rfl, rfl⟩))
                  all_goals
                    obtain ⟨a0, _⟩ := HXB.out.at 0 (by simp) _ rfl
                    obtain ⟨a1, _⟩ := HXB.out.at 1 (by simp) _ rfl
                    obtain ⟨a2, _⟩ := HXB.out.at 2 (by simp) _ rfl
                    obtain ⟨b0, g0⟩ := HNB.out.at 0 (by rw [cellsS_len]; decide) _ rfl
                    obtain ⟨b1, g1⟩ := HNB.out.at 1 (by rw [cellsS_len]; decide) _ rfl
                    obtain ⟨b2, g2⟩ := HNB.out.at 2 (by rw [cellsS_len]; decide) _ rfl
                    cases lo with
                    | true =>
                      go_wp2_with (go_at_call 64; refine (HLess.out _).mono ?_; rintro e w5 ⟨rfl, e5⟩; replace a0 := e5.cell a0; replace a1 := e5.cell a1; replace a2 := e5.cell a2; obtain ⟨b0, g0⟩ := (HNB.out.ext e5).at 0 (by rw [cellsS_len]; decide) _ rfl; obtain ⟨b1, g1⟩ := (HNB.out.ext e5).at 1 (by rw [cellsS_len]; decide) _ rfl; obtain ⟨b2, g2⟩ := (HNB.out.ext e5).at 2 (by rw [cellsS_len]; decide) _ rfl)
                      go_roundw
                      case rel =>
                        have hp := ((((HNB.out.ext e5).put 0 (by rw [cellsS_len]; decide) (.int .i64 (r.c + cc))).put 1 (by rw [List.length_set, cellsS_len]; decide) (.int .i64 (r.p + 1))).put 2 (by rw [List.length_set, List.length_set, cellsS_len]; decide) (.string (E1 ++ rt)))
                        rw [three_list (cellsS_len now)] at hp
                        have hn : cellsS (nowS ok L d (k + 1)) = [.int .i64 (r.c + cc), .int .i64 (r.p + 1), .string (E1 ++ rt)] := by rw [HN.out, if_pos (by trivial), HA.out]
                        first | exact ⟨k + 1, by omega, by go_num, by rw [hn]; exact hp, (((HEX.out.trans e5).setCell (Nat.le_refl _) _).setCell (Nat.le_refl _) _).setCell (Nat.le_refl _) _⟩ | ((repeat apply Exists.intro); exact ⟨⟨k + 1, by omega, by go_num, by rw [hn]; exact hp, (((HEX.out.trans e5).setCell (Nat.le_refl _) _).setCell (Nat.le_refl _) _).setCell (Nat.le_refl _) _⟩, rfl⟩)
                      case measure => simp [intOf]; omega
                    | false =>
                      go_wp2_with (go_at_call 64; refine (HLess.out _).mono ?_; rintro e w5 ⟨rfl, e5⟩)
                      go_roundw
                      case rel =>
                        have hn : nowS ok L d (k + 1) = now := by rw [HN.out, if_neg (by simp)]
                        first | exact ⟨k + 1, by omega, by go_num, by rw [hn]; exact HNB.out.ext e5, HEX.out.trans e5⟩ | ((repeat apply Exists.intro); exact ⟨⟨k + 1, by omega, by go_num, by rw [hn]; exact HNB.out.ext e5, HEX.out.trans e5⟩, rfl⟩)
                      case measure => simp [intOf]; omega
        · obtain rfl : k = 5 := by omega
          rw [nowS_five] at hbx
          have hun := tab_unset (best ok L) cellsS z3 [] L d (L - (d + 1)) (by omega) (by omega)
          obtain ⟨r0, r1, r2, f0, f1, f2⟩ := (ho.ext ei).reads3 (L - (d + 1)) (by omega) hun
          obtain ⟨a0, _⟩ := hbx.at 0 (by rw [cellsS_len]; decide) _ rfl
          obtain ⟨a1, _⟩ := hbx.at 1 (by rw [cellsS_len]; decide) _ rfl
          obtain ⟨a2, _⟩ := hbx.at 2 (by rw [cellsS_len]; decide) _ rfl
          have HP := Lib.hid ((ho.ext ei).put3 (L - (d + 1)) (by omega) (.int .i64 (cS (best ok L (d + 1)))) (.int .i64 (pS (best ok L (d + 1)))) (.string (tS (best ok L (d + 1)))))
          have HTS := Lib.hid (tab_succ (best ok L) cellsS z3 L d hdl)
          have hix : ((L : Int) - 1 - d).toNat = L - (d + 1) := by omega
          have hlt : (L : Int) - 1 - d < (L : Int) + 1 := by omega
          have HEE := Lib.hid (er.trans ei)
          obtain ⟨b0, hb0⟩ : ∃ v, cS (best ok L (d + 1)) = v := ⟨_, rfl⟩
          obtain ⟨b1, hb1⟩ : ∃ v, pS (best ok L (d + 1)) = v := ⟨_, rfl⟩
          obtain ⟨b2, hb2⟩ : ∃ v, tS (best ok L (d + 1)) = v := ⟨_, rfl⟩
          have HC : Hid (cellsS (best ok L (d + 1)) = [.int .i64 b0, .int .i64 b1, .string b2]) := Lib.hid (by unfold cellsS; rw [hb0, hb1, hb2])
          rw [hb0] at a0 HP
          rw [hb1] at a1 HP
          rw [hb2] at a2 HP
          clear hb0 hb1 hb2 hun hbx ho er ei
          go_wp2
          go_roundw
          case rel =>
            refine ⟨d + 1, by omega, by go_num, ?_, ?_⟩
            · rw [← HTS.out, HC.out]; exact HP.out
            · have h := HW1.out
              exact ((HEE.out.setCell (by simp; omega) _).setCell (by simp; omega) _).setCell (by simp; omega) _
          case measure => simp [intOf]; omega
    · obtain rfl : d = L := by omega
      have hg := tab_get (best ok d) cellsS z3 [] d d 0 (by omega) (by omega)
      rw [Nat.sub_zero] at hg
      obtain ⟨r0, r1, r2, _, _, _⟩ := ho.reads3 0 (by omega) (a := .int .i64 (cS (best ok d d))) (b := .int .i64 (pS (best ok d d))) (c := .string (tS (best ok d d))) hg
      have hB' := hB.ext er
      obtain ⟨a0, g0⟩ := hB'.at 0 (by decide) _ rfl
      obtain ⟨a1, g1⟩ := hB'.at 1 (by decide) _ rfl
      obtain ⟨a2, g2⟩ := hB'.at 2 (by decide) _ rfl
      simp only [Nat.zero_mul, Nat.zero_add] at r0 r1 r2
      have HEE := Lib.hid (eW.trans er)
      obtain ⟨b0, hb0⟩ : ∃ v, cS (best ok d d) = v := ⟨_, rfl⟩
      obtain ⟨b1, hb1⟩ : ∃ v, pS (best ok d d) = v := ⟨_, rfl⟩
      obtain ⟨b2, hb2⟩ : ∃ v, tS (best ok d d) = v := ⟨_, rfl⟩
      have HC : Hid ((cellsS (best ok d d)).toArray = #[.int .i64 b0, .int .i64 b1, .string b2]) := Lib.hid (by unfold cellsS; rw [hb0, hb1, hb2])
      rw [hb0] at r0
      rw [hb1] at r1
      rw [hb2] at r2
      clear hb0 hb1 hb2 hg ho er eW hB' hB
      have hneg : ¬ (0 : Int) ≤ (d : Int) - 1 - d := by omega
      have h0 : (0 : Int) < (d : Int) + 1 := by omega
      go_wp2
      refine bodyPost_ret (v := .agg #[.int .i64 b0, .int .i64 b1, .string b2]) (by simp [results, Try.results42, go_sem, a0, a1, a2]) rfl (RetE.mk (by rw [HC.out]) ?_)
      exact ((HEE.out.setCell (Nat.le_refl _) _).setCell (Nat.le_refl _) _).setCell (Nat.le_refl _) _
end Go.Proofs.Ytciamgnfbhijlaa
