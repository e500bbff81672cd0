/- Contract: a text that is spoilt by the source of draws. -/
import Derived.Test.YtdedamamjkpcpaaGreatDoorSrc2
import Derived.Test.YtdedamamjkpcpaaGreatDoorGaStrs
import Derived.RegionTactic
import Derived.Deep.RegionWith
import Derived.BigQuiet
import Derived.Deep.QuietTactic
namespace Go.Proofs.YtdedamamjkpcpaaGreatDoor
open Go.RowKit
set_option linter.unusedSimpArgs false
set_option linter.unusedVariables false
set_option linter.unnecessarySimpa false

theorem strs_litP (w : World) (L : List ByteArray) (cs : Array Value) (hcs : cs = (L.map Value.string).toArray) (hl : L.length ≤ 9223372036854775807) (hz : ∀ x ∈ L, x.size ≤ 9223372036854775807) : Strs (w.alloc (.cells cs 9)) (some ⟨w.heap.size, 0, none⟩) L.length L := by
  subst hcs
  refine ⟨rfl, hl, fun i hi => ⟨w.heap.size, 0, rfl, ?_⟩, hz⟩
  have h := cells_new w (L.map Value.string) 9 i (.string (L.getD i ByteArray.empty)) (by
    rw [List.getElem?_map, List.getElem?_eq_getElem hi, List.getD_eq_getElem?_getD, List.getElem?_eq_getElem hi]; rfl)
  rw [Addr.add_lit] at h
  exact h
theorem SrcAt.drewP {w : World} {g : Nat} {ao : Option Addr} {n c : Nat} {st : Src} (h : SrcAt w g ao n c st) : SrcAt w.drew g ao n c st := h
theorem textP {g : Nat} {ao : Option Addr} {n c : Nat} {bs : List UInt8} {W0 : World} (hbW : U8s W0 ao n bs) (hg : W0.heap.size ≤ g) (ss : List ByteArray) (cs : Array Value) (hcs : cs = (ss.map Value.string).toArray) (hi : ∀ x ∈ ss, x.size ≤ 4) (m : Nat) (hm : ss.length = m) (hm1 : 1 ≤ m) (hm2 : m ≤ 200) {B : Nat} {st : Src} {W : World} (h : SrcAt W g ao n c st) (e0 : Ext W0 W) (ok : st.Ok B) (hB : B ≤ 2900000000000000000) (k : Nat) (hk : k = W.heap.size) :
    Calls Tryz.prog 72 #[.pointer (some ⟨g, 0, none⟩), .slice (some ⟨k, 0, none⟩) m m] (W.alloc (.cells cs 9)) (fun e w' => ∃ x, e = .returned (.string x) ∧ x.size ≤ 4 ∧ Ext W0 w') := by
  subst hk hm
  have hI := strs_litP W ss cs hcs (by omega) (fun s hs => by have := hi s hs; omega)
  have hbd := pickV_bd bs st ss.length
  have hgs : g < W.heap.size := h.cells.2.2.2.2.2
  have eW : Ext W0 (W.alloc (.cells cs 9)) := e0.alloc _
  refine (s_text g ao n c bs st (some ⟨W.heap.size, 0, none⟩) ss.length ss.length ss _ (show (W.alloc (.cells cs 9)).heap[g]? = _ by rw [heap_alloc_old W _ hgs]; exact h) W0 eW hbW hg (ok.mono (by omega)) hI (fun a ha => by cases ha; dsimp only; omega) hm1 hm2).mono ?_
  rintro e w' ⟨rfl, s1, g1⟩
  refine ⟨_, rfl, ?_, extQ_of_src g1 eW hg⟩
  obtain ⟨b1, b2⟩ := hbd
  have b3 := b2 (by omega)
  refine hi _ ?_
  rw [List.getD_eq_getElem?_getD, List.getElem?_eq_getElem (by omega)]
  exact List.getElem_mem _
/-- a text is handed back; the world has grown -/
def RetTxt (W0 : World) (K : Nat) (e : Ending) (w' : World) : Prop := ∃ t : ByteArray, e = .returned (.string t) ∧ t.size ≤ K ∧ Ext W0 w'
set_option maxRecDepth 100000 in
set_option maxHeartbeats 4000000 in
theorem s_l01Spoil {g : Nat} {ao : Option Addr} {n c : Nat} {bs : List UInt8} {W0 : World} (hbW : U8s W0 ao n bs) (hg : W0.heap.size ≤ g) (B : Nat) (hB : B ≤ 2800000000000000000) (st : Src) (ha : st.Ok B) (t : ByteArray) (ht1 : 1 ≤ t.size) (ht2 : t.size ≤ 190) (w : World) (h : SrcAt w g ao n c st) (e0 : Ext W0 w) :
    Calls Tryz.prog 55 #[.pointer (some ⟨g, 0, none⟩), .string t] w (RetTxt W0 400) := by
  have HP := Lib.hid (fun (N : Int) (h1 : 1 ≤ N) (h2 : N ≤ 200) (B : Nat) (hB : B ≤ 2900000000000000000) (st : Src) (ha : st.Ok B) (w : World) (h : SrcAt w g ao n c st) (e0 : Ext W0 w) => s_pickQ N h1 h2 hbW hg B hB st ha w h e0)
  have HW := Lib.hid hbW
  have HG := Lib.hid hg
  have HS0 := Lib.hid h
  have HE0 := Lib.hid e0
  have HA := Lib.hid ha
  clear hbW hg ha h e0
  go_enter Tryz.func55, Tryz.ntmps55
  go_wp2_with fail
  refine (HP.out 5 (by decide) (by decide) B (by omega) st HA.out _ HS0.out HE0.out).mono ?_
  rintro e w1 ⟨q, st1, rfl, a1, a2, OK1, s1, g1⟩
  have HE1 := Lib.hid (extQ_of_src g1 HE0.out HG.out)
  have HS1 := Lib.hid s1
  have HOK1 := Lib.hid OK1
  clear s1 g1 OK1 HE0 HS0 HA
  by_cases h0 : q = 0
  · subst h0
    go_wp2_with fail
    refine (HP.out ((t.size : Int) + 1) (by omega) (by omega) (B + 2) (by omega) st1 HOK1.out _ HS1.out HE1.out).mono ?_
    rintro e w2 ⟨p, st2, rfl, p1, p2, OK2, s2, g2⟩
    have HE2 := Lib.hid (extQ_of_src g2 HE1.out HG.out)
    have HS2 := Lib.hid s2
    have HOK2 := Lib.hid OK2
    clear s2 g2 OK2 HE1 HS1 HOK1
    obtain ⟨k, rfl⟩ := Int.eq_ofNat_of_zero_le p1
    have hk1 : (k : Int) ≤ (t.size : Int) := by omega
    have hk2 : k ≤ t.size := by omega
    go_wp2
    go_region_with (first
      | (go_at_call 72; refine (textP HW.out HG.out [⟨#[32]⟩, ⟨#[48]⟩, ⟨#[45]⟩, ⟨#[120]⟩, ⟨#[49]⟩, ⟨#[57]⟩, ⟨#[46]⟩] _ (by rfl) (by decide) 7 rfl (by decide) (by decide) HS2.out.drewP (HE2.out.trans (Ext.refl _).drew) HOK2.out (by omega) _ (by rfl)).mono ?_; rintro e w3 ⟨y, rfl, hy, e3⟩; have hc1 : ¬ (9223372036854775807 < min k t.size + y.size) := (by omega); have hc2 : ¬ (9223372036854775807 < min k t.size + y.size + (t.size - k)) := (by omega); have HE3 := Lib.hid e3; clear e3))
    all_goals
      go_wp2
      go_ret
      exact ⟨_, rfl, by simp; omega, HE3.out⟩
  · by_cases h1 : q = 1
    · subst h1
      have hz1 : ¬ t.toList = [] := by
        intro e
        rw [ByteArray.toList_eq] at e
        have h2 : t.data.toList.length = t.size := rfl
        rw [e, List.length_nil] at h2
        omega
      have hz2 : t.toList.isEmpty = false := by
        cases hh : t.toList with
        | nil => exact absurd hh hz1
        | cons a l => rfl
      go_wp2_with fail
      refine (HP.out (t.size : Int) (by omega) (by omega) (B + 2) (by omega) st1 HOK1.out _ HS1.out HE1.out).mono ?_
      rintro e w2 ⟨p, st2, rfl, p1, p2, OK2, s2, g2⟩
      have HE2 := Lib.hid (extQ_of_src g2 HE1.out HG.out)
      clear s2 g2 OK2 HE1 HS1 HOK1
      obtain ⟨k, rfl⟩ := Int.eq_ofNat_of_zero_le p1
      have hk1 : (k : Int) ≤ (t.size : Int) := by omega
      have hk0 : (0 : Int) ≤ (k : Int) := by omega
      have hk3 : (k : Int) + 1 ≤ (t.size : Int) := by omega
      have hk2 : k + 1 ≤ t.size := by omega
      have hc1 : ¬ (9223372036854775807 < min k t.size + (t.size - (k + 1))) := by omega
      go_wp2
      go_quiet (fail)
      go_wp2
      go_ret
      exact ⟨_, rfl, by simp; omega, HE2.out.drewN _⟩
    · have h0' : ¬ q = 0 := h0
      go_wp2
      go_ret
      exact ⟨_, rfl, by omega, HE1.out⟩
end Go.Proofs.YtdedamamjkpcpaaGreatDoor
