/- The source of draws: a number, a yes, one of some texts or numbers. -/
import Derived.Test.YtciamgnfbhijlaaSrc
namespace Go.Proofs.Ytciamgnfbhijlaa
open Go.RowKit
set_option linter.unusedSimpArgs false
set_option linter.unusedVariables false
set_option linter.unnecessarySimpa false

theorem cell_lt {w : World} {p : Addr} {v : Value} (h : w.cell? p = some v) : p.block < w.heap.size := by
  unfold World.cell? at h
  cases hh : w.heap[p.block]? with
  | none => rw [hh] at h; simp at h
  | some o => exact lt_of_block hh
theorem cell_grown {w w' : World} {row : Option Nat} {p : Addr} {v : Value} (h : w.cell? p = some v) (g : w.grownBy w' row) (hne : some p.block ≠ row) : w'.cell? p = some v :=
  (World.cell?_of_block (g.block p.block (cell_lt h) hne)).trans h
theorem Src.out_lt (bs : List UInt8) (st : Src) : st.out bs < 256 := by
  unfold Src.out
  split
  · exact (bs.getD st.at_ 0).toNat_lt
  · exact Nat.mod_lt _ (by decide)
/-- a source that may go on -/
structure Src.Ok (B : Nat) (st : Src) : Prop where
  at_ : st.at_ ≤ B
  seed : st.seed < m64
theorem Src.Ok.next {B : Nat} {bs : List UInt8} {st : Src} (h : st.Ok B) : (st.next bs).Ok (B + 1) := ⟨Nat.succ_le_succ h.at_, Nat.mod_lt _ (by decide)⟩
theorem Src.Ok.mono {B B' : Nat} {st : Src} (h : st.Ok B) (hb : B ≤ B') : st.Ok B' := ⟨Nat.le_trans h.at_ hb, h.seed⟩
/-- the number that is picked, and where the source is then -/
def pickV (bs : List UInt8) (st : Src) (n : Int) : Int := if n ≤ 1 then 0 else if n ≤ 200 then (st.out bs : Int) % n else ((st.out bs : Int) * 256 + ((st.next bs).out bs : Int)) % n
def pickS (bs : List UInt8) (st : Src) (n : Int) : Src := if n ≤ 1 then st else if n ≤ 200 then st.next bs else (st.next bs).next bs
theorem pickS_ok {B : Nat} {bs : List UInt8} {st : Src} {n : Int} (h : st.Ok B) : (pickS bs st n).Ok (B + 2) := by
  unfold pickS
  split
  · exact h.mono (by omega)
  · split
    · exact h.next.mono (by omega)
    · exact h.next.next
theorem pickV_bd (bs : List UInt8) (st : Src) (n : Int) : 0 ≤ pickV bs st n ∧ (1 ≤ n → pickV bs st n < n) := by
  unfold pickV
  split
  · exact ⟨by omega, fun h => by omega⟩
  · split
    · exact ⟨Int.emod_nonneg _ (by omega), fun _ => Int.emod_lt_of_pos _ (by omega)⟩
    · exact ⟨Int.emod_nonneg _ (by omega), fun _ => Int.emod_lt_of_pos _ (by omega)⟩
set_option maxHeartbeats 1600000 in
theorem s_pick (g : Nat) (ao : Option Addr) (nn c : Nat) (bs : List UInt8) (st : Src) (n : Int) (w : World) (h : SrcAt w g ao nn c st) (hb : U8s w ao nn bs) (W0 : World) (e0 : Ext W0 w) (hbW : U8s W0 ao nn bs) (hg : W0.heap.size ≤ g) (ha : st.Ok 3000000000000000000) (hn : n ≤ 1000000000) :
    Calls Try.prog 35 #[.pointer (some ⟨g, 0, none⟩), .int .i64 n] w (RetSrc g ao nn c (.int .i64 (pickV bs st n)) (pickS bs st n) w) := by
  have H1 := Lib.hid (s_next g ao nn c bs st w h hb (Nat.le_trans ha.at_ (by decide)) ha.seed)
  have hlt := Src.out_lt bs st
  by_cases h1 : n ≤ 1
  · have HV : Hid (pickV bs st n = 0) := Lib.hid (by unfold pickV; rw [if_pos h1])
    have HS : Hid (pickS bs st n = st) := Lib.hid (by unfold pickS; rw [if_pos h1])
    have HH := Lib.hid h
    clear h hb hbW ha
    go_enter Try.func35, Try.ntmps35
    go_wp2
    go_ret
    refine ⟨by rw [HV.out]; rfl, ?_, World.grownBy.refl _ _⟩
    rw [HS.out]; exact HH.out
  · have h1' : ¬ n ≤ 1 := h1
    have hn0 : (0 : Int) < n := by omega
    have hnne : ¬ n = 0 := by omega
    by_cases h2 : n ≤ 200
    · have HV : Hid (pickV bs st n = (st.out bs : Int) % n) := Lib.hid (by unfold pickV; rw [if_neg h1, if_pos h2])
      have HS : Hid (pickS bs st n = st.next bs) := Lib.hid (by unfold pickS; rw [if_neg h1, if_pos h2])
      have h2' : ¬ 200 < n := by omega
      obtain ⟨x, hx⟩ : ∃ x, st.out bs = x := ⟨_, rfl⟩
      rw [hx] at H1 HV hlt
      clear h hb hbW ha hx
      go_enter Try.func35, Try.ntmps35
      go_wp2_with (go_at_call 52; refine H1.out.mono ?_; rintro e w1 ⟨rfl, s1, g1⟩; have HS1 := Lib.hid s1; have HG1 := Lib.hid g1; clear s1 g1)
      go_ret
      refine ⟨by rw [HV.out]; rfl, ?_, HG1.out⟩
      rw [HS.out]; exact HS1.out
    · have HV : Hid (pickV bs st n = ((st.out bs : Int) * 256 + ((st.next bs).out bs : Int)) % n) := Lib.hid (by unfold pickV; rw [if_neg h1, if_neg h2])
      have HS : Hid (pickS bs st n = (st.next bs).next bs) := Lib.hid (by unfold pickS; rw [if_neg h1, if_neg h2])
      have h2' : 200 < n := by omega
      have hlt2 := Src.out_lt bs (st.next bs)
      have H2 : Hid (∀ W, SrcAt W g ao nn c (st.next bs) → Ext W0 W → Calls Try.prog 52 #[.pointer (some ⟨g, 0, none⟩)] W (RetSrc g ao nn c (.int .i64 ((st.next bs).out bs : Nat)) ((st.next bs).next bs) W)) := Lib.hid (fun W hs he => s_next g ao nn c bs (st.next bs) W hs (hbW.ext he) (Nat.le_trans ha.next.at_ (by decide)) ha.next.seed)
      have HE0 := Lib.hid e0
      have HGG : Hid (W0.heap.size ≤ g) := Lib.hid hg
      obtain ⟨x, hx⟩ : ∃ x, st.out bs = x := ⟨_, rfl⟩
      obtain ⟨y, hy⟩ : ∃ y, (st.next bs).out bs = y := ⟨_, rfl⟩
      rw [hx] at H1 HV hlt
      rw [hy] at H2 HV hlt2
      clear h hb hbW ha hx hy e0
      go_enter Try.func35, Try.ntmps35
      go_wp2_with fail
      refine H1.out.mono ?_
      rintro e w1 ⟨rfl, s1, g1⟩
      have HS1 := Lib.hid s1
      have HG1 := Lib.hid g1
      have HE1 := Lib.hid (HE0.out.grown g1 (fun k hk => by cases hk; exact HGG.out))
      clear s1 g1
      go_wp2_with fail
      refine (H2.out _ HS1.out HE1.out).mono ?_
      rintro e w2 ⟨rfl, s2, g2⟩
      have HS2 := Lib.hid s2
      have HG2 := Lib.hid (HG1.out.trans g2)
      clear s2 g2
      go_wp2
      go_ret
      refine ⟨by rw [HV.out]; rfl, ?_, HG2.out⟩
      rw [HS.out]; exact HS2.out
set_option maxHeartbeats 800000 in
theorem s_one (g : Nat) (ao : Option Addr) (nn c : Nat) (bs : List UInt8) (st : Src) (n : Int) (w : World) (h : SrcAt w g ao nn c st) (W0 : World) (e0 : Ext W0 w) (hbW : U8s W0 ao nn bs) (hg : W0.heap.size ≤ g) (ha : st.Ok 3000000000000000000) (hn : n ≤ 1000000000) :
    Calls Try.prog 54 #[.pointer (some ⟨g, 0, none⟩), .int .i64 n] w (RetSrc g ao nn c (.bool (pickV bs st n == 0)) (pickS bs st n) w) := by
  have H1 := Lib.hid (s_pick g ao nn c bs st n w h (hbW.ext e0) W0 e0 hbW hg ha hn)
  obtain ⟨v, hv⟩ : ∃ v, pickV bs st n = v := ⟨_, rfl⟩
  rw [hv] at H1 ⊢
  clear h hbW ha hv
  go_enter Try.func54, Try.ntmps54
  go_wp2_with (go_at_call 35; refine H1.out.mono ?_; rintro e w1 ⟨rfl, s1, g1⟩; have HS1 := Lib.hid s1; have HG1 := Lib.hid g1; clear s1 g1)
  go_ret
  exact ⟨rfl, HS1.out, HG1.out⟩
theorem s_l00From (ao : Option Addr) (n c : Nat) (w : World) : Calls Try.prog 34 #[.slice ao n c] w (fun e w' => e = .returned (.pointer (some ⟨w.heap.size, 0, none⟩)) ∧ SrcAt w' w.heap.size ao n c ⟨0, 0⟩ ∧ Ext w w' ∧ w'.heap.size = w.heap.size + 1) := by
  go_enter Try.func34, Try.ntmps34
  go_wp2
  go_ret
  exact ⟨rfl, heap_alloc_new w _, (Ext.refl w).alloc _, by simp⟩
end Go.Proofs.Ytciamgnfbhijlaa
