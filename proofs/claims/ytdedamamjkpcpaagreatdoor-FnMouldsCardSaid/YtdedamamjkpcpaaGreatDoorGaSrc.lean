/- A group of texts, one behind the other: Src, Src1. -/
import Derived.Test.YtdedamamjkpcpaaGreatDoorGaStrs
import Derived.Test.YtdedamamjkpcpaaGreatDoorOrbit
import Derived.IntWalk
import Derived.Laws.BitsAllLaws
import Derived.Laws.Bits64
/- The source of draws: bytes, then a simple sequence. -/
namespace Go.Proofs.YtdedamamjkpcpaaGreatDoor
open Go.RowKit
set_option linter.unusedSimpArgs false
set_option linter.unusedVariables false
set_option linter.unnecessarySimpa false

/-- where a source is -/
structure Src where
  at_ : Nat
  seed : Nat
def srcA : Nat := 6364136223846793005
def srcC : Nat := 1442695040888963407
def m64 : Nat := 18446744073709551616
def byteAt (bs : List UInt8) (i : Nat) : Nat := (bs.getD i 0).toNat
def Src.next (bs : List UInt8) (st : Src) : Src := ⟨st.at_ + 1, (st.seed * srcA + byteAt bs st.at_ + srcC) % m64⟩
/-- what is drawn -/
def Src.out (bs : List UInt8) (st : Src) : Nat := if st.at_ + 1 ≤ bs.length then byteAt bs st.at_ else (st.next bs).seed / 1099511627776 % 256
/-- The slice of n bytes at ao reads, in w, as bs. -/
def U8s (w : World) (ao : Option Addr) (n : Nat) (bs : List UInt8) : Prop :=
  bs.length = n ∧ n ≤ 1000000000 ∧ ∀ i, i < n → ∃ b off, ao = some ⟨b, off, none⟩ ∧ w.cell? ⟨b, off + i, none⟩ = some (.int .u8 ((bs.getD i 0).toNat : Int))
theorem U8s.ext {w w' : World} {ao : Option Addr} {n : Nat} {bs : List UInt8} (h : U8s w ao n bs) (e : Ext w w') : U8s w' ao n bs :=
  ⟨h.1, h.2.1, fun i hi => let ⟨b, off, h1, h2⟩ := h.2.2 i hi; ⟨b, off, h1, e.cell h2⟩⟩
/-- the source's block -/
def SrcAt (w : World) (g : Nat) (ao : Option Addr) (n c : Nat) (st : Src) : Prop := w.heap[g]? = some (.cells #[.slice ao n c, .int .i64 st.at_, .int .u64 st.seed] 82 (0, 0))
/-- a value is handed back, and the source has gone on -/
def RetSrc (g : Nat) (ao : Option Addr) (n c : Nat) (v : Value) (st' : Src) (w : World) (e : Ending) (w' : World) : Prop := e = .returned v ∧ SrcAt w' g ao n c st' ∧ w.grownBy w' (some g)
theorem heap_setS (W : World) (b i : Nat) (x : Value) {cs : Array Value} {T : TypeId} {m : Nat × Nat} (h : W.heap[b]? = some (.cells cs T m)) : (W.setCell ⟨b, i, none⟩ x).heap[b]? = some (.cells (cs.setIfInBounds i x) T m) := by
  show (W.heap.modify b _)[b]? = _
  rw [Array.getElem?_modify, if_pos rfl, h]
  rfl
theorem SrcAt.cells {w : World} {g : Nat} {ao : Option Addr} {n c : Nat} {st : Src} (h : SrcAt w g ao n c st) :
    w.cell? ⟨g, 0, none⟩ = some (.slice ao n c) ∧ w.cell? ⟨g, 1, none⟩ = some (.int .i64 st.at_) ∧ w.cell? ⟨g, 2, none⟩ = some (.int .u64 st.seed) ∧ w.frozen? ⟨g, 1, none⟩ = false ∧ w.frozen? ⟨g, 2, none⟩ = false ∧ g < w.heap.size := by
  have := three_cells h
  exact ⟨this.1, this.2.1, this.2.2.1, this.2.2.2.2.1, this.2.2.2.2.2.1, this.2.2.2.2.2.2⟩
theorem srcAt_set {w : World} {g : Nat} {ao : Option Addr} {n c : Nat} {st : Src} (h : SrcAt w g ao n c st) (k : Nat) {a' s' : Nat} {x y : Int} (hx : x = (a' : Int)) (hy : y = (s' : Int)) :
    SrcAt (((w.drewN k).setCell ⟨g, 1, none⟩ (.int .i64 x)).setCell ⟨g, 2, none⟩ (.int .u64 y)) g ao n c ⟨a', s'⟩ ∧ w.grownBy (((w.drewN k).setCell ⟨g, 1, none⟩ (.int .i64 x)).setCell ⟨g, 2, none⟩ (.int .u64 y)) (some g) := by
  subst hx hy
  have h0 : (w.drewN k).heap[g]? = some (.cells #[.slice ao n c, .int .i64 st.at_, .int .u64 st.seed] 82 (0, 0)) := h
  have h1 := heap_setS _ g 1 (.int .i64 (a' : Int)) h0
  have h2 := heap_setS _ g 2 (.int .u64 (s' : Int)) h1
  refine ⟨h2, ?_⟩
  have g0 : w.grownBy (w.drewN k) (some g) := ⟨rfl, rfl, rfl, Nat.le_refl _, fun _ _ _ => rfl⟩
  exact grown_set_by (grown_set_by g0 _) _
theorem srcAt_drewN {w W : World} {g : Nat} {ao : Option Addr} {n c : Nat} {st : Src} {row : Option Nat} (h : SrcAt W g ao n c st ∧ w.grownBy W row) (k : Nat) : SrcAt (W.drewN k) g ao n c st ∧ w.grownBy (W.drewN k) row :=
  ⟨h.1, h.2.trans ⟨rfl, rfl, rfl, Nat.le_refl _, fun _ _ _ => rfl⟩⟩
theorem gen_world {P : World → Prop} {W : World} (Q : World → Prop) (hQ : Q W) (h : ∀ W', Q W' → P W') : P W := h W hQ
theorem shr40 (N : Nat) (t : TypeId) : binOp BinOp.shr t (.int .u64 (N : Int)) (.int .u64 40) = pure (.int .u64 ((N / 1099511627776 : Nat) : Int)) := by
  simp [go_sem]
theorem and255 (M : Nat) (hM : M < 16777216) (t : TypeId) : binOp BinOp.and t (.int .u64 (M : Int)) (.int .u64 255) = pure (.int .u64 ((M % 256 : Nat) : Int)) := by
  have h := bits_and_u64_nat M 255 (by omega) (by omega)
  rw [show M &&& 255 = M % 256 from Nat.and_two_pow_sub_one_eq_mod M 8] at h
  have h2 : bits BinOp.and IntKind.u64 (M : Int) 255 = ((M % 256 : Nat) : Int) := h
  simp [go_sem, h2]
theorem seed_eq (s x : Nat) : IntKind.u64.wrap (IntKind.u64.wrap (IntKind.u64.wrap ((s : Int) * 6364136223846793005) + (x : Int)) + 1442695040888963407) = (((s * srcA + x + srcC) % m64 : Nat) : Int) := by
  simp only [IntKind.wrap, IntKind.bits, IntKind.signed, srcA, srcC, m64]
  simp
theorem seed_eq0 (s : Nat) : IntKind.u64.wrap (IntKind.u64.wrap (IntKind.u64.wrap ((s : Int) * 6364136223846793005)) + 1442695040888963407) = (((s * srcA + 0 + srcC) % m64 : Nat) : Int) := by
  simp only [IntKind.wrap, IntKind.bits, IntKind.signed, srcA, srcC, m64]
  simp
theorem byteAt_end {bs : List UInt8} {i : Nat} (h : bs.length ≤ i) : byteAt bs i = 0 := by
  unfold byteAt; rw [List.getD_eq_getElem?_getD, List.getElem?_eq_none h]; rfl
set_option maxRecDepth 100000 in
set_option maxHeartbeats 1600000 in
theorem s_next (g : Nat) (ao : Option Addr) (n c : Nat) (bs : List UInt8) (st : Src) (w : World) (h : SrcAt w g ao n c st) (hb : U8s w ao n bs) (ha : st.at_ ≤ 4000000000000000000) (hs : st.seed < m64) :
    Calls Tryz.prog 63 #[.pointer (some ⟨g, 0, none⟩)] w (RetSrc g ao n c (.int .i64 (st.out bs : Nat)) (st.next bs) w) := by
  obtain ⟨at_, seed⟩ := st
  obtain ⟨q0, q1, q2, q3, q4, q5⟩ := h.cells
  dsimp only at *
  by_cases hlt : at_ < n
  · have hltI : (at_ : Int) < (n : Int) := by omega
    have hleI : (at_ : Int) + 1 ≤ (n : Int) := by omega
    obtain ⟨b, off, rfl, hc⟩ := hb.2.2 at_ hlt
    have HA : Hid ((bs.getD at_ 0).toNat = byteAt bs at_) := Lib.hid rfl
    rw [HA.out] at hc
    have hbt : byteAt bs at_ < 256 := (bs.getD at_ 0).toNat_lt
    obtain ⟨x, hx⟩ : ∃ x, byteAt bs at_ = x := ⟨_, rfl⟩
    rw [hx] at hc hbt
    have HX := Lib.hid hx
    clear hx
    go_enter Tryz.func63, Tryz.ntmps63
    go_wp2
    go_quiet (fail)
    go_wp2
    go_quiet (fail)
    go_wp2
    go_quiet (fail)
    go_wp2
    go_ret
    have hlen := hb.1
    refine ⟨?_, srcAt_drewN (srcAt_set (a' := at_ + 1) (s' := (seed * srcA + byteAt bs at_ + srcC) % m64) h _ rfl (by rw [HX.out]; exact seed_eq seed x)) _⟩
    unfold Src.out
    dsimp only
    rw [if_pos (by omega), HX.out]
    rfl
  · have hltI : ¬ (at_ : Int) < (n : Int) := by omega
    have hleI : ¬ (at_ : Int) + 1 ≤ (n : Int) := by omega
    have hlen := hb.1
    have HX := Lib.hid (byteAt_end (bs := bs) (i := at_) (by omega))
    obtain ⟨N, hN⟩ : ∃ N, (seed * srcA + 0 + srcC) % m64 = N := ⟨_, rfl⟩
    have HN := Lib.hid hN
    have hw := seed_eq0 seed
    rw [hN] at hw
    have hN64 : N < m64 := by rw [← hN]; exact Nat.mod_lt _ (by decide)
    have HW := Lib.hid hw
    have HN6 := Lib.hid hN64
    clear hN hlen hw hN64
    go_enter Tryz.func63, Tryz.ntmps63
    go_wp2
    go_quiet (fail)
    go_wp2
    go_quiet (fail)
    rw [HW.out]
    obtain ⟨M, hM⟩ : ∃ M, N / 1099511627776 = M := ⟨_, rfl⟩
    have e1 : (N : Int) / 1099511627776 = (M : Int) := by omega
    have hM2 : M < 16777216 := by have := HN6.out; unfold m64 at this; omega
    have e2 : bits BinOp.and IntKind.u64 (M : Int) 255 = ((M % 256 : Nat) : Int) := by
      have h := bits_and_u64_nat M 255 (by omega) (by omega)
      rw [show M &&& 255 = M % 256 from Nat.and_two_pow_sub_one_eq_mod M 8] at h
      exact h
    have HM := Lib.hid hM
    obtain ⟨X, hX⟩ : ∃ X, M % 256 = X := ⟨_, rfl⟩
    rw [hX] at e2
    have hX2 : X < 256 := by omega
    have HXX := Lib.hid hX
    have HE1 := Lib.hid e1
    have HE2 := Lib.hid e2
    have e3 : IntKind.i64.wrap (X : Int) = (X : Int) := IntWalk.i64_in _ (by omega)
    refine gen_world (fun W => SrcAt W g ao n c ⟨at_ + 1, N⟩ ∧ w.grownBy W (some g)) (srcAt_drewN (srcAt_set (a' := at_ + 1) (s' := N) h _ rfl rfl) _) ?_
    rintro W2 ⟨hS, hG⟩
    have HS := Lib.hid hS
    have HG := Lib.hid hG
    obtain ⟨p0, p1, p2, p3, p4, p5⟩ := hS.cells
    dsimp only at p1 p2
    clear hM hX hM2 hS hG h q0 q1 q2 q3 q4 q5
    generalize IntKind.u64.wrap (IntKind.u64.wrap ((seed : Int) * 6364136223846793005)) = y1
    generalize IntKind.u64.wrap ((seed : Int) * 6364136223846793005) = y2
    have r1 := fun t => shr40 N t
    rw [HM.out] at r1
    have r2 := fun t => and255 M (by have := HM.out; have := HN6.out; unfold m64 at this; omega) t
    rw [HXX.out] at r2
    clear ha hs e1 e2
    rw [show decide ((at_ : Int) + 1 ≤ (n : Int)) = false by simp; omega]
    go_wp2
    go_ret
    have hnx : Src.next bs ⟨at_, seed⟩ = ⟨at_ + 1, N⟩ := by unfold Src.next; dsimp only; rw [HX.out, HN.out]
    have hout : Src.out bs ⟨at_, seed⟩ = X := by
      unfold Src.out
      rw [hnx]
      dsimp only
      rw [if_neg (by have := hb.1; omega), HM.out, HXX.out]
    rw [hnx, hout]
    exact ⟨rfl, HS.out, HG.out⟩
end Go.Proofs.YtdedamamjkpcpaaGreatDoor

/- The source of draws: a number, a yes, one of some texts or numbers. -/
namespace Go.Proofs.YtdedamamjkpcpaaGreatDoor
open Go.RowKit
set_option linter.unusedSimpArgs false
set_option linter.unusedVariables false
set_option linter.unnecessarySimpa false

theorem cell_lt {w : World} {p : Addr} {v : Value} (h : w.cell? p = some v) : p.block < w.heap.size := by
  unfold World.cell? at h
  cases hh : w.heap[p.block]? with
  | none => rw [hh] at h; simp at h
  | some o => exact lt_of_block hh
theorem cell_grown {w w' : World} {row : Option Nat} {p : Addr} {v : Value} (h : w.cell? p = some v) (g : w.grownBy w' row) (hne : some p.block ≠ row) : w'.cell? p = some v :=
  (World.cell?_of_block (g.block p.block (cell_lt h) hne)).trans h
theorem Src.out_lt (bs : List UInt8) (st : Src) : st.out bs < 256 := by
  unfold Src.out
  split
  · exact (bs.getD st.at_ 0).toNat_lt
  · exact Nat.mod_lt _ (by decide)
/-- a source that may go on -/
structure Src.Ok (B : Nat) (st : Src) : Prop where
  at_ : st.at_ ≤ B
  seed : st.seed < m64
theorem Src.Ok.next {B : Nat} {bs : List UInt8} {st : Src} (h : st.Ok B) : (st.next bs).Ok (B + 1) := ⟨Nat.succ_le_succ h.at_, Nat.mod_lt _ (by decide)⟩
theorem Src.Ok.mono {B B' : Nat} {st : Src} (h : st.Ok B) (hb : B ≤ B') : st.Ok B' := ⟨Nat.le_trans h.at_ hb, h.seed⟩
/-- the number that is picked, and where the source is then -/
def pickV (bs : List UInt8) (st : Src) (n : Int) : Int := if n ≤ 1 then 0 else if n ≤ 200 then (st.out bs : Int) % n else ((st.out bs : Int) * 256 + ((st.next bs).out bs : Int)) % n
def pickS (bs : List UInt8) (st : Src) (n : Int) : Src := if n ≤ 1 then st else if n ≤ 200 then st.next bs else (st.next bs).next bs
theorem pickS_ok {B : Nat} {bs : List UInt8} {st : Src} {n : Int} (h : st.Ok B) : (pickS bs st n).Ok (B + 2) := by
  unfold pickS
  split
  · exact h.mono (by omega)
  · split
    · exact h.next.mono (by omega)
    · exact h.next.next
theorem pickV_bd (bs : List UInt8) (st : Src) (n : Int) : 0 ≤ pickV bs st n ∧ (1 ≤ n → pickV bs st n < n) := by
  unfold pickV
  split
  · exact ⟨by omega, fun h => by omega⟩
  · split
    · exact ⟨Int.emod_nonneg _ (by omega), fun _ => Int.emod_lt_of_pos _ (by omega)⟩
    · exact ⟨Int.emod_nonneg _ (by omega), fun _ => Int.emod_lt_of_pos _ (by omega)⟩
set_option maxHeartbeats 1600000 in
theorem s_pick (g : Nat) (ao : Option Addr) (nn c : Nat) (bs : List UInt8) (st : Src) (n : Int) (w : World) (h : SrcAt w g ao nn c st) (hb : U8s w ao nn bs) (W0 : World) (e0 : Ext W0 w) (hbW : U8s W0 ao nn bs) (hg : W0.heap.size ≤ g) (ha : st.Ok 3000000000000000000) (hn : n ≤ 1000000000) :
    Calls Tryz.prog 40 #[.pointer (some ⟨g, 0, none⟩), .int .i64 n] w (RetSrc g ao nn c (.int .i64 (pickV bs st n)) (pickS bs st n) w) := by
  have H1 := Lib.hid (s_next g ao nn c bs st w h hb (Nat.le_trans ha.at_ (by decide)) ha.seed)
  have hlt := Src.out_lt bs st
  by_cases h1 : n ≤ 1
  · have HV : Hid (pickV bs st n = 0) := Lib.hid (by unfold pickV; rw [if_pos h1])
    have HS : Hid (pickS bs st n = st) := Lib.hid (by unfold pickS; rw [if_pos h1])
    have HH := Lib.hid h
    clear h hb hbW ha
    go_enter Tryz.func40, Tryz.ntmps40
    go_wp2
    go_ret
    refine ⟨by rw [HV.out]; rfl, ?_, World.grownBy.refl _ _⟩
    rw [HS.out]; exact HH.out
  · have h1' : ¬ n ≤ 1 := h1
    have hn0 : (0 : Int) < n := by omega
    have hnne : ¬ n = 0 := by omega
    by_cases h2 : n ≤ 200
    · have HV : Hid (pickV bs st n = (st.out bs : Int) % n) := Lib.hid (by unfold pickV; rw [if_neg h1, if_pos h2])
      have HS : Hid (pickS bs st n = st.next bs) := Lib.hid (by unfold pickS; rw [if_neg h1, if_pos h2])
      have h2' : ¬ 200 < n := by omega
      obtain ⟨x, hx⟩ : ∃ x, st.out bs = x := ⟨_, rfl⟩
      rw [hx] at H1 HV hlt
      clear h hb hbW ha hx
      go_enter Tryz.func40, Tryz.ntmps40
      go_wp2_with (go_at_call 63; refine H1.out.mono ?_; rintro e w1 ⟨rfl, s1, g1⟩; have HS1 := Lib.hid s1; have HG1 := Lib.hid g1; clear s1 g1)
      go_ret
      refine ⟨by rw [HV.out]; rfl, ?_, HG1.out⟩
      rw [HS.out]; exact HS1.out
    · have HV : Hid (pickV bs st n = ((st.out bs : Int) * 256 + ((st.next bs).out bs : Int)) % n) := Lib.hid (by unfold pickV; rw [if_neg h1, if_neg h2])
      have HS : Hid (pickS bs st n = (st.next bs).next bs) := Lib.hid (by unfold pickS; rw [if_neg h1, if_neg h2])
      have h2' : 200 < n := by omega
      have hlt2 := Src.out_lt bs (st.next bs)
      have H2 : Hid (∀ W, SrcAt W g ao nn c (st.next bs) → Ext W0 W → Calls Tryz.prog 63 #[.pointer (some ⟨g, 0, none⟩)] W (RetSrc g ao nn c (.int .i64 ((st.next bs).out bs : Nat)) ((st.next bs).next bs) W)) := Lib.hid (fun W hs he => s_next g ao nn c bs (st.next bs) W hs (hbW.ext he) (Nat.le_trans ha.next.at_ (by decide)) ha.next.seed)
      have HE0 := Lib.hid e0
      have HGG : Hid (W0.heap.size ≤ g) := Lib.hid hg
      obtain ⟨x, hx⟩ : ∃ x, st.out bs = x := ⟨_, rfl⟩
      obtain ⟨y, hy⟩ : ∃ y, (st.next bs).out bs = y := ⟨_, rfl⟩
      rw [hx] at H1 HV hlt
      rw [hy] at H2 HV hlt2
      clear h hb hbW ha hx hy e0
      go_enter Tryz.func40, Tryz.ntmps40
      go_wp2_with fail
      refine H1.out.mono ?_
      rintro e w1 ⟨rfl, s1, g1⟩
      have HS1 := Lib.hid s1
      have HG1 := Lib.hid g1
      have HE1 := Lib.hid (HE0.out.grown g1 (fun k hk => by cases hk; exact HGG.out))
      clear s1 g1
      go_wp2_with fail
      refine (H2.out _ HS1.out HE1.out).mono ?_
      rintro e w2 ⟨rfl, s2, g2⟩
      have HS2 := Lib.hid s2
      have HG2 := Lib.hid (HG1.out.trans g2)
      clear s2 g2
      go_wp2
      go_ret
      refine ⟨by rw [HV.out]; rfl, ?_, HG2.out⟩
      rw [HS.out]; exact HS2.out
set_option maxHeartbeats 800000 in
theorem s_one (g : Nat) (ao : Option Addr) (nn c : Nat) (bs : List UInt8) (st : Src) (n : Int) (w : World) (h : SrcAt w g ao nn c st) (W0 : World) (e0 : Ext W0 w) (hbW : U8s W0 ao nn bs) (hg : W0.heap.size ≤ g) (ha : st.Ok 3000000000000000000) (hn : n ≤ 1000000000) :
    Calls Tryz.prog 39 #[.pointer (some ⟨g, 0, none⟩), .int .i64 n] w (RetSrc g ao nn c (.bool (pickV bs st n == 0)) (pickS bs st n) w) := by
  have H1 := Lib.hid (s_pick g ao nn c bs st n w h (hbW.ext e0) W0 e0 hbW hg ha hn)
  obtain ⟨v, hv⟩ : ∃ v, pickV bs st n = v := ⟨_, rfl⟩
  rw [hv] at H1 ⊢
  clear h hbW ha hv
  go_enter Tryz.func39, Tryz.ntmps39
  go_wp2_with (go_at_call 40; refine H1.out.mono ?_; rintro e w1 ⟨rfl, s1, g1⟩; have HS1 := Lib.hid s1; have HG1 := Lib.hid g1; clear s1 g1)
  go_ret
  exact ⟨rfl, HS1.out, HG1.out⟩
set_option maxHeartbeats 800000 in
theorem s_text (g : Nat) (ao : Option Addr) (nn c : Nat) (bs : List UInt8) (st : Src) (lo : Option Addr) (m d : Nat) (ss : List ByteArray) (w : World) (h : SrcAt w g ao nn c st) (W0 : World) (e0 : Ext W0 w) (hbW : U8s W0 ao nn bs) (hg : W0.heap.size ≤ g) (ha : st.Ok 3000000000000000000)
    (hl : Strs w lo m ss) (hlb : ∀ a, lo = some a → a.block ≠ g) (hm : 1 ≤ m) (hm2 : m ≤ 200) :
    Calls Tryz.prog 72 #[.pointer (some ⟨g, 0, none⟩), .slice lo m d] w (RetSrc g ao nn c (.string (ss.getD (pickV bs st m).toNat ByteArray.empty)) (pickS bs st m) w) := by
  have H1 := Lib.hid (s_pick g ao nn c bs st m w h (hbW.ext e0) W0 e0 hbW hg ha (by omega))
  have hbd := pickV_bd bs st m
  obtain ⟨v, hv⟩ : ∃ v, pickV bs st m = v := ⟨_, rfl⟩
  rw [hv] at H1 hbd ⊢
  obtain ⟨v1, v2⟩ := hbd
  have v3 := v2 (by omega)
  obtain ⟨j, rfl⟩ := Int.eq_ofNat_of_zero_le v1
  rw [Int.toNat_natCast]
  obtain ⟨b, off, rfl, hc⟩ := hl.2.2.1 j (by omega)
  have HNE : Hid (b ≠ g) := Lib.hid (hlb _ rfl)
  have HC := Lib.hid hc
  obtain ⟨z, hz⟩ : ∃ z, ss.getD j ByteArray.empty = z := ⟨_, rfl⟩
  rw [hz] at HC ⊢
  have hjm : j < m := by omega
  clear h hbW ha hv hl hlb hc hz v2
  go_enter Tryz.func72, Tryz.ntmps72
  go_wp2_with (go_at_call 40; refine H1.out.mono ?_; rintro e w1 ⟨rfl, s1, g1⟩; have HS1 := Lib.hid s1; have HG1 := Lib.hid g1; have q0 := cell_grown HC.out g1 (fun e => HNE.out (by simpa using e)); clear s1 g1)
  go_ret
  exact ⟨rfl, HS1.out, HG1.out⟩
theorem s_l00From (ao : Option Addr) (n c : Nat) (w : World) : Calls Tryz.prog 24 #[.slice ao n c] w (fun e w' => e = .returned (.pointer (some ⟨w.heap.size, 0, none⟩)) ∧ SrcAt w' w.heap.size ao n c ⟨0, 0⟩ ∧ Ext w w' ∧ w'.heap.size = w.heap.size + 1) := by
  go_enter Tryz.func24, Tryz.ntmps24
  go_wp2
  go_ret
  exact ⟨rfl, heap_alloc_new w _, (Ext.refl w).alloc _, by simp⟩
end Go.Proofs.YtdedamamjkpcpaaGreatDoor
