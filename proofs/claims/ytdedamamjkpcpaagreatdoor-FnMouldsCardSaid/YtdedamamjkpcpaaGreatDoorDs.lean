/- The source of draws, told as one fact of the world: where it stands, and that all older memory is as it was. -/
import Derived.Test.YtdedamamjkpcpaaGreatDoorSrc2
namespace Go.Proofs.YtdedamamjkpcpaaGreatDoor
open Go.RowKit
set_option linter.unusedSimpArgs false
set_option linter.unusedVariables false
set_option linter.unnecessarySimpa false

/-- the source stands at g -/
def DS (g : Nat) (ao : Option Addr) (n c : Nat) (bs : List UInt8) (W0 : World) (B : Nat) (W : World) : Prop :=
  ∃ st : Src, st.Ok B ∧ SrcAt W g ao n c st ∧ Ext W0 W ∧ U8s W0 ao n bs ∧ W0.heap.size ≤ g
theorem DS.base {g : Nat} {ao : Option Addr} {n c : Nat} {bs : List UInt8} {W0 : World} {B : Nat} {W : World} (h : DS g ao n c bs W0 B W) : Ext W0 W := by obtain ⟨st, ok, s, e, u, l⟩ := h; exact e
theorem DS.low {g : Nat} {ao : Option Addr} {n c : Nat} {bs : List UInt8} {W0 : World} {B : Nat} {W : World} (h : DS g ao n c bs W0 B W) : W0.heap.size ≤ g ∧ g < W.heap.size := by obtain ⟨st, ok, s, e, u, l⟩ := h; exact ⟨l, lt_of_block s⟩
theorem DS.mono {g : Nat} {ao : Option Addr} {n c : Nat} {bs : List UInt8} {W0 : World} {B B' : Nat} {W : World} (h : DS g ao n c bs W0 B W) (hb : B ≤ B') : DS g ao n c bs W0 B' W := by obtain ⟨st, ok, s, e, u, l⟩ := h; exact ⟨st, ok.mono hb, s, e, u, l⟩
theorem DS.ext {g : Nat} {ao : Option Addr} {n c : Nat} {bs : List UInt8} {W0 : World} {B : Nat} {W W' : World} (h : DS g ao n c bs W0 B W) (e' : Ext W W') : DS g ao n c bs W0 B W' := by
  obtain ⟨st, ok, s, e, u, l⟩ := h; exact ⟨st, ok, e'.block s, e.trans e', u, l⟩
theorem DS.set {g : Nat} {ao : Option Addr} {n c : Nat} {bs : List UInt8} {W0 : World} {B : Nat} {W : World} (h : DS g ao n c bs W0 B W) (b i : Nat) (v : Value) (hb : W0.heap.size ≤ b) (hne : g ≠ b) : DS g ao n c bs W0 B (W.setCell ⟨b, i, none⟩ v) := by
  obtain ⟨st, ok, s, e, u, l⟩ := h; exact ⟨st, ok, heapQ_setO _ _ _ s hne, e.setCell hb _, u, l⟩
theorem DS.go {g : Nat} {ao : Option Addr} {n c : Nat} {bs : List UInt8} {W0 : World} {B B' : Nat} {W W' : World} (h : DS g ao n c bs W0 B W) {st : Src} (ok : st.Ok B') (s : SrcAt W' g ao n c st) (gr : W.grownBy W' (some g)) : DS g ao n c bs W0 B' W' := by
  obtain ⟨st0, _, _, e, u, l⟩ := h; exact ⟨st, ok, s, extQ_of_src gr e l, u, l⟩
theorem s_fromD (ao : Option Addr) (n c : Nat) (bs : List UInt8) (W0 w : World) (hu : U8s W0 ao n bs) (e0 : Ext W0 w) : Calls Tryz.prog 24 #[.slice ao n c] w (fun e w' => e = .returned (.pointer (some ⟨w.heap.size, 0, none⟩)) ∧ DS w.heap.size ao n c bs W0 0 w' ∧ Ext w w' ∧ w'.heap.size = w.heap.size + 1) := by
  refine (s_l00From ao n c w).mono ?_
  rintro e w' ⟨rfl, s1, e1, z1⟩
  exact ⟨rfl, ⟨⟨0, 0⟩, ⟨by decide, by decide⟩, s1, e0.trans e1, hu, e0.size⟩, e1, z1⟩
theorem pickD {g : Nat} {ao : Option Addr} {n c : Nat} {bs : List UInt8} {W0 : World} (N : Int) (h1 : 1 ≤ N) (h2 : N ≤ 1000000) {B : Nat} (hB : B ≤ 2900000000000000000) {W : World} (h : DS g ao n c bs W0 B W) :
    Calls Tryz.prog 40 #[.pointer (some ⟨g, 0, none⟩), .int .i64 N] W (fun e w' => ∃ q, e = .returned (.int .i64 q) ∧ 0 ≤ q ∧ q < N ∧ DS g ao n c bs W0 (B + 2) w' ∧ W.grownBy w' (some g)) := by
  have h0 := h
  obtain ⟨st, ok, s, e, u, l⟩ := h
  refine (s_pick g ao n c bs st N W s (u.ext e) W0 e u l (ok.mono (by omega)) (by omega)).mono ?_
  rintro e w' ⟨rfl, s1, g1⟩
  have hb := pickV_bd bs st N
  exact ⟨_, rfl, hb.1, hb.2 h1, h0.go (pickS_ok ok) s1 g1, g1⟩
theorem oneD {g : Nat} {ao : Option Addr} {n c : Nat} {bs : List UInt8} {W0 : World} (N : Int) (h1 : 1 ≤ N) (h2 : N ≤ 1000000) {B : Nat} (hB : B ≤ 2900000000000000000) {W : World} (h : DS g ao n c bs W0 B W) :
    Calls Tryz.prog 39 #[.pointer (some ⟨g, 0, none⟩), .int .i64 N] W (fun e w' => ∃ b, e = .returned (.bool b) ∧ DS g ao n c bs W0 (B + 2) w' ∧ W.grownBy w' (some g)) := by
  have h0 := h
  obtain ⟨st, ok, s, e, u, l⟩ := h
  refine (s_one g ao n c bs st N W s W0 e u l (ok.mono (by omega)) (by omega)).mono ?_
  rintro e w' ⟨rfl, s1, g1⟩
  exact ⟨_, rfl, h0.go (pickS_ok ok) s1 g1, g1⟩
theorem ints_at {W : World} {k : Nat} (ys : List Int) (cs : Array Value) (hcs : cs = (ys.map (Value.int .i64)).toArray) (hi : ∀ x ∈ ys, IsI64 x) (m : Nat) (hm : ys.length = m) (hm2 : m ≤ 200) (hb : W.heap[k]? = some (.cells cs 2 (0, 0))) : Ints W (some ⟨k, 0, none⟩) m ys := by
  subst hcs hm
  refine ⟨rfl, by omega, fun i h => ⟨k, 0, rfl, ?_⟩, hi⟩
  simp only [World.cell?, hb]
  simp [h, List.getD_eq_getElem?_getD]
theorem amongD {g : Nat} {ao : Option Addr} {n c : Nat} {bs : List UInt8} {W0 : World} (ys : List Int) (cs : Array Value) (hcs : cs = (ys.map (Value.int .i64)).toArray) (hi : ∀ x ∈ ys, IsI64 x) (m : Nat) (hm : ys.length = m) (hm1 : 1 ≤ m) (hm2 : m ≤ 200) {B : Nat} (hB : B ≤ 2900000000000000000) {W : World} (h : DS g ao n c bs W0 B W) (k : Nat) (hb : W.heap[k]? = some (.cells cs 2 (0, 0))) (hk : k ≠ g) :
    Calls Tryz.prog 41 #[.pointer (some ⟨g, 0, none⟩), .slice (some ⟨k, 0, none⟩) m m] W (fun e w' => ∃ x, e = .returned (.int .i64 x) ∧ x ∈ ys ∧ DS g ao n c bs W0 (B + 2) w' ∧ W.grownBy w' (some g)) := by
  have h0 := h
  obtain ⟨st, ok, s, e, u, l⟩ := h
  refine (s_amongQ u l B hB st ok W s e k m m ys (ints_at ys cs hcs hi m hm hm2 hb) hk hm1 hm2).mono ?_
  rintro e w' ⟨x, st', rfl, hx, ok', s1, g1⟩
  exact ⟨x, rfl, hx, h0.go ok' s1 g1, g1⟩
end Go.Proofs.YtdedamamjkpcpaaGreatDoor
