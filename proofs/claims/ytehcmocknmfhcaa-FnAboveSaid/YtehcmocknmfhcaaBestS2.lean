/- The reference's answers about best courses. -/
import Derived.Test.YtehcmocknmfhcaaBestS
import Derived.Test.YtehcmocknmfhcaaClash
namespace Go.Proofs.Ytehcmocknmfhcaa
open Go.RowKit
set_option linter.unusedSimpArgs false
set_option linter.unusedVariables false
set_option linter.unnecessarySimpa false

/-- a text and a code are handed back -/
def RetTC (t : ByteArray) (c : Int) (w : World) (e : Ending) (w' : World) : Prop := e = .returned (.tuple #[.string t, .int .i64 c]) ∧ Ext w w'
theorem RetTC.mk {t t' : ByteArray} {c c' : Int} {w w' : World} (h : t' = t) (k : c' = c) (e : Ext w w') : RetTC t c w (.returned (.tuple #[.string t', .int .i64 c'])) w' := ⟨by rw [h, k], e⟩
def PairE (a b : Int) (w : World) (e : Ending) (w' : World) : Prop := e = .returned (.tuple #[.int .i64 a, .int .i64 b]) ∧ Ext w w'
theorem PairE.mk {a b a' b' : Int} {w w' : World} (h : a' = a) (k : b' = b) (e : Ext w w') : PairE a b w (.returned (.tuple #[.int .i64 a', .int .i64 b'])) w' := ⟨by rw [h, k], e⟩
theorem nil_ints (w : World) (g : Nat) : Ints w (some ⟨g, 0, none⟩) 0 [] := ⟨rfl, by omega, fun i hi => by omega, by simp⟩
theorem nil_near : Near [] := fun x hx => by simp at hx
/-- the best course of a length -/
def bestL (L : Int) : Option Rw := if inB L 1 80 then best (farB 1 []) L L.toNat else none
def bestT (L : Int) : ByteArray := if inB L 1 80 then tS (best (farB 1 []) L L.toNat) else ByteArray.empty
def bestC (L : Int) : Int := if inB L 1 80 then cS (best (farB 1 []) L L.toNat) else 0
theorem qB_pos {b : UInt8} (h : isPc b = true) : 1 ≤ qB b := by
  have := qB_bd b
  unfold isPc at h
  simp at h
  omega
theorem qSum_ge (l : List UInt8) (h : l.all isPc = true) : (l.length : Int) ≤ qSum l := by
  induction l with
  | nil => simp [qSum]
  | cons b l ih =>
    rw [List.all_cons, Bool.and_eq_true] at h
    have h1 := qB_pos h.1
    have h2 := ih h.2
    rw [qSum_cons, List.length_cons]
    omega
/-- the code of a question for the best course above another one -/
def askC (s : ByteArray) (lap : Int) : Int :=
  if validC (bts s) then (if inB lap 1 4 then (if 80 < lenS s then 5 else (if (best (farB lap (perps (bts s))) (lenS s) (lenS s).toNat).isSome then 0 else 3)) else 2) else 1
def askO (s : ByteArray) (lap : Int) : Rw := if askC s lap = 0 then (best (farB lap (perps (bts s))) (lenS s) (lenS s).toNat).getD ⟨0, 0, []⟩ else ⟨0, 0, []⟩
def askV (s : ByteArray) (lap : Int) : Value := .tuple #[.agg #[.int .i64 (askO s lap).c, .int .i64 (askO s lap).p, .string (mkS (askO s lap).t)], .int .i64 (askC s lap)]
theorem askV_bad {s : ByteArray} {lap k : Int} (h : askC s lap = k) (hk : k ≠ 0) : Value.tuple #[.agg #[.int .i64 0, .int .i64 0, .string ⟨#[]⟩], .int .i64 k] = askV s lap := by
  subst h
  unfold askV askO
  rw [if_neg hk]
  rfl
end Go.Proofs.Ytehcmocknmfhcaa
