/- Small words that all walks of this seat use: endings that the walk's simp cannot look into, rows of integers that are read, worlds that only grow. Nothing here speaks of the program. -/
import Derived.WalkKit
import Derived.WalkSpells
import Derived.WalkLawsBesides
import Derived.WalkSmall
import Derived.Lib.Hide
namespace Go.Proofs.YtdedamamjkpcpaaGreatDoor
open Go.RowKit

/-- The call returns v, and the world is as it was. -/
def RetV (v : Value) (w : World) (e : Ending) (w' : World) : Prop := e = .returned v ∧ w = w'
theorem RetV.mk {v v' : Value} {w : World} (h : v' = v) : RetV v w (.returned v') w := ⟨by rw [h], rfl⟩
theorem int_eq {k : IntKind} {a b : Int} (h : a = b) : Value.int k a = .int k b := by rw [h]
theorem bool_eq {a b : Bool} (h : a = b) : Value.bool a = .bool b := by rw [h]

/-- one of two numbers; the walk does not look inside -/
def sel (b : Bool) (x y : Int) : Int := if b then x else y
theorem sel_t {b : Bool} (h : b = true) (x y : Int) : sel b x y = x := by simp [sel, h]
theorem sel_f {b : Bool} (h : ¬ b = true) (x y : Int) : sel b x y = y := by simp [sel, h]

/-- what a number of Go's int64 is known to be -/
def IsI64 (a : Int) : Prop := -9223372036854775808 ≤ a ∧ a ≤ 9223372036854775807
theorem i64_of_wf {a : Int} (h : (Lit.int .i64 a).wf = true) : IsI64 a := by
  simp [Lit.wf, IntKind.min, IntKind.max, IntKind.signed, IntKind.bits] at h
  unfold IsI64
  omega

theorem results_tmp4 {fn : Func} {t u v x : Tmp} (h : fn.results = #[.tmp t, .tmp u, .tmp v, .tmp x]) (tmps : Array Value) (P : Program) (w : World) :
    (results fn tmps).run P w = .ok (.tuple #[tmps.getD t undef, tmps.getD u undef, tmps.getD v undef, tmps.getD x undef]) w := by
  simp [results, h]

end Go.Proofs.YtdedamamjkpcpaaGreatDoor
