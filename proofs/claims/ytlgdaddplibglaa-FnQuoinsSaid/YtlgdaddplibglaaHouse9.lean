/- Two stretches between places of a plan meet: both sides. -/
import Derived.Test.YtlgdaddplibglaaHouse8
import Derived.Lib.MinMax
namespace Go.Proofs.Ytlgdaddplibglaa
open Go.RowKit
set_option linter.unusedSimpArgs false
set_option linter.unusedVariables false
set_option linter.unnecessarySimpa false

def PtC (w : World) (g : Nat) (p : Int × Int) : Prop := w.cell? ⟨g, 0, none⟩ = some (.int .i64 p.1) ∧ w.cell? ⟨g, 1, none⟩ = some (.int .i64 p.2)
theorem PtC.ext {w w' : World} {g : Nat} {p : Int × Int} (h : PtC w g p) (e : Ext w w') : PtC w' g p := ⟨e.cell h.1, e.cell h.2⟩
/-- apart along one coordinate -/
def apB (a b c d : Int) : Bool := decide (max a b < min c d) || decide (max c d < min a b)
def meetB (a b c d : Int × Int) : Bool := !apB a.1 b.1 c.1 d.1 && !apB a.2 b.2 c.2 d.2
end Go.Proofs.Ytlgdaddplibglaa
