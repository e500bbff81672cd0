/- Plans whose sides do not meet: the program's and the reference's answer. -/
import Derived.Test.YtlgdaddplibglaaHouse10
namespace Go.Proofs.Ytlgdaddplibglaa
open Go.RowKit
set_option linter.unusedSimpArgs false
set_option linter.unusedVariables false
set_option linter.unnecessarySimpa false

end Go.Proofs.Ytlgdaddplibglaa
