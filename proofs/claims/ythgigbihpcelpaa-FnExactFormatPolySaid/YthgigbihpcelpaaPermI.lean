/-
  The program's IsPerm, by a table of what was met.
-/
import Derived.Test.YthgigbihpcelpaaPerm
namespace Go.Proofs.Ythgigbihpcelpaa
open Go.RowKit
set_option linter.unusedVariables false

end Go.Proofs.Ythgigbihpcelpaa
