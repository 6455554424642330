/-
  The program's IsPerm, by a table of what was met.
-/
import Derived.Test.YthgigbihpcelpaaDoorPerm
namespace Go.Proofs.YthgigbihpcelpaaDoor
open Go.RowKit
set_option linter.unusedVariables false

end Go.Proofs.YthgigbihpcelpaaDoor
