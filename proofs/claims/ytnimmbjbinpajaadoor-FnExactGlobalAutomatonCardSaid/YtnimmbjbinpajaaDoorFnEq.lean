/-
  slices.Equal on numbers.
-/
import Derived.Test.YtnimmbjbinpajaaDoorFnMgA
set_option linter.unusedVariables false
set_option linter.unusedSimpArgs false
set_option maxRecDepth 100000
set_option maxHeartbeats 1600000
namespace Go.AM
open Go.Proofs
end Go.AM
