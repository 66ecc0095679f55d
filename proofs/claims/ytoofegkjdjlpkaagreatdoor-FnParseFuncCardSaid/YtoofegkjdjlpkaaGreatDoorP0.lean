/- The library's contracts, told to the printer. -/
import Derived.Test.YtoofegkjdjlpkaaGreatDoorL5
set_option linter.unusedVariables false
set_option linter.unusedSimpArgs false
set_option linter.unusedSectionVars false
namespace Go.Proofs.YtoofegkjdjlpkaaGreatDoor.M
open Go Go.Proofs
set_option maxRecDepth 100000
end Go.Proofs.YtoofegkjdjlpkaaGreatDoor.M
