/- The walks of UnpackCodes and Decompress, of the program and of the reference. -/
import Derived.Test.YtmddcbebaijjkaaGreatDoorUnp
namespace Go.Proofs.YtmddcbebaijjkaaGreatDoor
open Go.RowKit
set_option linter.unusedVariables false
set_option linter.unusedSimpArgs false

end Go.Proofs.YtmddcbebaijjkaaGreatDoor
