/- soKnown of equal things; After of the clear code. -/
import Derived.Test.YtkpmaifdeeecjaaSwi
import Derived.Test.YtkpmaifdeeecjaaAdv
namespace Go.Proofs.Ytkpmaifdeeecjaa
open Go.RowKit
set_option linter.unusedVariables false
set_option linter.unusedSimpArgs false

end Go.Proofs.Ytkpmaifdeeecjaa
