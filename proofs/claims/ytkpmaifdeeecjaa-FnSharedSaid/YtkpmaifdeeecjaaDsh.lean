/- The law of SharedWords' sharing, for every drawn argument. -/
import Derived.Test.YtkpmaifdeeecjaaLsh
import Derived.Test.YtkpmaifdeeecjaaDsw
namespace Go.Proofs.Ytkpmaifdeeecjaa
open Go.RowKit
set_option linter.unusedVariables false
set_option linter.unusedSimpArgs false

theorem lawShared_any (a : Option Addr) (cap : Nat) (bs : List UInt8) (w : World) (hr : Rd encB w a cap bs) :
    Calls Try.prog 3 #[.slice a bs.length cap] w (fun e w' => e = .returned (.bool true) ∧ Below w.heap.size w w') :=
  lawShared_of (fun a cap bs w hr => DrawSharedWords_any a cap bs w hr) a cap bs w hr

end Go.Proofs.Ytkpmaifdeeecjaa
