/- The law of WriterValid, for every argument. -/
import Derived.Test.YtbedikodiboofaaL5WriterValid
import Derived.Test.YtbedikodiboofaaWva
namespace Go.Proofs.Ytbedikodiboofaa
open Go.RowKit
set_option linter.unusedVariables false
set_option linter.unusedSimpArgs false

theorem lawWriterValid_any (o l m : Int) (a : Option Addr) (cap : Nat) (ps : List Pr) (base last : Int) (sp sq : ByteArray) (bg : Bool) (w : World) (hr : RdP w a cap ps) (hsz : sp.size ≤ maxLen) (hsz2 : sq.size ≤ maxLen) :
    Calls Try.prog 12 #[.agg #[.int .i64 o, .int .i64 l, .int .i64 m, .slice a ps.length cap, .int .i64 base, .int .i64 last, .string sp, .string sq, .bool bg]] w fun e w' => e = .returned (.bool true) ∧ Below w.heap.size w w' :=
  lawWriterValid_sizes o l m a cap ps base last sp sq bg w _ hr hsz hsz2 (fun W a cap h => specWriterValid_any o l m a cap ps base last sp sq bg W h hsz hsz2) (fun W a cap h => implWriterValid_any o l m a cap ps base last sp sq bg W h hsz hsz2)

end Go.Proofs.Ytbedikodiboofaa
