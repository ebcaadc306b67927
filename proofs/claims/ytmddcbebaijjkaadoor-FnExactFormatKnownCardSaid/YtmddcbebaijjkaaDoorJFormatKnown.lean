/- The law of FormatKnown, for every argument. -/
import Derived.Test.YtmddcbebaijjkaaDoorL5FormatKnown
import Derived.Test.YtmddcbebaijjkaaDoorFki
namespace Go.Proofs.YtmddcbebaijjkaaDoor
open Go.RowKit
set_option linter.unusedVariables false
set_option linter.unusedSimpArgs false

theorem lawFormatKnown_any (o l m : Int) (a : Option Addr) (cap : Nat) (ps : List Pr) (base last : Int) (w : World) (hr : RdP w a cap ps) (ht : Tb w) :
    Calls Tryd.prog 3 #[.agg #[.int .i64 o, .int .i64 l, .int .i64 m, .slice a ps.length cap, .int .i64 base, .int .i64 last]] w fun e w' => e = .returned (.bool true) ∧ Below w.heap.size w w' := by
  cases hk : kvb o l m ps base last
  · exact lawFormatKnown_sizes o l m a cap ps base last w _ hr ht (fun W a cap hr => specFormatKnown_no o l m a cap ps base last W hr hk) (fun W a cap hr _ => implFormatKnown_no o l m a cap ps base last W hr hk)
  · exact lawFormatKnown_sizes o l m a cap ps base last w _ hr ht (fun W a cap hr => specFormatKnown_yes o l m a cap ps base last W hr hk) (fun W a cap hr ht => implFormatKnown_yes o l m a cap ps base last W hr hk ht)

end Go.Proofs.YtmddcbebaijjkaaDoor
