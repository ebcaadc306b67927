/- The law of FormatReader, for every argument. -/
import Derived.Test.YtmddcbebaijjkaaDoorL5FormatReader
import Derived.Test.YtmddcbebaijjkaaDoorFrd
namespace Go.Proofs.YtmddcbebaijjkaaDoor
open Go.RowKit
set_option linter.unusedVariables false
set_option linter.unusedSimpArgs false

theorem lawFormatReader_any (o l m : Int) (a : Option Addr) (cap : Nat) (ps : List Pr) (base last : Int) (s : ByteArray) (z c e : Int) (w : World) (hr : RdP w a cap ps) (hs : s.size ≤ maxLen) (ht : Tb w) :
    Calls Tryd.prog 5 #[.agg #[.int .i64 o, .int .i64 l, .int .i64 m, .slice a ps.length cap, .int .i64 base, .int .i64 last, .string s, .int .i64 z, .int .i64 c, .int .i64 e]] w fun E w' => E = .returned (.bool true) ∧ Below w.heap.size w w' := by
  by_cases hk : rdb o l m ps base last s z c e = true ∧ s.size ≤ 1048576
  · exact lawFormatReader_sizes o l m a cap ps base last s z c e w _ hr hs ht (fun W a cap hr => specFormatReader_yes o l m a cap ps base last s z c e W hr hk.2 hk.1) (fun W a cap hr ht => implFormatReader_yes o l m a cap ps base last s z c e W hr hk.2 hk.1 ht)
  · by_cases hk2 : rdb o l m ps base last s z c e = true
    · exact lawFormatReader_big o l m a cap ps base last s z c e w hr (by have : ¬ s.size ≤ 1048576 := fun h => hk ⟨hk2, h⟩; omega) hs
    · have hk3 : rdb o l m ps base last s z c e = false := by simpa using hk2
      exact lawFormatReader_sizes o l m a cap ps base last s z c e w _ hr hs ht (fun W a cap hr => specFormatReader_no o l m a cap ps base last s z c e W hr hs hk3) (fun W a cap hr _ => implFormatReader_no o l m a cap ps base last s z c e W hr hs hk3)

end Go.Proofs.YtmddcbebaijjkaaDoor
