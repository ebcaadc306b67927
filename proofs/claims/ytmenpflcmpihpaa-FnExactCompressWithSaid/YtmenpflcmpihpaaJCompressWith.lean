/- The law of CompressWith, for every argument. -/
import Derived.Test.YtmenpflcmpihpaaL5CompressWith
import Derived.Test.YtmenpflcmpihpaaCwi
namespace Go.Proofs.Ytmenpflcmpihpaa
open Go.RowKit
set_option linter.unusedVariables false
set_option linter.unusedSimpArgs false

theorem lawCompressWith_any (o l m : Int) (s1 s2 : ByteArray) (w : World) (hm1 : s1.size ≤ maxLen) (hm2 : s2.size ≤ maxLen) :
    Calls Try.prog 11 #[.agg #[.int .i64 o, .int .i64 l, .int .i64 m], .string s1, .string s2] w fun e w' => e = .returned (.bool true) ∧ Below w.heap.size w w' := by
  obtain ⟨y, bb, _, hI, hS⟩ := cwi_ex o l m s1 s2 hm1 hm2
  exact lawCompressWith_sizes o l m s1 s2 w y bb hm1 hm2 hS hI

end Go.Proofs.Ytmenpflcmpihpaa
