/- The law of DecompressWith, for every argument. -/
import Derived.Test.YtmenpflcmpihpaaL5DecompressWith
import Derived.Test.YtmenpflcmpihpaaDwi
namespace Go.Proofs.Ytmenpflcmpihpaa
open Go.RowKit
set_option linter.unusedVariables false
set_option linter.unusedSimpArgs false

theorem lawDecompressWith_any (o l m : Int) (s1 s2 : ByteArray) (w : World) (hm1 : s1.size ≤ maxLen) (hm2 : s2.size ≤ maxLen) :
    Calls Try.prog 8 #[.agg #[.int .i64 o, .int .i64 l, .int .i64 m], .string s1, .string s2] w fun e w' => e = .returned (.bool true) ∧ Below w.heap.size w w' := by
  obtain ⟨y, en, us, hI, hS⟩ := dwi_ex o l m s1 s2 hm1 hm2
  exact lawDecompressWith_sizes o l m s1 s2 w y en us hm1 hm2 hS hI

end Go.Proofs.Ytmenpflcmpihpaa
