/- The law of CodeOfWord, for every argument. -/
import Derived.Test.YtbedikodiboofaaL3CodeOfWord
namespace Go.Proofs.Ytbedikodiboofaa
open Go.RowKit
set_option linter.unusedVariables false
set_option linter.unusedSimpArgs false

theorem lawCodeOfWord_any (o l m : Int) (a : Option Addr) (cap : Nat) (ps : List Pr) (base last : Int) (s1 : ByteArray) (w : World) (hr : RdP w a cap ps) (hm1 : s1.size ≤ maxLen) :
    Calls Try.prog 6 #[.agg #[.int .i64 o, .int .i64 l, .int .i64 m, .slice a ps.length cap, .int .i64 base, .int .i64 last], .string s1] w fun e w' => e = .returned (.bool true) ∧ Below w.heap.size w w' := by
  cases hk : kvb o l m ps base last
  · exact lawCodeOfWord_sizes o l m a cap ps base last s1 w 0 false hr hm1 (fun W a cap h => specCodeOfWord_no o l m a cap ps base last s1 W h hk) (fun W a cap h => implCodeOfWord_no o l m a cap ps base last s1 W h hk)
  · obtain ⟨l1, l2, m2, lm, t1, t2, t4, t3⟩ := (kvb_iff.1 hk).lim.bds
    obtain ⟨c, hc⟩ := fnd_ex l m ps last s1.data.toList t1
    exact lawCodeOfWord_sizes o l m a cap ps base last s1 w _ _ hr hm1 (fun W a cap h => specCodeOfWord_yes o l m a cap ps base last s1 W h hk hm1 c hc) (fun W a cap h => implCodeOfWord_yes o l m a cap ps base last s1 W h hk hm1 c hc)

end Go.Proofs.Ytbedikodiboofaa
