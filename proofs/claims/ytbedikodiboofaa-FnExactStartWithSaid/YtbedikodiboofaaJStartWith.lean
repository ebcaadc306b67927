/- The law of StartWith, for every argument. -/
import Derived.Test.YtbedikodiboofaaL5StartWith
import Derived.Test.YtbedikodiboofaaSwi
namespace Go.Proofs.Ytbedikodiboofaa
open Go.RowKit
set_option linter.unusedVariables false
set_option linter.unusedSimpArgs false

theorem lawStartWith_any (o l m : Int) (s1 : ByteArray) (w : World) (hm1 : s1.size ≤ maxLen) :
    Calls Try.prog 13 #[.agg #[.int .i64 o, .int .i64 l, .int .i64 m], .string s1] w fun e w' => e = .returned (.bool true) ∧ Below w.heap.size w w' := by
  cases hs : sv o l m
  · exact lawStartWith_sizes o l m s1 w 0 0 0 [] 0 0 false hm1 (by simp) (fun W => specStartWith_nos o l m s1 W hs) (fun W => implStartWith_nos o l m s1 W hs)
  · have hr : ∀ W : World, RdP W none 0 [] := fun W => rd_none W
    have hk : kvb o l m [] 0 (-1) = true := kvb_iff.2 (kv_start hs)
    cases hd : dfB o l m s1
    · exact lawStartWith_sizes o l m s1 w 0 0 0 [] 0 0 false hm1 (by simp)
        (fun W => specStartWith_of o l m s1 W hs _ _ _ _ _ _ _ fun W => specLearnKnown_no o l m none 0 [] 0 (-1) s1 W (hr W) hm1 (.inr hd))
        (fun W => implStartWith_of o l m s1 W hs _ _ _ _ _ _ _ fun W => implLearnKnown_no o l m none 0 [] 0 (-1) s1 W (hr W) hm1 (.inr hd))
    · have hl := lrn_len (kvb_iff.1 hk).cleared hd s1.size
      exact lawStartWith_sizes o l m s1 w o l m _ _ (-1) true hm1 (by omega)
        (fun W => specStartWith_of o l m s1 W hs _ _ _ _ _ _ _ fun W => specLearnKnown_yes o l m none 0 [] 0 (-1) s1 W (hr W) hm1 hk hd _ rfl)
        (fun W => implStartWith_of o l m s1 W hs _ _ _ _ _ _ _ fun W => implLearnKnown_yes o l m none 0 [] 0 (-1) s1 W (hr W) hm1 hk hd _ rfl)

end Go.Proofs.Ytbedikodiboofaa
