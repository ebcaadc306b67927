/- The law of LearnKnown, for every argument. -/
import Derived.Test.YtbedikodiboofaaL5LearnKnown
import Derived.Test.YtbedikodiboofaaLkn
namespace Go.Proofs.Ytbedikodiboofaa
open Go.RowKit
set_option linter.unusedVariables false
set_option linter.unusedSimpArgs false

theorem lawLearnKnown_any (o l m : Int) (a : Option Addr) (cap : Nat) (ps : List Pr) (base last : Int) (s1 : ByteArray) (w : World) (hr : RdP w a cap ps) (hm1 : s1.size ≤ maxLen) :
    Calls Try.prog 14 #[.agg #[.int .i64 o, .int .i64 l, .int .i64 m, .slice a ps.length cap, .int .i64 base, .int .i64 last], .string s1] w fun e w' => e = .returned (.bool true) ∧ Below w.heap.size w w' := by
  by_cases h : kvb o l m ps base last = false ∨ dfB o l m s1 = false
  · exact lawLearnKnown_sizes o l m a cap ps base last s1 w 0 0 0 [] 0 0 false hr hm1 (by simp) (fun W a cap hr => specLearnKnown_no o l m a cap ps base last s1 W hr hm1 h) (fun W a cap hr => implLearnKnown_no o l m a cap ps base last s1 W hr hm1 h)
  · have hk : kvb o l m ps base last = true := by
      cases hk : kvb o l m ps base last
      · exact absurd (.inl hk) h
      · rfl
    have hd : dfB o l m s1 = true := by
      cases hd : dfB o l m s1
      · exact absurd (.inr hd) h
      · rfl
    have hl := lrn_len (kvb_iff.1 hk).cleared hd s1.size
    exact lawLearnKnown_sizes o l m a cap ps base last s1 w o l m _ _ (-1) true hr hm1 (by omega) (fun W a cap hr => specLearnKnown_yes o l m a cap ps base last s1 W hr hm1 hk hd _ rfl) (fun W a cap hr => implLearnKnown_yes o l m a cap ps base last s1 W hr hm1 hk hd _ rfl)

end Go.Proofs.Ytbedikodiboofaa
