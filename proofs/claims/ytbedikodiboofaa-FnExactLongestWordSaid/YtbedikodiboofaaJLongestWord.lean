/- The law of LongestWord, for every argument. -/
import Derived.Test.YtbedikodiboofaaL3LongestWord
namespace Go.Proofs.Ytbedikodiboofaa
open Go.RowKit
set_option linter.unusedVariables false
set_option linter.unusedSimpArgs false

theorem lawLongestWord_any (o l m : Int) (a : Option Addr) (cap : Nat) (ps : List Pr) (base last : Int) (s1 : ByteArray) (w : World) (hr : RdP w a cap ps) (hm1 : s1.size ≤ maxLen) :
    Calls Try.prog 8 #[.agg #[.int .i64 o, .int .i64 l, .int .i64 m, .slice a ps.length cap, .int .i64 base, .int .i64 last], .string s1] w fun e w' => e = .returned (.bool true) ∧ Below w.heap.size w w' := by
  by_cases h : kvb o l m ps base last = false ∨ dfB o l m s1 = false ∨ s1.size = 0
  · exact lawLongestWord_sizes o l m a cap ps base last s1 w _ hr hm1 (fun W a cap hr => specLongestWord_no o l m a cap ps base last s1 W hr hm1 h) (fun W a cap hr => implLongestWord_no o l m a cap ps base last s1 W hr hm1 h)
  · have hk : kvb o l m ps base last = true := by
      cases hk : kvb o l m ps base last
      · exact absurd (.inl hk) h
      · rfl
    have hd : dfB o l m s1 = true := by
      cases hd : dfB o l m s1
      · exact absurd (.inr (.inl hd)) h
      · rfl
    have hz : 0 < s1.size := by
      rcases Nat.eq_zero_or_pos s1.size with h0 | h0
      · exact absurd (.inr (.inr h0)) h
      · exact h0
    obtain ⟨n, hn⟩ := lon_ex (kvb_iff.1 hk) hd hz
    exact lawLongestWord_sizes o l m a cap ps base last s1 w _ hr hm1 (fun W a cap hr => specLongestWord_yes o l m a cap ps base last s1 W hr hm1 hk hd hz n hn) (fun W a cap hr => implLongestWord_yes o l m a cap ps base last s1 W hr hm1 hk hd hz n hn)

end Go.Proofs.Ytbedikodiboofaa
