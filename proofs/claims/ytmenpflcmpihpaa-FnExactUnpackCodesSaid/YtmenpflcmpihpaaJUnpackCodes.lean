/- The law of UnpackCodes, for every argument. -/
import Derived.Test.YtmenpflcmpihpaaL5UnpackCodes
import Derived.Test.YtmenpflcmpihpaaUnd
namespace Go.Proofs.Ytmenpflcmpihpaa
open Go.RowKit
set_option linter.unusedVariables false
set_option linter.unusedSimpArgs false

theorem un_cases {o l m : Int} {ps : List Pr} {base last : Int} {s : ByteArray} (h : ¬ (kvb o l m ps base last = false ∨ 4000 < s.size)) : kvb o l m ps base last = true ∧ s.size ≤ 4000 ∧ ∃ b : Nat, base = b := by
  have hk : kvb o l m ps base last = true := by
    cases hk : kvb o l m ps base last
    · exact absurd (.inl hk) h
    · rfl
  refine ⟨hk, by omega, base.toNat, ?_⟩
  have := (kvb_iff.1 hk).b0
  omega

theorem lawUnpackCodes_any (o l m : Int) (a : Option Addr) (cap : Nat) (ps : List Pr) (base last : Int) (s1 : ByteArray) (w : World) (hr : RdP w a cap ps) (hm1 : s1.size ≤ maxLen) :
    Calls Try.prog 6 #[.agg #[.int .i64 o, .int .i64 l, .int .i64 m, .slice a ps.length cap, .int .i64 base, .int .i64 last], .string s1] w fun e w' => e = .returned (.bool true) ∧ Below w.heap.size w w' := by
  by_cases h : kvb o l m ps base last = false ∨ 4000 < s1.size
  · exact lawUnpackCodes_sizes o l m a cap ps base last s1 w [] 4 0 hr hm1 (by simp) (fun W a cap hr => specUnpackCodes_no o l m a cap ps base last s1 W hr hm1 h) (fun W a cap hr => implUnpackCodes_no o l m a cap ps base last s1 W hr hm1 h)
  · obtain ⟨hk, hs, b, rfl⟩ := un_cases h
    have hf := (unR_facts (s := s1) hk).2.1
    exact lawUnpackCodes_sizes o l m a cap ps b last s1 w _ _ _ hr hm1 (by omega) (fun W a cap hr => specUnpackCodes_yes2 o l m a cap ps b last s1 W hr hk hs _ rfl) (fun W a cap hr => implUnpackCodes_yes o l m a cap ps b last s1 W hr hk hs _ rfl)

end Go.Proofs.Ytmenpflcmpihpaa
