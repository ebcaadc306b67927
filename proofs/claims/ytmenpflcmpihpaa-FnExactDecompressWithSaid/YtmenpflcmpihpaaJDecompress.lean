/- The law of Decompress, for every argument. -/
import Derived.Test.YtmenpflcmpihpaaL5Decompress
import Derived.Test.YtmenpflcmpihpaaUnd
namespace Go.Proofs.Ytmenpflcmpihpaa
open Go.RowKit
set_option linter.unusedVariables false
set_option linter.unusedSimpArgs false

theorem un_cases2 {o l m : Int} {ps : List Pr} {base last : Int} {s : ByteArray} (h : ¬ (kvb o l m ps base last = false ∨ 4000 < s.size)) : kvb o l m ps base last = true ∧ s.size ≤ 4000 ∧ ∃ b : Nat, base = b := by
  have hk : kvb o l m ps base last = true := by
    cases hk : kvb o l m ps base last
    · exact absurd (.inl hk) h
    · rfl
  refine ⟨hk, by omega, base.toNat, ?_⟩
  have := (kvb_iff.1 hk).b0
  omega

/-- both return the same -/
theorem dec_ex (o l m : Int) (a : Option Addr) (cap : Nat) (ps : List Pr) (base last : Int) (s1 : ByteArray) (hm1 : s1.size ≤ maxLen) : ∃ (y : ByteArray) (e u : Int), y.size ≤ 2000 ∧
    (∀ (W : World) (a : Option Addr) (cap : Nat), RdP W a cap ps → Calls Try.prog 31 #[.agg #[.int .i64 o, .int .i64 l, .int .i64 m, .slice a ps.length cap, .int .i64 base, .int .i64 last], .string s1] W (Ret W (.tuple #[.string y, .int .i64 e, .int .i64 u]))) ∧
    (∀ (W : World) (a : Option Addr) (cap : Nat), RdP W a cap ps → Calls Try.prog 32 #[.agg #[.int .i64 o, .int .i64 l, .int .i64 m, .slice a ps.length cap, .int .i64 base, .int .i64 last], .string s1] W (Ret W (.tuple #[.string y, .int .i64 e, .int .i64 u]))) := by
  by_cases h : kvb o l m ps base last = false ∨ 4000 < s1.size
  · exact ⟨⟨#[]⟩, 4, 0, by decide, fun W a cap hr => specDecompress_no o l m a cap ps base last s1 W hr hm1 h, fun W a cap hr => implDecompress_no o l m a cap ps base last s1 W hr hm1 h⟩
  · obtain ⟨hk, hs, b, rfl⟩ := un_cases2 h
    have hf := (unR_facts (s := s1) hk).2.2.1
    exact ⟨_, _, _, by rw [bstr_size]; exact hf, fun W a cap hr => specDecompress_yes o l m a cap ps b last s1 W hr hk hs _ rfl, fun W a cap hr => implDecompress_yes o l m a cap ps b last s1 W hr hk hs _ rfl⟩

theorem lawDecompress_any (o l m : Int) (a : Option Addr) (cap : Nat) (ps : List Pr) (base last : Int) (s1 : ByteArray) (w : World) (hr : RdP w a cap ps) (hm1 : s1.size ≤ maxLen) :
    Calls Try.prog 7 #[.agg #[.int .i64 o, .int .i64 l, .int .i64 m, .slice a ps.length cap, .int .i64 base, .int .i64 last], .string s1] w fun e w' => e = .returned (.bool true) ∧ Below w.heap.size w w' := by
  obtain ⟨y, e, u, _, hS, hI⟩ := dec_ex o l m a cap ps base last s1 hm1
  exact lawDecompress_sizes o l m a cap ps base last s1 w y e u hr hm1 hS hI

end Go.Proofs.Ytmenpflcmpihpaa
