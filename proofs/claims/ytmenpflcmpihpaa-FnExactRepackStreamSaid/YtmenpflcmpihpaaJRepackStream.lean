/- The law of RepackStream, for every argument. -/
import Derived.Test.YtmenpflcmpihpaaL5RepackStream
import Derived.Test.YtmenpflcmpihpaaRps
namespace Go.Proofs.Ytmenpflcmpihpaa
open Go.RowKit
set_option linter.unusedVariables false
set_option linter.unusedSimpArgs false

theorem lawRepackStream_any (o l m : Int) (a : Option Addr) (cap : Nat) (ps : List Pr) (base last : Int) (s1 : ByteArray) (w : World) (hr : RdP w a cap ps) (hm1 : s1.size ≤ maxLen) :
    Calls Try.prog 9 #[.agg #[.int .i64 o, .int .i64 l, .int .i64 m, .slice a ps.length cap, .int .i64 base, .int .i64 last], .string s1] w fun e w' => e = .returned (.bool true) ∧ Below w.heap.size w w' := by
  by_cases h : kvb o l m ps base last = false ∨ 4000 < s1.size
  · exact lawRepackStream_sizes o l m a cap ps base last s1 w ⟨#[]⟩ false hr hm1
      (fun W a cap hr => specRepack_no o l m a cap ps base last s1 W hr [] 4 0 (by decide) fun W a cap hr => specUnpackCodes_no o l m a cap ps base last s1 W hr hm1 h)
      (fun W a cap hr => implRepack_no o l m a cap ps base last s1 W hr [] 4 0 (by decide) fun W a cap hr => implUnpackCodes_no o l m a cap ps base last s1 W hr hm1 h)
  · have hk : kvb o l m ps base last = true := by
      cases hk : kvb o l m ps base last
      · exact absurd (.inl hk) h
      · rfl
    have hs : s1.size ≤ 4000 := by omega
    have hb0 := (kvb_iff.1 hk).b0
    obtain ⟨b, rfl⟩ : ∃ b : Nat, base = b := ⟨base.toNat, by omega⟩
    obtain ⟨⟨W', hW⟩, h2, _, _⟩ := unR_facts (s := s1) hk
    have hS := fun (W : World) (a : Option Addr) (cap : Nat) (hr : RdP W a cap ps) => specUnpackCodes_yes2 o l m a cap ps b last s1 W hr hk hs _ rfl
    have hI := fun (W : World) (a : Option Addr) (cap : Nat) (hr : RdP W a cap ps) => implUnpackCodes_yes o l m a cap ps b last s1 W hr hk hs _ rfl
    by_cases he : (unR o l m b ps last s1).e = 0
    · rw [he] at hS hI
      exact lawRepackStream_sizes o l m a cap ps b last s1 w _ true hr hm1
        (fun W a cap hr => specRepack_yes o l m a cap ps b last s1 W hr hk _ _ h2 W' _ hW hS)
        (fun W a cap hr => implRepack_yes o l m a cap ps b last s1 W hr hk _ _ h2 W' _ hW hI)
    · exact lawRepackStream_sizes o l m a cap ps b last s1 w ⟨#[]⟩ false hr hm1
        (fun W a cap hr => specRepack_no o l m a cap ps b last s1 W hr _ _ _ he hS)
        (fun W a cap hr => implRepack_no o l m a cap ps b last s1 W hr _ _ _ he hI)

end Go.Proofs.Ytmenpflcmpihpaa
