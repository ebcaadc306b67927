/- The law of Compress, for every argument. -/
import Derived.Test.YtmenpflcmpihpaaL5Compress
import Derived.Test.YtmenpflcmpihpaaCmp
namespace Go.Proofs.Ytmenpflcmpihpaa
open Go.RowKit
set_option linter.unusedVariables false
set_option linter.unusedSimpArgs false

theorem lawCompress_any (o l m : Int) (a : Option Addr) (cap : Nat) (ps : List Pr) (base last : Int) (s1 : ByteArray) (w : World) (hr : RdP w a cap ps) (hm1 : s1.size ≤ maxLen) :
    Calls Try.prog 10 #[.agg #[.int .i64 o, .int .i64 l, .int .i64 m, .slice a ps.length cap, .int .i64 base, .int .i64 last], .string s1] w fun e w' => e = .returned (.bool true) ∧ Below w.heap.size w w' := by
  by_cases h : kvb o l m ps base last = false ∨ dfB o l m s1 = false
  · exact lawCompress_sizes o l m a cap ps base last s1 w ⟨#[]⟩ false hr hm1 (fun W a cap hr => specCompress_no o l m a cap ps base last s1 W hr hm1 h) (fun W a cap hr => implCompress_no o l m a cap ps base last s1 W hr hm1 h)
  · have hk : kvb o l m ps base last = true := by
      cases hk : kvb o l m ps base last
      · exact absurd (.inl hk) h
      · rfl
    have hd : dfB o l m s1 = true := by
      cases hd : dfB o l m s1
      · exact absurd (.inr hd) h
      · rfl
    obtain ⟨b, rfl⟩ : ∃ b : Nat, base = b := ⟨base.toNat, by have := (kvb_iff.1 hk).b0; omega⟩
    obtain ⟨V, hV, hl⟩ := cmp_ex hk hd
    exact lawCompress_sizes o l m a cap ps b last s1 w _ true hr hm1 (fun W a cap hr => specCompress_yes o l m a cap ps b last s1 W hr hm1 hk hd V hV hl) (fun W a cap hr => implCompress_yes o l m a cap ps b last s1 W hr hm1 hk hd V hV hl)

end Go.Proofs.Ytmenpflcmpihpaa
