/- The law of PackCodes, for every argument. -/
import Derived.Test.YtmenpflcmpihpaaL5PackCodes
import Derived.Test.YtmenpflcmpihpaaPks
namespace Go.Proofs.Ytmenpflcmpihpaa
open Go.RowKit
set_option linter.unusedVariables false
set_option linter.unusedSimpArgs false

theorem lawPackCodes_any (o l m : Int) (a : Option Addr) (cap : Nat) (ps : List Pr) (base last : Int) (ia : Option Addr) (icap : Nat) (is : List Int) (w : World) (hr : RdP w a cap ps) (hri : Rd encI w ia icap is) :
    Calls Try.prog 5 #[.agg #[.int .i64 o, .int .i64 l, .int .i64 m, .slice a ps.length cap, .int .i64 base, .int .i64 last], .slice ia is.length icap] w fun e w' => e = .returned (.bool true) ∧ Below w.heap.size w w' := by
  have g1 := hri.1
  have g2 := hri.2.1
  by_cases h : kvb o l m ps base last = false ∨ 3100 < is.length
  · exact lawPackCodes_sizes o l m a cap ps base last ia icap is w ⟨#[]⟩ false hr hri
      (fun W a cap ia icap hr hri => specPackCodes_of_no o l m a cap ps base last ia icap is W hr hri fun W a cap ia icap hr hri => l2All_no o l m a cap ps base last ia icap is W hr (by omega) h)
      (fun W a cap ia icap hr hri => PackCodes_of_none o l m a cap ps base last ia icap is W hr hri fun W a cap ia icap hr hri => walkCodes_no o l m a cap ps base last ia icap is W hr (by omega) h)
  · have hk : kvb o l m ps base last = true := by
      cases hk : kvb o l m ps base last
      · exact absurd (.inl hk) h
      · rfl
    have hil : is.length ≤ 3100 := by omega
    have hb0 := (kvb_iff.1 hk).b0
    obtain ⟨b, rfl⟩ : ∃ b : Nat, base = b := ⟨base.toNat, by omega⟩
    cases hR : wlk l m b is ps last [] [] with
    | none =>
      exact lawPackCodes_sizes o l m a cap ps b last ia icap is w ⟨#[]⟩ false hr hri
        (fun W a cap ia icap hr hri => specPackCodes_of_no o l m a cap ps b last ia icap is W hr hri fun W a cap ia icap hr hri => l2All_of o l m a cap ps b last ia icap is W hr hri hk hil none hR)
        (fun W a cap ia icap hr hri => PackCodes_of_none o l m a cap ps b last ia icap is W hr hri fun W a cap ia icap hr hri => walkCodes_yes o l m a cap ps b last ia icap is W hr hri hk hil b rfl none hR)
    | some q =>
      obtain ⟨V, D⟩ := q
      exact lawPackCodes_sizes o l m a cap ps b last ia icap is w _ true hr hri
        (fun W a cap ia icap hr hri => specPackCodes_yes o l m a cap ps b last ia icap is W hr hri hk hil V D hR)
        (fun W a cap ia icap hr hri => PackCodes_yes o l m a cap ps b last ia icap is W hr hri hk hil b rfl V D hR)

end Go.Proofs.Ytmenpflcmpihpaa
