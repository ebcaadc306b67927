/- The law of CloseWriter, for every argument. -/
import Derived.Test.YtmenpflcmpihpaaL5CloseWriter
import Derived.Test.YtmenpflcmpihpaaCli
namespace Go.Proofs.Ytmenpflcmpihpaa
open Go.RowKit
set_option linter.unusedVariables false
set_option linter.unusedSimpArgs false

theorem lawCloseWriter_any (o l m : Int) (a : Option Addr) (cap : Nat) (ps : List Pr) (base last : Int) (sp sq : ByteArray) (bg : Bool) (w : World) (hr : RdP w a cap ps) (hsz : sp.size ≤ maxLen) (hsz2 : sq.size ≤ maxLen) :
    Calls Try.prog 13 #[.agg #[.int .i64 o, .int .i64 l, .int .i64 m, .slice a ps.length cap, .int .i64 base, .int .i64 last, .string sp, .string sq, .bool bg]] w fun e w' => e = .returned (.bool true) ∧ Below w.heap.size w w' := by
  cases hk : wvb o l m ps base last sp sq bg
  · exact lawCloseWriter_sizes o l m a cap ps base last sp sq bg w _ _ hr hsz hsz2 (fun W a cap h => specCloseWriter_no o l m a cap ps base last sp sq bg W h hsz hsz2 hk) (fun W a cap h => implCloseWriter_no o l m a cap ps base last sp sq bg W h hsz hsz2 hk)
  · have hk2 := hk
    unfold wvb at hk2
    rw [Bool.and_eq_true] at hk2
    have hkv := kvb_iff.1 hk2.1
    obtain ⟨b, rfl⟩ : ∃ b : Nat, base = b := ⟨base.toNat, by have := hkv.b0; omega⟩
    obtain ⟨B, hB⟩ := clo_ex hk
    exact lawCloseWriter_sizes o l m a cap ps b last sp sq bg w _ _ hr hsz hsz2 (fun W a cap h => specCloseWriter_go o l m a cap ps b last sp sq bg W h hk B hB) (fun W a cap h => implCloseWriter_go o l m a cap ps b last sp sq bg W h hk B hB)

end Go.Proofs.Ytmenpflcmpihpaa
