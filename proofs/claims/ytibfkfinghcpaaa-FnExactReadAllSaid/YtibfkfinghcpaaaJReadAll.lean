/- The law of ReadAll, for every argument. -/
import Derived.Test.YtibfkfinghcpaaaL5ReadAll
import Derived.Test.YtibfkfinghcpaaaIra
namespace Go.Proofs.Ytibfkfinghcpaaa
open Go.RowKit
set_option linter.unusedVariables false
set_option linter.unusedSimpArgs false

/-- both return the same -/
theorem ra_ex (o l m : Int) (a : Option Addr) (cap : Nat) (ps : List Pr) (base last : Int) (us : List ByteArray) (hz : us.length + sumZ us ≤ 1048576) : ∃ (y : ByteArray) (e u : Int),
    (∀ (W : World) (a : Option Addr) (cap : Nat) (sa : Option Addr) (scap : Nat), RdP W a cap ps → RdS W sa scap us → Calls Try.prog 43 #[.agg #[.int .i64 o, .int .i64 l, .int .i64 m, .slice a ps.length cap, .int .i64 base, .int .i64 last], .slice sa us.length scap] W (Ret W (.tuple #[.string y, .int .i64 e, .int .i64 u]))) ∧
    (∀ (W : World) (a : Option Addr) (cap : Nat) (sa : Option Addr) (scap : Nat), RdP W a cap ps → RdS W sa scap us → Calls Try.prog 42 #[.agg #[.int .i64 o, .int .i64 l, .int .i64 m, .slice a ps.length cap, .int .i64 base, .int .i64 last], .slice sa us.length scap] W (Ret W (.tuple #[.string y, .int .i64 e, .int .i64 u]))) := by
  cases hk : kvb o l m ps base last
  · exact ⟨⟨#[]⟩, 4, 0, fun W a cap sa scap hr hs => specReadAll_no o l m a cap ps base last sa scap us W hr (by omega) hk, fun W a cap sa scap hr hs => implReadAll_no o l m a cap ps base last sa scap us W hr hk⟩
  · have hb0 := (kvb_iff.1 hk).b0
    obtain ⟨b, rfl⟩ : ∃ b : Nat, base = b := ⟨base.toNat, by omega⟩
    exact ⟨_, _, _, fun W a cap sa scap hr hs => specReadAll_yes o l m a cap ps b last sa scap us W hr hs hz hk _ rfl, fun W a cap sa scap hr hs => implReadAll_yes o l m a cap ps b last sa scap us W hr hs hz hk _ rfl⟩

theorem lawReadAll_any (o l m : Int) (a : Option Addr) (cap : Nat) (ps : List Pr) (base last : Int) (sa : Option Addr) (scap : Nat) (us : List ByteArray) (w : World) (hr : RdP w a cap ps) (hs : RdS w sa scap us) (hz : ∀ s ∈ us, s.size ≤ maxLen) :
    Calls Try.prog 12 #[.agg #[.int .i64 o, .int .i64 l, .int .i64 m, .slice a ps.length cap, .int .i64 base, .int .i64 last], .slice sa us.length scap] w fun e w' => e = .returned (.bool true) ∧ Below w.heap.size w w' := by
  by_cases hb : 1048576 < (ps.length : Int)
  · exact lawReadAll_big o l m a cap ps base last sa scap us w hr hb
  by_cases hm : 1048576 < (ps.length : Int) + us.length + sumZ us
  · exact lawReadAll_much o l m a cap ps base last sa scap us w hs hz (by omega) hm
  obtain ⟨y, e, u, hS, hI⟩ := ra_ex o l m a cap ps base last us (by omega)
  exact lawReadAll_fit o l m a cap ps base last sa scap us w y e u hr hs hz (by omega) hS hI

end Go.Proofs.Ytibfkfinghcpaaa
