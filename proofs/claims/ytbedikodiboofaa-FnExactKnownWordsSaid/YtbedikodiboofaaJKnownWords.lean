/- The law of KnownWords, for every argument. -/
import Derived.Test.YtbedikodiboofaaL4Kwyp
import Derived.Test.YtbedikodiboofaaL4Kwyz
import Derived.Test.YtbedikodiboofaaL4Kwnp
import Derived.Test.YtbedikodiboofaaL4Kwnz
namespace Go.Proofs.Ytbedikodiboofaa
open Go.RowKit
set_option linter.unusedVariables false
set_option linter.unusedSimpArgs false

set_option maxRecDepth 100000 in
theorem lawKnownWords_big (o l m : Int) (a : Option Addr) (cap : Nat) (ps : List Pr) (base last : Int) (w : World) (hr : RdP w a cap ps) (hn : 1048576 < ps.length) :
    Calls Try.prog 5 #[.agg #[.int .i64 o, .int .i64 l, .int .i64 m, .slice a ps.length cap, .int .i64 base, .int .i64 last]] w fun e w' => e = .returned (.bool true) ∧ Below w.heap.size w w' := by
  have h1 := hr.1
  have h2 := hr.2.1
  have c1 : (1048576 : Int) < (ps.length : Int) := by omega
  go_enter Try.func5, Try.ntmps5
  go_wp2_with (go_at_call 15; refine (szKnown_no _ _ _ _ _ _ _ _ _ _ c1 (by omega) (by omega)).mono ?_; rintro e w' ⟨rfl, xc, rfl⟩)
  go_ret
  exact ⟨rfl, (by repeat (first | exact Below.refl _ _ | refine below_plus ?_ (by first | omega | (simp <;> omega)) _ | refine Below.alloc ?_ (by first | omega | (simp <;> omega)) _ | refine below_patch ?_ (by omega) _ | refine Below.drew ?_))⟩

theorem lawKnownWords_any (o l m : Int) (a : Option Addr) (cap : Nat) (ps : List Pr) (base last : Int) (w : World) (hr : RdP w a cap ps) :
    Calls Try.prog 5 #[.agg #[.int .i64 o, .int .i64 l, .int .i64 m, .slice a ps.length cap, .int .i64 base, .int .i64 last]] w fun e w' => e = .returned (.bool true) ∧ Below w.heap.size w w' := by
  by_cases hn : ps.length ≤ 1048576
  · cases hk : kvb o l m ps base last
    · cases ps with
      | nil => exact lawKw_no_nil o l m a cap base last w hr hk
      | cons p ps => exact lawKw_no_pos o l m a cap _ base last w hr hn hk (by simp)
    · cases ps with
      | nil => exact lawKw_yes_nil o l m a cap base last w hr hk
      | cons p ps => exact lawKw_yes_pos o l m a cap _ base last w hr hn hk (by simp)
  · exact lawKnownWords_big o l m a cap ps base last w hr (by omega)

end Go.Proofs.Ytbedikodiboofaa
