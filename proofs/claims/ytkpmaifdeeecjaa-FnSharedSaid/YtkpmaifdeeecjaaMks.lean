/- Marks in no strings. -/
import Derived.Test.YtkpmaifdeeecjaaGb
import Derived.Test.YtkpmaifdeeecjaaL4w
namespace Go.Proofs.Ytkpmaifdeeecjaa
open Go.RowKit
set_option linter.unusedVariables false
set_option linter.unusedSimpArgs false

theorem seq_n (x y : Ext) : (x.seq y).n = x.n + y.n := by simp [Ext.seq, Ext.n]

theorem draw_n (x : Ext) (k : Nat) : (x.draw k).n = x.n := rfl

theorem rd_zero {α : Type} {E : Enc α} (w : World) (a : Option Addr) : Rd E w a 0 [] := ⟨by simp, by omega, .inl rfl⟩

/-- what a call leaves that returns no strings, in a slice without room -/
def RetS0 (w : World) (e : Ending) (w' : World) : Prop := ∃ a, e = .returned (.slice a 0 0) ∧ ∃ x, w' = plus w x

theorem implKnownWords_no0 (o l m : Int) (a : Option Addr) (cap : Nat) (ps : List Pr) (base last : Int) (w : World) (hr : RdP w a cap ps) (hk : kvb o l m ps base last = false) :
    Calls Try.prog 9 #[.agg #[.int .i64 o, .int .i64 l, .int .i64 m, .slice a ps.length cap, .int .i64 base, .int .i64 last]] w (RetS0 w) := by
  go_enter Try.func9, Try.ntmps9
  go_wp2_with (go_at_call 8; refine (KnownValid_any _ _ _ _ _ _ _ _ _ (by repeat (first | exact hr | apply rd_seq | apply Rd.plus | apply Rd.alloc | apply Rd.drew | apply Rd.drewN | refine rd_patch ?_ _ _ (by intro A hA; first | (cases hA; show _ ≠ _; omega) | (have := hal A hA; omega))))).mono ?_; rintro e w' ⟨rfl, xc, rfl⟩)
  go_ret
  exact ⟨none, rfl, (by repeat (first | exact More.refl _ | apply More.plus | apply More.alloc | apply More.drew | apply More.drewN))⟩

end Go.Proofs.Ytkpmaifdeeecjaa
