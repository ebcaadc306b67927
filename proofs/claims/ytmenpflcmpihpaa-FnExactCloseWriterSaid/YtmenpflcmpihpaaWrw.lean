/- Walks: writers as arguments of laws: their sizes, and copies. -/
import Derived.Test.YtmenpflcmpihpaaRng
import Derived.Test.YtmenpflcmpihpaaGa
namespace Go.Proofs.Ytmenpflcmpihpaa
open Go.RowKit
set_option linter.unusedVariables false
set_option linter.unusedSimpArgs false

theorem szWriter_yes (o l m : Int) (a : Option Addr) (cap n : Nat) (base last : Int) (sp sq : ByteArray) (bg : Bool) (left : Int) (w : World) (h0 : (n : Int) + sp.size + sq.size ≤ left) (h1 : left ≤ 9000000000000000000) :
    Calls Try.prog 44 #[.agg #[.int .i64 o, .int .i64 l, .int .i64 m, .slice a n cap, .int .i64 base, .int .i64 last, .string sp, .string sq, .bool bg], .int .i64 left] w (Ret w (.int .i64 (left - n - sp.size - sq.size))) := by
  have q0 : (n : Int) ≤ left := by omega
  have q : decide (left - (n : Int) < 0) = false := by simp; omega
  have q2 : decide (left - (n : Int) - (sp.size : Int) < 0) = false := by simp; omega
  have q3 : decide (left - (n : Int) - (sp.size : Int) - (sq.size : Int) < 0) = false := by simp; omega
  go_enter Try.func44, Try.ntmps44
  go_wp2_with (go_at_call 15; refine (szKnown_yes _ _ _ _ _ _ _ _ _ _ q0 h1).mono ?_; rintro e w' ⟨rfl, xc, rfl⟩)
  go_ret
  exact Ret.mk (by repeat (first | exact More.refl _ | apply More.plus | apply More.alloc | apply More.drew | apply More.drewN))

theorem szWriter_no (o l m : Int) (a : Option Addr) (cap n : Nat) (base last : Int) (sp sq : ByteArray) (bg : Bool) (left : Int) (w : World) (h0 : left < (n : Int) + sp.size + sq.size) (h9 : left ≤ 9000000000000000000) (h1 : 0 ≤ left) (h2 : n ≤ 9223372036854775807) (h3 : sp.size ≤ 9223372036854775807) (h4 : sq.size ≤ 9223372036854775807) :
    Calls Try.prog 44 #[.agg #[.int .i64 o, .int .i64 l, .int .i64 m, .slice a n cap, .int .i64 base, .int .i64 last, .string sp, .string sq, .bool bg], .int .i64 left] w (Ret w (.int .i64 (-1))) := by
  by_cases hn : left < (n : Int)
  · go_enter Try.func44, Try.ntmps44
    go_wp2_with (go_at_call 15; refine (szKnown_no _ _ _ _ _ _ _ _ _ _ hn h1 h2).mono ?_; rintro e w' ⟨rfl, xc, rfl⟩)
    go_ret
    exact Ret.mk (by repeat (first | exact More.refl _ | apply More.plus | apply More.alloc | apply More.drew | apply More.drewN))
  · have q0 : (n : Int) ≤ left := by omega
    have q : decide (left - (n : Int) < 0) = false := by simp; omega
    by_cases hn2 : left < (n : Int) + sp.size
    · have q2 : decide (left - (n : Int) - (sp.size : Int) < 0) = true := by simp; omega
      go_enter Try.func44, Try.ntmps44
      go_wp2_with (go_at_call 15; refine (szKnown_yes _ _ _ _ _ _ _ _ _ _ q0 h9).mono ?_; rintro e w' ⟨rfl, xc, rfl⟩)
      go_ret
      exact Ret.mk (by repeat (first | exact More.refl _ | apply More.plus | apply More.alloc | apply More.drew | apply More.drewN))
    · have q2 : decide (left - (n : Int) - (sp.size : Int) < 0) = false := by simp; omega
      have q3 : decide (left - (n : Int) - (sp.size : Int) - (sq.size : Int) < 0) = true := by simp; omega
      go_enter Try.func44, Try.ntmps44
      go_wp2_with (go_at_call 15; refine (szKnown_yes _ _ _ _ _ _ _ _ _ _ q0 h9).mono ?_; rintro e w' ⟨rfl, xc, rfl⟩)
      go_ret
      exact Ret.mk (by repeat (first | exact More.refl _ | apply More.plus | apply More.alloc | apply More.drew | apply More.drewN))

/-- what a call leaves that returns a writer with pairs of its own -/
def RetWr (w : World) (o l m : Int) (ps : List Pr) (base last : Int) (sp sq : ByteArray) (bg : Bool) (e : Ending) (w' : World) : Prop :=
  ∃ a cap, e = .returned (.agg #[.int .i64 o, .int .i64 l, .int .i64 m, .slice a ps.length cap, .int .i64 base, .int .i64 last, .string sp, .string sq, .bool bg]) ∧ Own encP 127 w' a cap ps w.heap.size ∧ ∃ x, w' = plus w x

theorem toWriter_any (o l m : Int) (a : Option Addr) (cap : Nat) (ps : List Pr) (base last : Int) (sp sq : ByteArray) (bg : Bool) (w : World) (hr : RdP w a cap ps) (hn : ps.length ≤ 2000000) :
    Calls Try.prog 46 #[.agg #[.int .i64 o, .int .i64 l, .int .i64 m, .slice a ps.length cap, .int .i64 base, .int .i64 last, .string sp, .string sq, .bool bg]] w (RetWr w o l m ps base last sp sq bg) := by
  go_enter Try.func46, Try.ntmps46
  go_wp2_with (go_at_call 17; refine (toKnown_any _ _ _ _ _ ps _ _ _ (by repeat (first | exact hr | apply rd_seq | apply Rd.plus | apply Rd.alloc | apply Rd.drew | apply Rd.drewN | refine rd_patch ?_ _ _ (by intro A hA; first | (cases hA; show _ ≠ _; omega) | (have := hal A hA; omega)))) hn).mono ?_; rintro e w' ⟨a', c', rfl, hown, x, rfl⟩)
  refine bodyPost_ret (v := .agg #[.int .i64 o, .int .i64 l, .int .i64 m, .slice a' ps.length c', .int .i64 base, .int .i64 last, .string sp, .string sq, .bool bg]) (by simp [results, Try.results46, go_sem, ↓IntWalk.iteOmega]) rfl ?_
  exact ⟨a', c', rfl, ((own_swap hown (by simp <;> omega) (by simp <;> omega)).lower (by simp <;> omega)), (by repeat (first | exact More.refl _ | apply More.plus | apply More.alloc | apply More.drew | apply More.drewN))⟩

end Go.Proofs.Ytmenpflcmpihpaa
