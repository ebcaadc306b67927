/- What is known after a code: the walks of wordText at every code, advance, l2Step. -/
import Derived.Test.YtkpmaifdeeecjaaWtx
import Derived.Test.YtkpmaifdeeecjaaGf
namespace Go.Proofs.Ytkpmaifdeeecjaa
open Go.RowKit
set_option linter.unusedVariables false
set_option linter.unusedSimpArgs false

/-- what a step leaves that grows the own pairs -/
def RetAd (w : World) (o l m base last : Int) (A : Option Addr) (qs : List Pr) (lo : Nat) (e : Ending) (w' : World) : Prop :=
  ∃ A' c', e = .returned (.agg #[.int .i64 o, .int .i64 l, .int .i64 m, .slice A' qs.length c', .int .i64 base, .int .i64 last]) ∧ Own encP 48 w' A' c' qs lo ∧ Grew A w w' ∧ Within A A' w.heap.size

theorem more_grew {A : Option Addr} {w w' : World} (h : More w w') : Grew A w w' := by
  obtain ⟨x, rfl⟩ := h
  exact grew_plus (grew_refl _ _) x

theorem grew_turn {A : Option Addr} {w w' : World} {b : Nat} {ob : Obj} (h : Grew A w w') (hb : w.heap.size ≤ b) : Grew A w (patch w' b ob) :=
  ⟨h.os, h.tape, h.output, by have := h.size; simp; omega, fun k hk ha => by rw [patch_other _ _ _ (by omega)]; exact h.block k hk ha⟩

end Go.Proofs.Ytkpmaifdeeecjaa
