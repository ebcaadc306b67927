/- Lemmas and walks, part Gs. -/
import Derived.Test.YtmddcbebaijjkaaGreatDoorGk
import Derived.Test.YtmddcbebaijjkaaGreatDoorGf
import Derived.Test.YtmddcbebaijjkaaGreatDoorGb2
import Derived.Test.YtmddcbebaijjkaaGreatDoorGy

/- The walk of impl.greedy: codes of the longest words. -/
namespace Go.Proofs.YtmddcbebaijjkaaGreatDoor
open Go.RowKit
set_option linter.unusedVariables false
set_option linter.unusedSimpArgs false

end Go.Proofs.YtmddcbebaijjkaaGreatDoor

/- The walk of spec.l2Greedy: codes of the longest words. -/
namespace Go.Proofs.YtmddcbebaijjkaaGreatDoor
open Go.RowKit
set_option linter.unusedVariables false
set_option linter.unusedSimpArgs false

/-- what is known in block B, and integers beside it -/
def SB (w : World) (B : Nat) (o l m : Int) (ps : List Pr) (base last : Int) (A : Option Addr) (c : Nat) (xs : List Int) : Prop :=
  ∃ pa pc, w.heap[B]? = some (.cells #[.int .i64 o, .int .i64 l, .int .i64 m, .slice pa ps.length pc, .int .i64 base, .int .i64 last] 26 (0, 0)) ∧ Own encP 81 w pa pc ps (B + 1) ∧ Own encI 3 w A c xs (B + 1) ∧ ∀ X, A = some X → Off pa X.block

section
variable {w w' : World} {B : Nat} {o l m : Int} {ps ps' : List Pr} {base last last' : Int} {A : Option Addr} {c : Nat} {xs : List Int}

theorem SB.plus (h : SB w B o l m ps base last A c xs) (x : Ext) : SB (Go.Proofs.YtmddcbebaijjkaaGreatDoor.plus w x) B o l m ps base last A c xs := by
  obtain ⟨pa, pc, h1, h2, h3, h4⟩ := h
  exact ⟨pa, pc, blk_plus h1 _, h2.plus _, h3.plus _, h4⟩

theorem SB.alloc (h : SB w B o l m ps base last A c xs) (ob : Obj) : SB (w.alloc ob) B o l m ps base last A c xs := by rw [alloc_plus]; exact h.plus _

theorem SB.drew (h : SB w B o l m ps base last A c xs) : SB w.drew B o l m ps base last A c xs := by rw [drew_is_plus]; exact h.plus _

theorem SB.known (h : SB w B o l m ps base last A c xs) : ∃ pa pc, w.heap[B]? = some (.cells #[.int .i64 o, .int .i64 l, .int .i64 m, .slice pa ps.length pc, .int .i64 base, .int .i64 last] 26 (0, 0)) ∧ RdP w pa pc ps := by
  obtain ⟨pa, pc, h1, h2, h3, h4⟩ := h
  exact ⟨pa, pc, h1, h2.rd⟩

/-- the integers have grown -/
theorem SB.grew {A' : Option Addr} {c' : Nat} {ys : List Int} (h : SB w B o l m ps base last A c xs) (hown : Own encI 3 w' A' c' ys (B + 1)) (hg : Grew A w w') (hx : Nxt A A' w.heap.size) : SB w' B o l m ps base last A' c' ys := by
  obtain ⟨pa, pc, h1, h2, h3, h4⟩ := h
  refine ⟨pa, pc, ?_, h2.of_block fun X hX hl => hg.block _ hl fun Y hY e => h4 Y hY X hX e.symm, hown, fun X hX Y hY e => ?_⟩
  · rw [hg.block B (Array.getElem?_eq_some_iff.1 h1).1 fun X hX => by have := (own_lt h3 X hX).1; omega]; exact h1
  · rcases hx X hX with ⟨Z, hZ, he⟩ | he
    · exact h4 Z hZ Y hY (by omega)
    · have := (own_lt h2 Y hY).2; omega

/-- something else is known: its pairs are new -/
theorem SB.put {y : Ext} {pa2 : Option Addr} {pc2 : Nat} (h : SB w B o l m ps base last A c xs) (hown : Own encP 81 (Go.Proofs.YtmddcbebaijjkaaGreatDoor.plus w y) pa2 pc2 ps' w.heap.size) :
    SB (Go.Proofs.YtmddcbebaijjkaaGreatDoor.plus (patch w B (.cells #[.int .i64 o, .int .i64 l, .int .i64 m, .slice pa2 ps'.length pc2, .int .i64 base, .int .i64 last'] 26)) y) B o l m ps' base last' A c xs := by
  obtain ⟨pa, pc, h1, h2, h3, h4⟩ := h
  have hB := (Array.getElem?_eq_some_iff.1 h1).1
  refine ⟨pa2, pc2, blk_plus (patch_at _ _ _ hB) _, (own_swap hown (by simp) (Nat.le_refl _)).lower (by omega), (own_patch h3 fun X hX => by have := (own_lt h3 X hX).1; omega).plus _, fun X hX Y hY e => ?_⟩
  have := (own_lt h3 X hX).2
  have := (own_lt hown Y hY).1
  omega

end

end Go.Proofs.YtmddcbebaijjkaaGreatDoor

/- The walks of GreedyCodes, of the program and of the reference. -/
namespace Go.Proofs.YtmddcbebaijjkaaGreatDoor
open Go.RowKit
set_option linter.unusedVariables false
set_option linter.unusedSimpArgs false

end Go.Proofs.YtmddcbebaijjkaaGreatDoor

/- soInts of equal lists; CodesData. -/
namespace Go.Proofs.YtmddcbebaijjkaaGreatDoor
open Go.RowKit
set_option linter.unusedVariables false
set_option linter.unusedSimpArgs false

end Go.Proofs.YtmddcbebaijjkaaGreatDoor
