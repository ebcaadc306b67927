/- Codes that can follow, and their words, by the program: the walks of canFollow, l2Follows, slices.Reverse, wordText. -/
import Derived.Test.YtkpmaifdeeecjaaGf
import Derived.Test.YtkpmaifdeeecjaaBtk
import Derived.Shelf.RegionOpenPlain
namespace Go.Proofs.Ytkpmaifdeeecjaa
open Go.RowKit
set_option linter.unusedVariables false
set_option linter.unusedSimpArgs false

/-- a code can follow, the clear code and the end code among them -/
def canB (l m n last c : Int) : Bool := decide (0 ≤ c ∧ c ≤ gt l m n last)

theorem canB_iff {l m n last c : Int} : canB l m n last c = true ↔ (0 ≤ c ∧ c ≤ gt l m n last) := by simp [canB]

/-- a code that has a word can follow -/
def folB (l m n last c : Int) : Bool := hw l n c || (grB l m n last && decide (c = nw l n))

theorem folB_iff {l m : Int} {n : Nat} {last c : Int} : folB l m n last c = true ↔ Okc l m n last c := by
  unfold folB Okc
  simp

/-- bytes reversed in place -/
def RetRv (w : World) (b : Nat) (xs : List UInt8) (n : Nat) (e : Ending) (w' : World) : Prop :=
  e = .returned (.tuple #[]) ∧ ∃ (cu : Array Value) (x : Ext), cu.size = n ∧ Row encB cu xs.reverse ∧ w' = plus (patch w b (.cells cu 5)) x

theorem rv_world {w : World} {b i j : Nat} {cu : Array Value} {x : Ext} {u v : Value} (hb : b < w.heap.size) :
    (((plus (patch w b (.cells cu 5)) x).setCell ⟨b, i, none⟩ u).setCell ⟨b, j, none⟩ v).drew = plus (patch w b (.cells ((cu.setIfInBounds i u).setIfInBounds j v) 5)) (x.draw 1) := by
  rw [plus_setCell_lt _ _ _ _ (by simpa using hb), setCell_patch (patch_at w b _ hb), patch_patch, plus_setCell_lt _ _ _ _ (by simpa using hb), setCell_patch (patch_at w b _ hb), patch_patch, plus_drew]

end Go.Proofs.Ytkpmaifdeeecjaa
