/- The walk of spec.l2Greedy: codes of the longest words. -/
import Derived.Test.YtibfkfinghcpaaaIgr
import Derived.Test.YtibfkfinghcpaaaGf
namespace Go.Proofs.Ytibfkfinghcpaaa
open Go.RowKit
set_option linter.unusedVariables false
set_option linter.unusedSimpArgs false

/-- what is known in block B, and integers beside it -/
def SB (w : World) (B : Nat) (o l m : Int) (ps : List Pr) (base last : Int) (A : Option Addr) (c : Nat) (xs : List Int) : Prop :=
  ∃ pa pc, w.heap[B]? = some (.cells #[.int .i64 o, .int .i64 l, .int .i64 m, .slice pa ps.length pc, .int .i64 base, .int .i64 last] 27 (0, 0)) ∧ Own encP 137 w pa pc ps (B + 1) ∧ Own encI 3 w A c xs (B + 1) ∧ ∀ X, A = some X → Off pa X.block

section
variable {w w' : World} {B : Nat} {o l m : Int} {ps ps' : List Pr} {base last last' : Int} {A : Option Addr} {c : Nat} {xs : List Int}

theorem SB.plus (h : SB w B o l m ps base last A c xs) (x : Ext) : SB (Go.Proofs.Ytibfkfinghcpaaa.plus w x) B o l m ps base last A c xs := by
  obtain ⟨pa, pc, h1, h2, h3, h4⟩ := h
  exact ⟨pa, pc, blk_plus h1 _, h2.plus _, h3.plus _, h4⟩

theorem SB.alloc (h : SB w B o l m ps base last A c xs) (ob : Obj) : SB (w.alloc ob) B o l m ps base last A c xs := by rw [alloc_plus]; exact h.plus _

theorem SB.drew (h : SB w B o l m ps base last A c xs) : SB w.drew B o l m ps base last A c xs := by rw [drew_is_plus]; exact h.plus _

theorem sb_seq {x y : Ext} (h : SB (Go.Proofs.Ytibfkfinghcpaaa.plus w x) B o l m ps base last A c xs) : SB (Go.Proofs.Ytibfkfinghcpaaa.plus w (x.seq y)) B o l m ps base last A c xs := by rw [← plus_plus]; exact h.plus y

theorem SB.known (h : SB w B o l m ps base last A c xs) : ∃ pa pc, w.heap[B]? = some (.cells #[.int .i64 o, .int .i64 l, .int .i64 m, .slice pa ps.length pc, .int .i64 base, .int .i64 last] 27 (0, 0)) ∧ RdP w pa pc ps := by
  obtain ⟨pa, pc, h1, h2, h3, h4⟩ := h
  exact ⟨pa, pc, h1, h2.rd⟩

theorem SB.ints (h : SB w B o l m ps base last A c xs) : Own encI 3 w A c xs (B + 1) := by
  obtain ⟨pa, pc, h1, h2, h3, h4⟩ := h
  exact h3

/-- the integers have grown -/
theorem SB.grew {A' : Option Addr} {c' : Nat} {ys : List Int} (h : SB w B o l m ps base last A c xs) (hown : Own encI 3 w' A' c' ys (B + 1)) (hg : Grew A w w') (hx : Nxt A A' w.heap.size) : SB w' B o l m ps base last A' c' ys := by
  obtain ⟨pa, pc, h1, h2, h3, h4⟩ := h
  refine ⟨pa, pc, ?_, h2.of_block fun X hX hl => hg.block _ hl fun Y hY e => h4 Y hY X hX e.symm, hown, fun X hX Y hY e => ?_⟩
  · rw [hg.block B (Array.getElem?_eq_some_iff.1 h1).1 fun X hX => by have := (own_lt h3 X hX).1; omega]; exact h1
  · rcases hx X hX with ⟨Z, hZ, he⟩ | he
    · exact h4 Z hZ Y hY (by omega)
    · have := (own_lt h2 Y hY).2; omega

/-- something else is known: its pairs are new -/
theorem SB.put {y : Ext} {pa2 : Option Addr} {pc2 : Nat} (h : SB w B o l m ps base last A c xs) (hown : Own encP 137 (Go.Proofs.Ytibfkfinghcpaaa.plus w y) pa2 pc2 ps' w.heap.size) :
    SB (Go.Proofs.Ytibfkfinghcpaaa.plus (patch w B (.cells #[.int .i64 o, .int .i64 l, .int .i64 m, .slice pa2 ps'.length pc2, .int .i64 base, .int .i64 last'] 27)) y) B o l m ps' base last' A c xs := by
  obtain ⟨pa, pc, h1, h2, h3, h4⟩ := h
  have hB := (Array.getElem?_eq_some_iff.1 h1).1
  refine ⟨pa2, pc2, blk_plus (patch_at _ _ _ hB) _, (own_swap hown (by simp) (Nat.le_refl _)).lower (by omega), (own_patch h3 fun X hX => by have := (own_lt h3 X hX).1; omega).plus _, fun X hX Y hY e => ?_⟩
  have := (own_lt h3 X hX).2
  have := (own_lt hown Y hY).1
  omega

end

theorem row1 (x : Int) : Row encI #[.int .i64 x] [x] :=
  row_of encI _ _ fun i y hx j hj => by
    obtain rfl : j = 0 := by have : j < 1 := hj; omega
    match i, hx with
    | 0, hx => simp at hx; subst hx; rfl

/-- the state of the loop -/
def SSt (o l m : Int) (b : Nat) (G : List Int) (w0 : World) (A : Option Addr) (n c : Nat) (x : ByteArray) (wr : World) : Prop :=
  ∃ (ps : List Pr) (last : Int) (xs : List Int) (f : Nat), n = xs.length ∧ SB wr w0.heap.size o l m ps (b : Int) last A c xs ∧ KV o l m ps (b : Int) last ∧ dfB o l m x = true ∧
    x.size ≤ f ∧ xs.length + 2 * x.size ≤ 5000 ∧ xs ++ gre l m b f ps last x.data.toList = G ∧ (x.size ≠ 0 → full l m ps.length b = false) ∧ Below w0.heap.size w0 wr

end Go.Proofs.Ytibfkfinghcpaaa
