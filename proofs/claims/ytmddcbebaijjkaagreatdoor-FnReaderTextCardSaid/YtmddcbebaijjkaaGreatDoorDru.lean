/- Draws: DrawUnpackCodes and what only calls it. -/
import Derived.Test.YtmddcbebaijjkaaGreatDoorGq

import Derived.Test.YtmddcbebaijjkaaGreatDoorGj
namespace Go.Proofs.YtmddcbebaijjkaaGreatDoor
open Go.RowKit
set_option linter.unusedVariables false
set_option linter.unusedSimpArgs false

/-- what is known in block D, a block for the result, beside a source -/
structure KD (w wr : World) (D B n : Nat) (o l m : Int) (b : Nat) (pa : Option Addr) (pc : Nat) (ps : List Pr) (last : Int) : Prop where
  res : wr.heap[w.heap.size]? = some (.cells #[.int .i64 0, .int .i64 0, .int .i64 0, .slice none 0 0, .int .i64 0, .int .i64 0] 26 (0, 0))
  blk : wr.heap[D]? = some (.cells #[.int .i64 o, .int .i64 l, .int .i64 m, .slice pa ps.length pc, .int .i64 b, .int .i64 last] 26 (0, 0))
  rd : RdP wr pa pc ps
  off : ∀ Y, pa = some Y → Y.block ≠ B ∧ w.heap.size < Y.block
  src : Dsrc wr B n
  bel : Below w.heap.size w wr
  low : w.heap.size < B ∧ B < D

section
variable {w wr w' : World} {D B n n' : Nat} {o l m : Int} {b : Nat} {pa : Option Addr} {pc : Nat} {ps : List Pr} {last : Int}

theorem KD.lt (h : KD w wr D B n o l m b pa pc ps last) : w.heap.size < wr.heap.size ∧ D < wr.heap.size := ⟨(Array.getElem?_eq_some_iff.1 h.res).1, (Array.getElem?_eq_some_iff.1 h.blk).1⟩

theorem KD.draw (h : KD w wr D B n o l m b pa pc ps last) (hd : Drn wr B n' w') : KD w w' D B n' o l m b pa pc ps last := by
  have hg := hd.grew
  have hlow := h.low
  have hlt := h.lt
  exact ⟨blk_grew hg h.res (fun X hX e => by cases hX; simp at e; omega), blk_grew hg h.blk (fun X hX e => by cases hX; simp at e; omega), rd_grew h.rd hg (fun X Y hX hY => by cases hX; exact (h.off Y hY).1.symm), h.off, hd.1, h.bel.trans (hg.below (B := w.heap.size) (by omega) (fun X hX => by cases hX; simp; omega)), hlow⟩

theorem KD.more (h : KD w wr D B n o l m b pa pc ps last) (hm : More wr w') : KD w w' D B n o l m b pa pc ps last := by
  obtain ⟨x, rfl⟩ := hm
  have hlt := h.lt
  exact ⟨blk_plus h.res x, blk_plus h.blk x, Rd.plus h.rd x, h.off, h.src.plus x, below_plus h.bel (by omega) x, h.low⟩

end

theorem KD.mono {w wr : World} {D B n n2 : Nat} {o l m : Int} {b : Nat} {pa : Option Addr} {pc : Nat} {ps : List Pr} {last : Int} (h : KD w wr D B n o l m b pa pc ps last) (hn : n ≤ n2) : KD w wr D B n2 o l m b pa pc ps last :=
  ⟨h.res, h.blk, h.rd, h.off, h.src.mono hn, h.bel, h.low⟩

theorem wp_nm2 {P : Program} {c : Code} {Q : Exit → Act → World → Prop} {a : Act} {W : World} (F : World → Prop) (hF : F W) (h : ∀ X, F X → c.wp P Q a X) : c.wp P Q a W := h W hF

end Go.Proofs.YtmddcbebaijjkaaGreatDoor
