/- Worlds that have turned in a range of blocks alone; marks of what a call returned. -/
import Derived.Test.YtmddcbebaijjkaaGreatDoorGb

import Derived.Test.YtmddcbebaijjkaaGreatDoorGa
namespace Go.Proofs.YtmddcbebaijjkaaGreatDoor
open Go.RowKit
set_option linter.unusedVariables false
set_option linter.unusedSimpArgs false

@[simp, go_sem] theorem seq_sz (x y : Ext) : (x.seq y).n = x.n + y.n := by simp [Ext.seq, Ext.n]

@[simp, go_sem] theorem drw_sz (x : Ext) (k : Nat) : (x.draw k).n = x.n := rfl

/-- of the old blocks only those from lo up to hi have turned -/
structure Rng (lo hi : Nat) (w w' : World) : Prop where
  os : w'.os = w.os
  tape : w'.tape = w.tape
  output : w'.output = w.output
  size : w.heap.size ≤ w'.heap.size
  block : ∀ k, k < w.heap.size → (k < lo ∨ hi ≤ k) → w'.heap[k]? = w.heap[k]?

theorem Rng.below {lo hi B : Nat} {w w' : World} (h : Rng lo hi w w') (hB : B ≤ lo) (hB2 : B ≤ w.heap.size) : Below B w w' :=
  ⟨h.os, h.tape, h.output, h.size, fun k hk => h.block k (by omega) (.inl (by omega))⟩

theorem own_seq {α : Type} {E : Enc α} {e : TypeId} {w : World} {a : Option Addr} {cap : Nat} {xs : List α} {lo : Nat} {x y : Ext} (h : Own E e (plus w x) a cap xs lo) : Own E e (plus w (x.seq y)) a cap xs lo := by
  rw [← plus_plus]; exact h.plus y

theorem own_draw {α : Type} {E : Enc α} {e : TypeId} {w : World} {a : Option Addr} {cap : Nat} {xs : List α} {lo : Nat} {x : Ext} {n : Nat} (h : Own E e (plus w x) a cap xs lo) : Own E e (plus w (x.draw n)) a cap xs lo := h

theorem Own.drewN {α : Type} {E : Enc α} {e : TypeId} {w : World} {a : Option Addr} {cap : Nat} {xs : List α} {lo : Nat} {n : Nat} (h : Own E e w a cap xs lo) : Own E e (w.drewN n) a cap xs lo := by
  rw [drewN_is_plus]; exact h.plus _

/-- what a call leaves that returns a value with pairs of its own -/
def RetO (w : World) (v : Option Addr → Nat → Value) (ps : List Pr) (e : Ending) (w' : World) : Prop :=
  ∃ a c, e = .returned (v a c) ∧ Own encP 81 w' a c ps w.heap.size ∧ ∃ x, w' = plus w x

end Go.Proofs.YtmddcbebaijjkaaGreatDoor
