/- Blocks and readings through worlds that grew and turned; what a law leaves. -/
import Derived.Test.YtbedikodiboofaaMem
namespace Go.Proofs.Ytbedikodiboofaa
open Go.RowKit
set_option linter.unusedVariables false
set_option linter.unusedSimpArgs false

theorem blk_plus {w : World} {k : Nat} {o : Obj} (h : w.heap[k]? = some o) (x : Ext) : (plus w x).heap[k]? = some o := by
  rw [plus_block w x (Array.getElem?_eq_some_iff.1 h).1]; exact h

theorem blk_seq {w : World} {k : Nat} {o : Obj} {x y : Ext} (h : (plus w x).heap[k]? = some o) : (plus w (x.seq y)).heap[k]? = some o := by
  rw [← plus_plus]; exact blk_plus h y

theorem blk_draw {w : World} {k : Nat} {o : Obj} {x : Ext} {n : Nat} (h : (plus w x).heap[k]? = some o) : (plus w (x.draw n)).heap[k]? = some o := h

theorem blk_alloc {w : World} {k : Nat} {o : Obj} (h : w.heap[k]? = some o) (o' : Obj) : (w.alloc o').heap[k]? = some o := by
  rw [alloc_plus]; exact blk_plus h _

theorem blk_drew {w : World} {k : Nat} {o : Obj} (h : w.heap[k]? = some o) : w.drew.heap[k]? = some o := h

theorem blk_patch {w : World} {k : Nat} {o : Obj} (h : w.heap[k]? = some o) {b : Nat} {o' : Obj} (hb : k ≠ b) : (patch w b o').heap[k]? = some o := by
  rw [patch_other w b o' hb]; exact h

theorem rd_lt {α : Type} {E : Enc α} {w : World} {a : Option Addr} {cap : Nat} {xs : List α} (h : Rd E w a cap xs) : ∀ A, a = some A → 0 < cap → A.block < w.heap.size := by
  intro A hA hpos
  obtain ⟨h1, h2, h3⟩ := h
  rcases h3 with h3 | ⟨b, off, h3, hb, hc⟩
  · omega
  · rw [h3] at hA; cases hA; exact hb

theorem rd_draw {α : Type} {E : Enc α} {w : World} {a : Option Addr} {cap : Nat} {xs : List α} {x : Ext} {n : Nat} (h : Rd E (plus w x) a cap xs) : Rd E (plus w (x.draw n)) a cap xs := h

theorem rd_patch1 {α : Type} {E : Enc α} {w : World} {b' off cap : Nat} {xs : List α} (h : Rd E w (some ⟨b', off, none⟩) cap xs) (b : Nat) (o : Obj) (hb : b' ≠ b) : Rd E (patch w b o) (some ⟨b', off, none⟩) cap xs :=
  rd_patch h b o (by intro A hA; cases hA; exact hb)

theorem rd_patch2 {α : Type} {E : Enc α} {w : World} {a : Option Addr} {N cap : Nat} {xs : List α} (h : Rd E w a cap xs) (b : Nat) (o : Obj) (hal : ∀ A, a = some A → 0 < cap → A.block < N) (hb : N ≤ b) : Rd E (patch w b o) a cap xs := by
  rcases Nat.eq_zero_or_pos cap with h0 | h0
  · obtain ⟨h1, h2, h3⟩ := h
    exact ⟨h1, h2, .inl h0⟩
  · exact rd_patch h b o (by intro A hA e; have := hal A hA h0; omega)

theorem rd_none {α : Type} {E : Enc α} (w : World) : Rd E w none 0 [] := ⟨by simp, by omega, .inl rfl⟩

theorem below_plus {B : Nat} {a w : World} (h : Below B a w) (hB : B ≤ w.heap.size) (x : Ext) : Below B a (plus w x) :=
  h.trans ⟨rfl, rfl, rfl, by simp, fun k hk => plus_block w x (by omega)⟩

theorem below_patch {B : Nat} {a w : World} (h : Below B a w) {b : Nat} (hB : B ≤ b) (o : Obj) : Below B a (patch w b o) :=
  h.trans ⟨rfl, rfl, rfl, by simp, fun k hk => patch_other w b o (by omega)⟩

theorem more_below {w w' : World} (h : More w w') : Below w.heap.size w w' := by
  obtain ⟨x, rfl⟩ := h
  exact below_plus (Below.refl _ _) (Nat.le_refl _) x

end Go.Proofs.Ytbedikodiboofaa
