/- Draws: l2Draw. -/
import Derived.Test.YtkpmaifdeeecjaaDre
import Derived.Test.YtkpmaifdeeecjaaSwi
namespace Go.Proofs.Ytkpmaifdeeecjaa
open Go.RowKit
set_option linter.unusedVariables false
set_option linter.unusedSimpArgs false

/-- two worlds that differ in two blocks alone -/
def SameN (D1 D2 : Nat) (w1 w2 : World) : Prop := w1.heap.size = w2.heap.size ∧ ∀ k, k ≠ D1 → k ≠ D2 → w1.heap[k]? = w2.heap[k]?

section
variable {D1 D2 : Nat} {w1 w2 : World}

theorem sn_refl (D1 D2 : Nat) (w : World) : SameN D1 D2 w w := ⟨rfl, fun _ _ _ => rfl⟩

theorem sn_alloc (h : SameN D1 D2 w1 w2) (o : Obj) : SameN D1 D2 (w1.alloc o) (w2.alloc o) := ⟨by simp [h.1], fun k h1 h2 => by rw [push_at, push_at, h.1, h.2 k h1 h2]⟩

theorem sn_alloc2 (h : SameN D1 D2 w1 w2) (hD : w1.heap.size = D1 ∨ w1.heap.size = D2) (o o' : Obj) : SameN D1 D2 (w1.alloc o) (w2.alloc o') := ⟨by simp [h.1], fun k h1 h2 => by
  rw [push_at, push_at, h.1, h.2 k h1 h2]
  have := h.1
  by_cases hk : k < w2.heap.size
  · rw [if_pos hk, if_pos hk]
  · rw [if_neg hk, if_neg hk, if_neg (by omega), if_neg (by omega)]⟩

theorem sn_plus (h : SameN D1 D2 w1 w2) (x : Ext) : SameN D1 D2 (plus w1 x) (plus w2 x) := ⟨by simp [h.1], fun k h1 h2 => by
  show (w1.heap ++ x.os)[k]? = (w2.heap ++ x.os)[k]?
  rw [Array.getElem?_append, Array.getElem?_append, h.1, h.2 k h1 h2]⟩

theorem sn_drew (h : SameN D1 D2 w1 w2) : SameN D1 D2 w1.drew w2.drew := h

theorem sn_patch (h : SameN D1 D2 w1 w2) (b : Nat) (o : Obj) : SameN D1 D2 (patch w1 b o) (patch w2 b o) := ⟨by simp [h.1], fun k h1 h2 => by
  rw [patch_heap, patch_heap, h.1, h.2 k h1 h2]⟩

theorem sn_right (h : SameN D1 D2 w1 w2) {b : Nat} (hb : b = D1 ∨ b = D2) (o : Obj) : SameN D1 D2 w1 (patch w2 b o) := ⟨by simp [h.1], fun k h1 h2 => by
  rw [patch_other _ _ _ (by omega)]; exact h.2 k h1 h2⟩

theorem sn_left (h : SameN D1 D2 w1 w2) {b : Nat} (hb : b = D1 ∨ b = D2) (o : Obj) : SameN D1 D2 (patch w1 b o) w2 := ⟨by simp [h.1], fun k h1 h2 => by
  rw [patch_other _ _ _ (by omega)]; exact h.2 k h1 h2⟩

theorem Dsrc.sn {B n : Nat} (h : Dsrc w1 B n) (hs : SameN D1 D2 w1 w2) (hB : B < D1 ∧ B < D2) : Dsrc w2 B n :=
  h.of_block (fun k hk _ => (hs.2 k (by omega) (by omega)).symm) (by rw [hs.1]; exact Nat.le_refl _)

theorem rd_sn {α : Type} {E : Enc α} {a : Option Addr} {cap : Nat} {xs : List α} (h : Rd E w1 a cap xs) (hs : SameN D1 D2 w1 w2) (ha : ∀ X, a = some X → X.block ≠ D1 ∧ X.block ≠ D2) : Rd E w2 a cap xs :=
  h.of_block fun A hA hl => ⟨by rw [← hs.1]; exact hl, (hs.2 _ (ha A hA).1 (ha A hA).2).symm⟩

end

theorem grew_hi {A : Option Addr} {w w' : World} (h : Grew A w w') {D : Nat} (hD : w.heap.size ≤ D) (o : Obj) : Grew A w (patch w' D o) :=
  ⟨h.os, h.tape, h.output, by rw [patch_size]; exact h.size, fun k hk ha => by rw [patch_other _ _ _ (by omega)]; exact h.block k hk ha⟩

theorem rd_grew {α : Type} {E : Enc α} {A : Option Addr} {w w' : World} {a : Option Addr} {cap : Nat} {xs : List α} (h : Rd E w a cap xs) (hg : Grew A w w') (ha : ∀ X Y, A = some X → a = some Y → X.block ≠ Y.block) : Rd E w' a cap xs :=
  h.of_block fun Y hY hl => ⟨by have := hg.size; omega, hg.block _ hl fun X hX e => ha X Y hX hY e⟩

@[simp, go_sem] theorem plus_patch_drew (w : World) (b : Nat) (o : Obj) (x : Ext) : plus (patch w.drew b o) x = plus (patch w b o) x := rfl

/-- a draw of what is known -/
def RetKD (w : World) (B n : Nat) (e : Ending) (w' : World) : Prop := ∃ (o l m : Int) (pa : Option Addr) (pc : Nat) (ps : List Pr) (b : Nat) (last : Int),
  e = .returned (.agg #[.int .i64 o, .int .i64 l, .int .i64 m, .slice pa ps.length pc, .int .i64 b, .int .i64 last]) ∧ KV o l m ps (b : Int) last ∧ ps.length ≤ 14 ∧ RdP w' pa pc ps ∧ (∀ X, pa = some X → w.heap.size ≤ X.block) ∧ Drn w B n w'

theorem aft_len_le {l m : Int} {ps : List Pr} {last c : Int} : (aftP l m ps last c).length ≤ ps.length + 1 := by
  unfold aftP
  split <;> simp

theorem KV.base {o l m : Int} {ps : List Pr} {last : Int} (h : KV o l m ps 0 last) {b : Nat} (hb : b ≤ ps.length) : KV o l m ps (b : Int) last :=
  ⟨h.s, h.len, h.ok, by omega, by omega, by
    rcases h.last with ⟨h1, h2⟩ | h1
    · exact .inl ⟨h1, by omega⟩
    · exact .inr h1⟩

end Go.Proofs.Ytkpmaifdeeecjaa
