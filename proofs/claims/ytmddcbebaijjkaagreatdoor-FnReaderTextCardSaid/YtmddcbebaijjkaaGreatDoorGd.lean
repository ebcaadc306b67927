/- Lemmas and walks, part Gd. -/
import Derived.Test.YtmddcbebaijjkaaGreatDoorGc

/- The walk of tree.child: the child of a node with a byte. -/
namespace Go.Proofs.YtmddcbebaijjkaaGreatDoor
open Go.RowKit
set_option linter.unusedVariables false
set_option linter.unusedSimpArgs false

end Go.Proofs.YtmddcbebaijjkaaGreatDoor

/- The walk of tree.longest: the longest word with which data begins, and its least code. -/
namespace Go.Proofs.YtmddcbebaijjkaaGreatDoor
open Go.RowKit
set_option linter.unusedVariables false
set_option linter.unusedSimpArgs false

theorem bytes_len (s : ByteArray) : s.data.toList.length = s.size := by simp

theorem bytes_get {s : ByteArray} {k : Nat} (h : k < s.size) : s.data.toList[k]'(by simpa using h) = s[k] := by simp; rfl



end Go.Proofs.YtmddcbebaijjkaaGreatDoor

/- The walk of tree.learn: a pair more. -/
namespace Go.Proofs.YtmddcbebaijjkaaGreatDoor
open Go.RowKit
set_option linter.unusedVariables false
set_option linter.unusedSimpArgs false

theorem infoInt : (Tryz.prog.info? 3).map (fun i => (i.zero, i.size, i.bytes)) = some (some (.int .i64 0), 1, 8) := by kernel_rfl

theorem own_grew {α : Type} {E : Enc α} {e : TypeId} {w w' : World} {a A : Option Addr} {cap : Nat} {xs : List α} {lo : Nat} (h : Own E e w a cap xs lo) (hg : Grew A w w') (ho : ∀ X, a = some X → Off A X.block) : Own E e w' a cap xs lo :=
  h.of_block fun X hX hl => hg.block _ hl fun Y hY => ho X hX Y hY

theorem own_patch {α : Type} {E : Enc α} {e : TypeId} {w : World} {a : Option Addr} {cap : Nat} {xs : List α} {lo b : Nat} {ob : Obj} (h : Own E e w a cap xs lo) (ho : Off a b) : Own E e (patch w b ob) a cap xs lo :=
  h.of_block fun X hX hl => patch_other w b ob (ho X hX)

theorem blk_grew {A : Option Addr} {w w' : World} {k : Nat} {ob : Obj} (hg : Grew A w w') (h : w.heap[k]? = some ob) (ho : Off A k) : w'.heap[k]? = some ob := by
  rw [hg.block k (Array.getElem?_eq_some_iff.1 h).1 (fun X hX => ho X hX)]; exact h

/-- the world has turned in the tree's blocks alone -/
structure Turned (t : Nat) (pa na qa : Option Addr) (w w' : World) : Prop where
  os : w'.os = w.os
  tape : w'.tape = w.tape
  output : w'.output = w.output
  size : w.heap.size ≤ w'.heap.size
  block : ∀ k, k < w.heap.size → k ≠ t → Off pa k → Off na k → Off qa k → w'.heap[k]? = w.heap[k]?

/-- the tree's blocks: as before, or new -/
def Within (a a' : Option Addr) (n : Nat) : Prop := ∀ X, a' = some X → (∃ Y, a = some Y ∧ Y.block = X.block) ∨ n ≤ X.block

theorem Nxt.within {A A' : Option Addr} {n m : Nat} (h : Nxt A A' n) (hm : m ≤ n) : Within A A' m := fun X hX => (h X hX).imp id fun e => by omega

theorem within_refl (a : Option Addr) (n : Nat) : Within a a n := fun X hX => .inl ⟨X, hX, rfl⟩

theorem grew_patch (w : World) (b : Nat) (o : Obj) : Grew (some ⟨b, 0, none⟩) w (patch w b o) :=
  ⟨rfl, rfl, rfl, by simp, fun k hk ha => patch_other w b o (fun e => ha _ rfl e.symm)⟩

end Go.Proofs.YtmddcbebaijjkaaGreatDoor

/- The walk of newTree: the tree of what is known. -/
namespace Go.Proofs.YtmddcbebaijjkaaGreatDoor
open Go.RowKit
set_option linter.unusedVariables false
set_option linter.unusedSimpArgs false

theorem push_new (w : World) (o : Obj) (n : Nat) (h : n = w.heap.size) : (w.alloc o).heap[n]? = some o := by
  subst h
  rw [push_at, if_neg (Nat.lt_irrefl _), if_pos rfl]

/-- a lies from block B on -/
def Lo (a : Option Addr) (B : Nat) : Prop := ∀ A, a = some A → B ≤ A.block

theorem Lo.within {a a' : Option Addr} {B n : Nat} (h : Lo a B) (hw : Within a a' n) (hn : B ≤ n) : Lo a' B := fun X hX => by
  rcases hw X hX with ⟨Y, hY, he⟩ | he
  · have := h Y hY; omega
  · omega

theorem own_lo {α : Type} {E : Enc α} {e : TypeId} {w : World} {a : Option Addr} {cap : Nat} {xs : List α} {lo : Nat} (h : Own E e w a cap xs lo) : Lo a lo := fun A hA => (own_lt h A hA).1

theorem Turned.below {t : Nat} {pa na qa : Option Addr} {w w' : World} (h : Turned t pa na qa w w') {B : Nat} (hB : B ≤ w.heap.size) (ht : B ≤ t) (hp : Lo pa B) (hn : Lo na B) (hq : Lo qa B) : Below B w w' :=
  ⟨h.os, h.tape, h.output, h.size, fun k hk => h.block k (by omega) (by omega) (fun A hA => by have := hp A hA; omega) (fun A hA => by have := hn A hA; omega) (fun A hA => by have := hq A hA; omega)⟩

theorem blk_below {B : Nat} {w w' : World} {k : Nat} {ob : Obj} (hb : Below B w w') (h : w.heap[k]? = some ob) (hk : k < B) : w'.heap[k]? = some ob := by
  rw [hb.block k hk]; exact h

end Go.Proofs.YtmddcbebaijjkaaGreatDoor

/- The walks of tree.codeOf, CodeOfWord, LongestWord and what they need of data. -/
namespace Go.Proofs.YtmddcbebaijjkaaGreatDoor
open Go.RowKit
set_option linter.unusedVariables false
set_option linter.unusedSimpArgs false

theorem IsFnd.pos {l m : Int} {ps : List Pr} {last : Int} {d : List UInt8} {n : Nat} {c : Int} (h : IsLon l m ps last d n) (hc : IsFnd l m ps last (d.take n) c) (h0 : 2 ≤ two l) : 0 ≤ c := by
  rcases hc with ⟨_, h2⟩ | ⟨h2, _⟩
  · obtain ⟨c', h3, h4⟩ := h.2.2.1
    exact absurd h4 (h2 c' h3)
  · exact h2.nonneg h0

end Go.Proofs.YtmddcbebaijjkaaGreatDoor
