/- Lemmas and walks, part Gd. -/
import Derived.Test.YtkpmaifdeeecjaaGc

/- The walk of tree.child: the child of a node with a byte. -/
namespace Go.Proofs.Ytkpmaifdeeecjaa
open Go.RowKit
set_option linter.unusedVariables false
set_option linter.unusedSimpArgs false

theorem kid_ix {l : Int} {ps : List Pr} {D : List (List UInt8 × Int)} {n : Nat} {N : List Nd} (hD : DI l ps D n) (ht : TN l D N) {p : Nat} {b r : Int} (h : Kid N p b r) (hb0 : 0 ≤ b) (hb1 : b ≤ 255)
    {wp : List UInt8} {cp : Int} (hp : D[p]? = some (wp, cp)) : ix D (wp ++ [UInt8.ofNat b.toNat]) = r := by
  rcases h.word hD ht (by omega) hb0 hb1 (by simpa using hp) with ⟨h1, h2⟩ | ⟨h1, c, h2⟩
  · rw [ix_no h2, h1]
  · rw [hD.ix h2]; omega

end Go.Proofs.Ytkpmaifdeeecjaa

/- The walk of tree.longest: the longest word with which data begins, and its least code. -/
namespace Go.Proofs.Ytkpmaifdeeecjaa
open Go.RowKit
set_option linter.unusedVariables false
set_option linter.unusedSimpArgs false

theorem bytes_len (s : ByteArray) : s.data.toList.length = s.size := by simp

theorem bytes_get {s : ByteArray} {k : Nat} (h : k < s.size) : s.data.toList[k]'(by simpa using h) = s[k] := by simp; rfl




/-- what longest leaves -/
def RetLon (l m : Int) (ps : List Pr) (last : Int) (d : List UInt8) (w : World) (e : Ending) (w' : World) : Prop :=
  ∃ (c : Int) (n : Nat), e = .returned (.tuple #[.int .i64 c, .int .i64 n]) ∧ IsLon l m ps last d n ∧ IsFnd l m ps last (d.take n) c ∧ ∃ x, w' = plus w x

end Go.Proofs.Ytkpmaifdeeecjaa

/- The walk of tree.learn: a pair more. -/
namespace Go.Proofs.Ytkpmaifdeeecjaa
open Go.RowKit
set_option linter.unusedVariables false
set_option linter.unusedSimpArgs false

theorem infoInt : (Try.prog.info? 3).map (fun i => (i.zero, i.size, i.bytes)) = some (some (.int .i64 0), 1, 8) := by kernel_rfl

theorem own_grew {α : Type} {E : Enc α} {e : TypeId} {w w' : World} {a A : Option Addr} {cap : Nat} {xs : List α} {lo : Nat} (h : Own E e w a cap xs lo) (hg : Grew A w w') (ho : ∀ X, a = some X → Off A X.block) : Own E e w' a cap xs lo :=
  h.of_block fun X hX hl => hg.block _ hl fun Y hY => ho X hX Y hY

theorem own_patch {α : Type} {E : Enc α} {e : TypeId} {w : World} {a : Option Addr} {cap : Nat} {xs : List α} {lo b : Nat} {ob : Obj} (h : Own E e w a cap xs lo) (ho : Off a b) : Own E e (patch w b ob) a cap xs lo :=
  h.of_block fun X hX hl => patch_other w b ob (ho X hX)

theorem blk_grew {A : Option Addr} {w w' : World} {k : Nat} {ob : Obj} (hg : Grew A w w') (h : w.heap[k]? = some ob) (ho : Off A k) : w'.heap[k]? = some ob := by
  rw [hg.block k (Array.getElem?_eq_some_iff.1 h).1 (fun X hX => ho X hX)]; exact h

theorem off_flip {a : Option Addr} {k : Nat} {A : Option Addr} (h : ∀ X, a = some X → Off A X.block) {Y : Addr} (hY : A = some Y) : Off a Y.block := fun X hX e => h X hX Y hY e.symm

/-- the world has turned in the tree's blocks alone -/
structure Turned (t : Nat) (pa na qa : Option Addr) (w w' : World) : Prop where
  os : w'.os = w.os
  tape : w'.tape = w.tape
  output : w'.output = w.output
  size : w.heap.size ≤ w'.heap.size
  block : ∀ k, k < w.heap.size → k ≠ t → Off pa k → Off na k → Off qa k → w'.heap[k]? = w.heap[k]?

/-- the tree's blocks: as before, or new -/
def Within (a a' : Option Addr) (n : Nat) : Prop := ∀ X, a' = some X → (∃ Y, a = some Y ∧ Y.block = X.block) ∨ n ≤ X.block

theorem Nxt.within {A A' : Option Addr} {n m : Nat} (h : Nxt A A' n) (hm : m ≤ n) : Within A A' m := fun X hX => (h X hX).imp id fun e => by omega

theorem within_refl (a : Option Addr) (n : Nat) : Within a a n := fun X hX => .inl ⟨X, hX, rfl⟩

theorem nxt_off {A A' B : Option Addr} {n : Nat} (h : Nxt A A' n) (h1 : ∀ X, A = some X → Off B X.block) (h2 : ∀ Y, B = some Y → Y.block ≠ n) : ∀ X, A' = some X → Off B X.block := fun X hX Y hY e => by
  rcases h X hX with ⟨Z, hZ, he⟩ | he
  · exact h1 Z hZ Y hY (by omega)
  · exact h2 Y hY (by omega)

theorem own_alloc_drew {α : Type} {E : Enc α} {e : TypeId} {w : World} {a : Option Addr} {cap : Nat} {xs : List α} {lo : Nat} (h : Own E e w a cap xs lo) (o : Obj) : Own E e (w.drew.alloc o) a cap xs lo := h.drew.alloc o

theorem off_comm {A B : Option Addr} (h : ∀ X, A = some X → Off B X.block) : ∀ Y, B = some Y → Off A Y.block := fun Y hY X hX e => h X hX Y hY e.symm

theorem own_off {α : Type} {E : Enc α} {e : TypeId} {w : World} {a : Option Addr} {cap : Nat} {xs : List α} {lo k : Nat} (h : Own E e w a cap xs lo) (hk : w.heap.size ≤ k) : Off a k := fun A hA he => by
  have := (own_lt h A hA).2; omega

/-- what a learning leaves of the world, in one step more -/
theorem turned_trans {t : Nat} {pa na qa : Option Addr} {w w' w'' : World} {pa' na' qa' : Option Addr} (h : Turned t pa na qa w w') (k : Turned t pa' na' qa' w' w'')
    (hp : Within pa pa' w.heap.size) (hn : Within na na' w.heap.size) (hq : Within qa qa' w.heap.size) : Turned t pa na qa w w'' :=
  ⟨k.os.trans h.os, k.tape.trans h.tape, k.output.trans h.output, by have := h.size; have := k.size; omega, fun j hj h1 h2 h3 h4 => by
    have out : ∀ {a a' : Option Addr}, Within a a' w.heap.size → Off a j → Off a' j := fun {a a'} hw ho X hX e => by
      rcases hw X hX with ⟨Y, hY, he⟩ | he
      · exact ho Y hY (by omega)
      · omega
    rw [k.block j (by have := h.size; omega) h1 (out hp h2) (out hn h3) (out hq h4)]
    exact h.block j hj h1 h2 h3 h4⟩

theorem turned_plus {t : Nat} {pa na qa : Option Addr} {w w' : World} (h : Turned t pa na qa w w') (x : Ext) : Turned t pa na qa w (plus w' x) :=
  ⟨h.os, h.tape, h.output, by have := h.size; simp; omega, fun j hj h1 h2 h3 h4 => by rw [plus_block _ _ (by have := h.size; omega)]; exact h.block j hj h1 h2 h3 h4⟩

theorem turned_refl (t : Nat) (pa na qa : Option Addr) (w : World) : Turned t pa na qa w w := ⟨rfl, rfl, rfl, Nat.le_refl _, fun _ _ _ _ _ _ => rfl⟩

theorem turned_alloc {t : Nat} {pa na qa : Option Addr} {w w' : World} (h : Turned t pa na qa w w') (o : Obj) : Turned t pa na qa w (w'.alloc o) := by rw [alloc_plus]; exact turned_plus h _

theorem turned_drew {t : Nat} {pa na qa : Option Addr} {w w' : World} (h : Turned t pa na qa w w') : Turned t pa na qa w w'.drew := by rw [drew_is_plus]; exact turned_plus h _

theorem turned_patch {t : Nat} {pa na qa : Option Addr} {w w' : World} (h : Turned t pa na qa w w') (o : Obj) : Turned t pa na qa w (patch w' t o) :=
  ⟨h.os, h.tape, h.output, by have := h.size; simp; omega, fun j hj h1 h2 h3 h4 => by rw [patch_other _ _ _ h1]; exact h.block j hj h1 h2 h3 h4⟩

theorem turned_grew {t : Nat} {pa na qa A : Option Addr} {w w' w'' : World} (h : Turned t pa na qa w w') (k : Grew A w' w'') (hA : ∀ X, A = some X → (∃ Y, pa = some Y ∧ Y.block = X.block) ∨ (∃ Y, na = some Y ∧ Y.block = X.block) ∨ (∃ Y, qa = some Y ∧ Y.block = X.block) ∨ w.heap.size ≤ X.block) : Turned t pa na qa w w'' :=
  ⟨k.os.trans h.os, k.tape.trans h.tape, k.output.trans h.output, by have := h.size; have := k.size; omega, fun j hj h1 h2 h3 h4 => by
    rw [k.block j (by have := h.size; omega) fun X hX e => by
      rcases hA X hX with ⟨Y, hY, he⟩ | ⟨Y, hY, he⟩ | ⟨Y, hY, he⟩ | he
      · exact h2 Y hY (by omega)
      · exact h3 Y hY (by omega)
      · exact h4 Y hY (by omega)
      · omega]
    exact h.block j hj h1 h2 h3 h4⟩

theorem grew_patch (w : World) (b : Nat) (o : Obj) : Grew (some ⟨b, 0, none⟩) w (patch w b o) :=
  ⟨rfl, rfl, rfl, by simp, fun k hk ha => patch_other w b o (fun e => ha _ rfl e.symm)⟩

theorem row_set {α : Type} {E : Enc α} {cur : Array Value} {xs : List α} (h : Row E cur xs) {i j : Nat} {x y : α} {v : Value} (hx : xs[i]? = some x) (hj : j < E.sz) (hy : E.enc y = (E.enc x).set j v) : Row E (cur.setIfInBounds (i * E.sz + j) v) (xs.set i y) := by
  have hsz : i * E.sz + j < cur.size := by
    have h1 : (E.enc x)[j]? = some ((E.enc x)[j]'(by rw [E.len]; exact hj)) := List.getElem?_eq_getElem _
    have h2 := h (i * E.sz + j) _ (by rw [flat_get E xs i x hx j hj]; exact h1)
    exact (Array.getElem?_eq_some_iff.1 h2).1
  refine row_of E _ _ fun k z hz j' hj' => ?_
  rw [Array.getElem?_setIfInBounds]
  rw [List.getElem?_set] at hz
  have hdiv : ∀ a b : Nat, b < E.sz → (a * E.sz + b) / E.sz = a := fun a b hb => by
    rw [Nat.mul_comm, Nat.mul_add_div (by omega), Nat.div_eq_of_lt hb, Nat.add_zero]
  by_cases hik : i = k
  · subst hik
    rw [if_pos rfl, if_pos (List.getElem?_eq_some_iff.1 hx).1] at hz
    cases hz
    by_cases hjj : j = j'
    · subst hjj
      rw [if_pos rfl, if_pos hsz, hy, List.getElem?_set, if_pos rfl, if_pos (by rw [E.len]; exact hj)]
    · rw [if_neg (by omega), hy, List.getElem?_set, if_neg hjj]
      have h1 : (E.enc x)[j']? = some ((E.enc x)[j']'(by rw [E.len]; exact hj')) := List.getElem?_eq_getElem _
      rw [h1]
      exact h _ _ (by rw [flat_get E xs i x hx j' hj']; exact h1)
  · rw [if_neg hik] at hz
    have hne : i * E.sz + j ≠ k * E.sz + j' := fun e => hik (by have := congrArg (· / E.sz) e; simp only [hdiv i j hj, hdiv k j' hj'] at this; exact this)
    rw [if_neg hne]
    have h1 : (E.enc z)[j']? = some ((E.enc z)[j']'(by rw [E.len]; exact hj')) := List.getElem?_eq_getElem _
    rw [h1]
    exact h _ _ (by rw [flat_get E xs k z hz j' hj']; exact h1)

end Go.Proofs.Ytkpmaifdeeecjaa

/- The walk of newTree: the tree of what is known. -/
namespace Go.Proofs.Ytkpmaifdeeecjaa
open Go.RowKit
set_option linter.unusedVariables false
set_option linter.unusedSimpArgs false

def rootsN (n : Nat) : List Nd := (List.range n).map fun (b : Nat) => Nd.mk (-1) (-1) (-1) (b : Int) (b : Int) (b : Int)

theorem rootsN_len (n : Nat) : (rootsN n).length = n := by simp [rootsN]

theorem rootsN_succ (n : Nat) : rootsN (n + 1) = rootsN n ++ [Nd.mk (-1) (-1) (-1) n n n] := by simp [rootsN, List.range_succ]

theorem rootsN_get {n i : Nat} {d : Nd} (h : (rootsN n)[i]? = some d) : i < n ∧ d = Nd.mk (-1) (-1) (-1) i i i := by
  have hl := (List.getElem?_eq_some_iff.1 h).1
  rw [rootsN_len] at hl
  refine ⟨hl, ?_⟩
  simp [rootsN, hl] at h
  exact h.symm

theorem TI_roots {l : Int} (h0 : 2 ≤ two l) (h1 : two l ≤ 256) : TI l [] (rootsN (two l).toNat) [] := by
  refine ⟨⟨?_, fun i d hd => ?_⟩, rfl, fun j i h => by simp at h⟩
  · show _ = (lits l).length
    rw [rootsN_len, lits_len]
  · obtain ⟨hi, rfl⟩ := rootsN_get hd
    refine ⟨[UInt8.ofNat i], i, lits_get (by omega), rfl, ?_, ?_, ⟨by show (0 : Int) ≤ (i : Int); omega, by show (i : Int) ≤ 255; omega⟩, .inl ⟨by omega, rfl, rfl⟩⟩
    · unfold Go.Proofs.Ytkpmaifdeeecjaa.hd
      simp only [List.head?_cons, Option.getD_some, UInt8.toNat_ofNat']
      have : i % 256 = i := Nat.mod_eq_of_lt (by omega)
      exact congrArg Nat.cast this.symm
    · show (-1 : Int) = _
      rcases lastKid_spec (par (rootsN (two l).toNat)) (i : Int) (rootsN (two l).toNat).length with ⟨h, _⟩ | ⟨k, _, _, h3, _⟩
      · exact h.symm
      · exfalso
        obtain ⟨d, hd, hp⟩ := par_inv h3
        obtain ⟨_, rfl⟩ := rootsN_get hd
        simp at hp

theorem push_new (w : World) (o : Obj) (n : Nat) (h : n = w.heap.size) : (w.alloc o).heap[n]? = some o := by
  subst h
  rw [push_at, if_neg (Nat.lt_irrefl _), if_pos rfl]

/-- a lies from block B on -/
def Lo (a : Option Addr) (B : Nat) : Prop := ∀ A, a = some A → B ≤ A.block

theorem off_none (k : Nat) : Off none k := fun A h => by cases h

theorem lo_none (k : Nat) : Lo none k := fun A h => by cases h

theorem Lo.within {a a' : Option Addr} {B n : Nat} (h : Lo a B) (hw : Within a a' n) (hn : B ≤ n) : Lo a' B := fun X hX => by
  rcases hw X hX with ⟨Y, hY, he⟩ | he
  · have := h Y hY; omega
  · omega

theorem own_lo {α : Type} {E : Enc α} {e : TypeId} {w : World} {a : Option Addr} {cap : Nat} {xs : List α} {lo : Nat} (h : Own E e w a cap xs lo) : Lo a lo := fun A hA => (own_lt h A hA).1

theorem Turned.below {t : Nat} {pa na qa : Option Addr} {w w' : World} (h : Turned t pa na qa w w') {B : Nat} (hB : B ≤ w.heap.size) (ht : B ≤ t) (hp : Lo pa B) (hn : Lo na B) (hq : Lo qa B) : Below B w w' :=
  ⟨h.os, h.tape, h.output, h.size, fun k hk => h.block k (by omega) (by omega) (fun A hA => by have := hp A hA; omega) (fun A hA => by have := hn A hA; omega) (fun A hA => by have := hq A hA; omega)⟩

theorem blk_below {B : Nat} {w w' : World} {k : Nat} {ob : Obj} (hb : Below B w w') (h : w.heap[k]? = some ob) (hk : k < B) : w'.heap[k]? = some ob := by
  rw [hb.block k hk]; exact h

end Go.Proofs.Ytkpmaifdeeecjaa

/- The walks of tree.codeOf, CodeOfWord, LongestWord and what they need of data. -/
namespace Go.Proofs.Ytkpmaifdeeecjaa
open Go.RowKit
set_option linter.unusedVariables false
set_option linter.unusedSimpArgs false

theorem IsFnd.pos {l m : Int} {ps : List Pr} {last : Int} {d : List UInt8} {n : Nat} {c : Int} (h : IsLon l m ps last d n) (hc : IsFnd l m ps last (d.take n) c) (h0 : 2 ≤ two l) : 0 ≤ c := by
  rcases hc with ⟨_, h2⟩ | ⟨h2, _⟩
  · obtain ⟨c', h3, h4⟩ := h.2.2.1
    exact absurd h4 (h2 c' h3)
  · exact h2.nonneg h0

/-- a code, and whether there is one -/
def codeV (c : Int) : Value := .tuple #[.int .i64 (if c < 0 then 0 else c), .bool (decide (0 ≤ c))]

theorem codeV_no : codeV (-1) = .tuple #[.int .i64 0, .bool false] := rfl

theorem codeV_yes {c : Int} (h : 0 ≤ c) : codeV c = .tuple #[.int .i64 c, .bool true] := by
  unfold codeV
  rw [if_neg (by omega), decide_eq_true h]

end Go.Proofs.Ytkpmaifdeeecjaa
