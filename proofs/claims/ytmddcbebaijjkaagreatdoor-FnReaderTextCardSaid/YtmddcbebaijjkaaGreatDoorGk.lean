/- Lemmas and walks, part Gk. -/
import Derived.Test.YtmddcbebaijjkaaGreatDoorRng
import Derived.Test.YtmddcbebaijjkaaGreatDoorGd
import Derived.Test.YtmddcbebaijjkaaGreatDoorGb2
import Derived.Test.YtmddcbebaijjkaaGreatDoorGe

/- Slices of integers that a call returned: comparisons, marks, copies. -/
namespace Go.Proofs.YtmddcbebaijjkaaGreatDoor
open Go.RowKit
set_option linter.unusedVariables false
set_option linter.unusedSimpArgs false

theorem rdI_open {w : World} {a : Option Addr} {cap : Nat} {xs : List Int} (h : Rd encI w a cap xs) : xs.length ≤ cap ∧ cap ≤ 9223372036854775807 ∧ (cap = 0 ∨ ∃ b off, a = some ⟨b, off, none⟩ ∧ b < w.heap.size ∧
    ∀ i x, xs[i]? = some x → w.cell? ⟨b, off + i, none⟩ = some (.int .i64 x)) := by
  obtain ⟨h1, h2, h3⟩ := h
  refine ⟨h1, h2, ?_⟩
  rcases h3 with h3 | ⟨b, off, rfl, hb, hc⟩
  · exact .inl h3
  · refine .inr ⟨b, off, rfl, hb, fun i x hx => ?_⟩
    have := hc (i * 1 + 0) _ (flat_get encI xs i x hx 0 (by decide))
    simpa using this

/-- a slice that may be written, with room or not -/
def Wrt {α : Type} (E : Enc α) (e : TypeId) (w : World) (a : Option Addr) (cap : Nat) (xs : List α) (lo : Nat) : Prop :=
  (a = none ∧ cap = 0 ∧ xs = []) ∨ ∃ b cur, a = some ⟨b, 0, none⟩ ∧ lo ≤ b ∧ w.heap[b]? = some (.cells cur e (0, 0)) ∧ cap * E.sz ≤ cur.size ∧ Row E cur xs ∧ xs.length ≤ cap ∧ cap ≤ 9223372036854775807

section
variable {α : Type} {E : Enc α} {e : TypeId} {w : World} {a : Option Addr} {cap : Nat} {xs : List α} {lo : Nat}

theorem Wrt.rd (h : Wrt E e w a cap xs lo) : Rd E w a cap xs := by
  rcases h with ⟨rfl, rfl, rfl⟩ | ⟨b, cur, rfl, _, hb, _, hr, h1, h2⟩
  · exact ⟨by simp, by omega, .inl rfl⟩
  · exact Rd.of_row hb hr h1 h2

theorem Wrt.of_block {w' : World} (h : Wrt E e w a cap xs lo) (hs : ∀ A, a = some A → A.block < w.heap.size → w'.heap[A.block]? = w.heap[A.block]?) : Wrt E e w' a cap xs lo := by
  rcases h with h | ⟨b, cur, rfl, h0, hb, h1⟩
  · exact .inl h
  · exact .inr ⟨b, cur, rfl, h0, (hs _ rfl (Array.getElem?_eq_some_iff.1 hb).1).trans hb, h1⟩

theorem Wrt.plus (h : Wrt E e w a cap xs lo) (x : Ext) : Wrt E e (plus w x) a cap xs lo := h.of_block fun A _ hl => plus_block w x hl

theorem Wrt.alloc (h : Wrt E e w a cap xs lo) (o : Obj) : Wrt E e (w.alloc o) a cap xs lo := by rw [alloc_plus]; exact h.plus _

theorem Wrt.drew (h : Wrt E e w a cap xs lo) : Wrt E e w.drew a cap xs lo := by rw [drew_is_plus]; exact h.plus _

theorem Wrt.lower {lo' : Nat} (h : Wrt E e w a cap xs lo) (hl : lo' ≤ lo) : Wrt E e w a cap xs lo' := by
  rcases h with h | ⟨b, cur, h0, h1, h2⟩
  · exact .inl h
  · exact .inr ⟨b, cur, h0, by omega, h2⟩

end

/-- the integers below k stand in cur -/
def UpI (cur : Array Value) (xs : List Int) (k : Nat) : Prop := ∀ i x, xs[i]? = some x → i < k → cur[i]? = some (.int .i64 x)

theorem UpI.zero (cur : Array Value) (xs : List Int) : UpI cur xs 0 := fun _ _ _ h => absurd h (by omega)

theorem UpI.step {cur : Array Value} {xs : List Int} {k : Nat} {x : Int} (h : UpI cur xs k) (hx : xs[k]? = some x) (hk : k < cur.size) : UpI (cur.setIfInBounds k (.int .i64 x)) xs (k + 1) := by
  intro i y hy hi
  simp only [Array.getElem?_setIfInBounds]
  by_cases hik : i = k
  · subst hik
    rw [hx] at hy; cases hy
    rw [if_pos rfl, if_pos hk]
  · rw [if_neg (fun e => hik e.symm)]
    exact h i y hy (by omega)

theorem UpI.row {cur : Array Value} {xs : List Int} (h : UpI cur xs xs.length) : Row encI cur xs :=
  row_of encI cur xs fun i x hx j hj => by
    obtain rfl : j = 0 := by have : j < 1 := hj; omega
    have := h i x hx (List.getElem?_eq_some_iff.1 hx).1
    show cur[i * 1 + 0]? = (encI.enc x)[0]?
    rw [show i * 1 + 0 = i by omega, this]
    rfl

end Go.Proofs.YtmddcbebaijjkaaGreatDoor

/- Learning the beginning of a text, in plain Lean. -/
namespace Go.Proofs.YtmddcbebaijjkaaGreatDoor
open Go.RowKit
set_option linter.unusedVariables false
set_option linter.unusedSimpArgs false

/-- something known, and a text that fits -/
def Tx (o l m base : Int) (ps : List Pr) (last : Int) (d : List UInt8) : Prop := KV o l m ps base last ∧ dfB o l m (bstr d) = true

theorem Tx.step {o l m base : Int} {ps : List Pr} {last : Int} {d : List UInt8} (h : Tx o l m base ps last d) (hz : d ≠ []) :
    ∃ (n : Nat) (c : Int), IsLon l m ps last d n ∧ IsFnd l m ps last (d.take n) c ∧ Tx o l m base (aftP l m ps last c) c (d.drop n) := by
  obtain ⟨hk, hd⟩ := h
  have hz0 : 0 < (bstr d).size := by
    rw [bstr_size]
    exact List.length_pos_iff.2 hz
  obtain ⟨n, hn⟩ := lon_ex hk hd hz0
  rw [bytes_bstr] at hn
  obtain ⟨c, hc⟩ := fnd_ex l m ps last (d.take n) (hk.lim.bds).2.2.2.2.1
  refine ⟨n, c, hn, hc, hk.after (fnd_ok hn hc), ?_⟩
  have := dfB_drop hd n
  have e : (bstr d).extract n (bstr d).size = bstr (d.drop n) := by
    rw [← bstr_bytes ((bstr d).extract n (bstr d).size), ext_drop, bytes_bstr]
  rwa [e] at this

theorem dfB_pre {o l m : Int} {d : List UInt8} (h : dfB o l m (bstr d) = true) (n : Nat) : dfB o l m (bstr (d.take n)) = true := by
  unfold dfB litB at *
  simp only [Bool.and_eq_true, decide_eq_true_eq, List.all_eq_true, bstr_size, bytes_bstr] at *
  exact ⟨h.1, by rw [List.length_take]; omega, fun y hy => h.2.2 y (List.mem_of_mem_take hy)⟩

theorem Tx.take {o l m base : Int} {ps : List Pr} {last : Int} {d : List UInt8} (h : Tx o l m base ps last d) (n : Nat) : Tx o l m base ps last (d.take n) := ⟨h.1, dfB_pre h.2 n⟩

end Go.Proofs.YtmddcbebaijjkaaGreatDoor

/- Codes of the longest words, in plain Lean. -/
namespace Go.Proofs.YtmddcbebaijjkaaGreatDoor
open Go.RowKit
set_option linter.unusedVariables false
set_option linter.unusedSimpArgs false

/-- no code is left for a word, and a clear code would make room -/
def full (l m : Int) (n : Nat) (b : Nat) : Bool := decide (two m - 1 < nw l n ∧ b < n)

theorem full_iff {l m : Int} {n b : Nat} : full l m n b = true ↔ (two m - 1 < nw l n ∧ b < n) := by simp [full]

theorem full_no {l m : Int} {n b : Nat} : full l m n b = false ↔ ¬ (two m - 1 < nw l n ∧ b < n) := by rw [← full_iff]; simp

/-- the codes of d, behind the pairs ps and the last code -/
noncomputable def gre (l m : Int) (b : Nat) : Nat → List Pr → Int → List UInt8 → List Int
  | 0, _, _, _ => []
  | f + 1, ps, last, d => if d = [] then [] else
      if full l m ps.length b then
        two l :: fndC l m (ps.take b) (-1) (d.take (lonN l m (ps.take b) (-1) d)) ::
          gre l m b f (aftP l m (ps.take b) (-1) (fndC l m (ps.take b) (-1) (d.take (lonN l m (ps.take b) (-1) d)))) (fndC l m (ps.take b) (-1) (d.take (lonN l m (ps.take b) (-1) d))) (d.drop (lonN l m (ps.take b) (-1) d))
      else
        fndC l m ps last (d.take (lonN l m ps last d)) ::
          gre l m b f (aftP l m ps last (fndC l m ps last (d.take (lonN l m ps last d)))) (fndC l m ps last (d.take (lonN l m ps last d))) (d.drop (lonN l m ps last d))

theorem gre_nil (l m : Int) (b f : Nat) (ps : List Pr) (last : Int) : gre l m b f ps last [] = [] := by
  cases f with
  | zero => rfl
  | succ f => show (if _ then _ else _) = _; rw [if_pos rfl]

theorem gre_step {l m : Int} {b f : Nat} {ps : List Pr} {last : Int} {d : List UInt8} {n : Nat} {c : Int} (hd : d ≠ []) (hf : full l m ps.length b = false) (hn : IsLon l m ps last d n) (hc : IsFnd l m ps last (d.take n) c) :
    gre l m b (f + 1) ps last d = c :: gre l m b f (aftP l m ps last c) c (d.drop n) := by
  show (if _ then _ else _) = _
  rw [if_neg hd, hf, if_neg (by simp), lonN_eq hn, fndC_eq hc]

theorem gre_full {l m : Int} {b f : Nat} {ps : List Pr} {last : Int} {d : List UInt8} (hd : d ≠ []) (hf : full l m ps.length b = true) :
    gre l m b (f + 1) ps last d = two l :: gre l m b (f + 1) (ps.take b) (-1) d := by
  have h := (full_iff.1 hf).2
  have hl : (ps.take b).length = b := by rw [List.length_take]; omega
  have h2 : full l m (ps.take b).length b = false := full_no.2 (by rw [hl]; omega)
  show (if _ then _ else _) = _ :: (if _ then _ else _)
  rw [if_neg hd, if_neg hd, hf, if_pos rfl, h2, if_neg (by simp)]

theorem Tx.clear {o l m : Int} {b : Nat} {ps : List Pr} {last : Int} {d : List UInt8} (h : Tx o l m (b : Int) ps last d) : Tx o l m (b : Int) (ps.take b) (-1) d := by
  refine ⟨?_, h.2⟩
  have := h.1.cleared
  simpa using this

/-- the codes, from the first clear code to the end code -/
noncomputable def greL (l m : Int) (b : Nat) (ps : List Pr) (d : List UInt8) : List Int := two l :: (gre l m b d.length (ps.take b) (-1) d ++ [two l + 1])

end Go.Proofs.YtmddcbebaijjkaaGreatDoor

/- A tree and a slice beside it: what the calls on the tree leave of both. -/
namespace Go.Proofs.YtmddcbebaijjkaaGreatDoor
open Go.RowKit
set_option linter.unusedVariables false
set_option linter.unusedSimpArgs false

theorem Within.off {a a' : Option Addr} {n k : Nat} (h : Within a a' n) (ho : Off a k) (hk : k < n) : Off a' k := fun X hX e => by
  rcases h X hX with ⟨Y, hY, he⟩ | he
  · exact ho Y hY (by omega)
  · omega

section
variable {α : Type} {E : Enc α} {e : TypeId} {av : List Nat} {w w' : World} {t lo : Nat} {o l m : Int} {ps ps' : List Pr} {base last last' : Int} {A : Option Addr} {cap : Nat} {xs : List α}

end

end Go.Proofs.YtmddcbebaijjkaaGreatDoor
