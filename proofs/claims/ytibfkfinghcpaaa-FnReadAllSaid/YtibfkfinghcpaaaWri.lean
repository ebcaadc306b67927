/- Slices of integers that a call returned: comparisons, marks, copies. -/
import Derived.Test.YtibfkfinghcpaaaRng
import Derived.Test.YtibfkfinghcpaaaGd
namespace Go.Proofs.Ytibfkfinghcpaaa
open Go.RowKit
set_option linter.unusedVariables false
set_option linter.unusedSimpArgs false

theorem rdI_open {w : World} {a : Option Addr} {cap : Nat} {xs : List Int} (h : Rd encI w a cap xs) : xs.length ≤ cap ∧ cap ≤ 9223372036854775807 ∧ (cap = 0 ∨ ∃ b off, a = some ⟨b, off, none⟩ ∧ b < w.heap.size ∧
    ∀ i x, xs[i]? = some x → w.cell? ⟨b, off + i, none⟩ = some (.int .i64 x)) := by
  obtain ⟨h1, h2, h3⟩ := h
  refine ⟨h1, h2, ?_⟩
  rcases h3 with h3 | ⟨b, off, rfl, hb, hc⟩
  · exact .inl h3
  · refine .inr ⟨b, off, rfl, hb, fun i x hx => ?_⟩
    have := hc (i * 1 + 0) _ (flat_get encI xs i x hx 0 (by decide))
    simpa using this

/-- a slice that may be written, with room or not -/
def Wrt {α : Type} (E : Enc α) (e : TypeId) (w : World) (a : Option Addr) (cap : Nat) (xs : List α) (lo : Nat) : Prop :=
  (a = none ∧ cap = 0 ∧ xs = []) ∨ ∃ b cur, a = some ⟨b, 0, none⟩ ∧ lo ≤ b ∧ w.heap[b]? = some (.cells cur e (0, 0)) ∧ cap * E.sz ≤ cur.size ∧ Row E cur xs ∧ xs.length ≤ cap ∧ cap ≤ 9223372036854775807

section
variable {α : Type} {E : Enc α} {e : TypeId} {w : World} {a : Option Addr} {cap : Nat} {xs : List α} {lo : Nat}

theorem Own.wrt (h : Own E e w a cap xs lo) : Wrt E e w a cap xs lo := by
  rcases h with h | ⟨b, cur, h0, h1, hb, hs, h2⟩
  · exact .inl h
  · exact .inr ⟨b, cur, h0, h1, hb, by omega, h2⟩

theorem Wrt.rd (h : Wrt E e w a cap xs lo) : Rd E w a cap xs := by
  rcases h with ⟨rfl, rfl, rfl⟩ | ⟨b, cur, rfl, _, hb, _, hr, h1, h2⟩
  · exact ⟨by simp, by omega, .inl rfl⟩
  · exact Rd.of_row hb hr h1 h2

theorem Wrt.of_block {w' : World} (h : Wrt E e w a cap xs lo) (hs : ∀ A, a = some A → A.block < w.heap.size → w'.heap[A.block]? = w.heap[A.block]?) : Wrt E e w' a cap xs lo := by
  rcases h with h | ⟨b, cur, rfl, h0, hb, h1⟩
  · exact .inl h
  · exact .inr ⟨b, cur, rfl, h0, (hs _ rfl (Array.getElem?_eq_some_iff.1 hb).1).trans hb, h1⟩

theorem wrt_lt (h : Wrt E e w a cap xs lo) : ∀ A, a = some A → lo ≤ A.block ∧ A.block < w.heap.size := by
  intro A hA
  rcases h with ⟨h0, _⟩ | ⟨b, cur, h0, h1, hb, _⟩
  · rw [h0] at hA; cases hA
  · rw [h0] at hA; cases hA; exact ⟨h1, (Array.getElem?_eq_some_iff.1 hb).1⟩

theorem wrt_span (h : Wrt E e w a cap xs lo) : ∃ lo' hi' : Nat, lo' = lo ∧ hi' = w.heap.size ∧ ∀ A, a = some A → lo' ≤ A.block ∧ A.block < hi' :=
  ⟨lo, _, rfl, rfl, wrt_lt h⟩

theorem Wrt.plus (h : Wrt E e w a cap xs lo) (x : Ext) : Wrt E e (plus w x) a cap xs lo := h.of_block fun A _ hl => plus_block w x hl

theorem Wrt.alloc (h : Wrt E e w a cap xs lo) (o : Obj) : Wrt E e (w.alloc o) a cap xs lo := by rw [alloc_plus]; exact h.plus _

theorem Wrt.drew (h : Wrt E e w a cap xs lo) : Wrt E e w.drew a cap xs lo := by rw [drew_is_plus]; exact h.plus _

theorem wrt_seq {x y : Ext} (h : Wrt E e (Go.Proofs.Ytibfkfinghcpaaa.plus w x) a cap xs lo) : Wrt E e (Go.Proofs.Ytibfkfinghcpaaa.plus w (x.seq y)) a cap xs lo := by rw [← plus_plus]; exact h.plus y

theorem wrt_draw {x : Ext} {n : Nat} (h : Wrt E e (Go.Proofs.Ytibfkfinghcpaaa.plus w x) a cap xs lo) : Wrt E e (Go.Proofs.Ytibfkfinghcpaaa.plus w (x.draw n)) a cap xs lo := h

theorem Wrt.lower {lo' : Nat} (h : Wrt E e w a cap xs lo) (hl : lo' ≤ lo) : Wrt E e w a cap xs lo' := by
  rcases h with h | ⟨b, cur, h0, h1, h2⟩
  · exact .inl h
  · exact .inr ⟨b, cur, h0, by omega, h2⟩

theorem wrt_rng {w' : World} {lo1 hi1 : Nat} (h : Wrt E e w a cap xs lo) (hg : Rng lo1 hi1 w w') (ha : ∀ A, a = some A → A.block < lo1 ∨ hi1 ≤ A.block) : Wrt E e w' a cap xs lo :=
  h.of_block fun A hA hl => hg.block _ hl (ha A hA)

theorem wrt_swap {w1 w2 : World} {x : Ext} (h : Wrt E e (Go.Proofs.Ytibfkfinghcpaaa.plus w1 x) a cap xs lo) (hs : w1.heap.size = w2.heap.size) (hlo : w1.heap.size ≤ lo) : Wrt E e (Go.Proofs.Ytibfkfinghcpaaa.plus w2 x) a cap xs lo := by
  rcases h with h | ⟨b, cur, h0, h1, hb, h2⟩
  · exact .inl h
  · exact .inr ⟨b, cur, h0, h1, (plus_above w1 w2 x hs (by omega)).trans hb, h2⟩

/-- the same, cut to its length -/
theorem Wrt.clip (h : Wrt E e w a cap xs lo) (hx : a ≠ none ∨ xs = []) : Wrt E e w a xs.length xs lo := by
  rcases h with ⟨h1, h2, h3⟩ | ⟨b, cur, h0, h1, hb, hs, hr, h2, h3⟩
  · subst h3; exact .inl ⟨h1, rfl, rfl⟩
  · exact .inr ⟨b, cur, h0, h1, hb, by have := Nat.mul_le_mul_right E.sz h2; omega, hr, Nat.le_refl _, by omega⟩

end

/-- what a call leaves that returns a value with integers of its own -/
def RetI (w : World) (v : Option Addr → Nat → Value) (xs : List Int) (e : Ending) (w' : World) : Prop :=
  ∃ a c, e = .returned (v a c) ∧ Wrt encI 3 w' a c xs w.heap.size ∧ ∃ x, w' = plus w x

/-- the integers from k on -/
def imarks (k : Int) (n : Nat) : List Int := (List.range n).map fun (i : Nat) => k + (i : Int)

theorem imarks_len (k : Int) (n : Nat) : (imarks k n).length = n := by simp [imarks]

theorem imarks_get (k : Int) (n i : Nat) (h : i < n) : (imarks k n)[i]? = some (k + (i : Int)) := by simp [imarks, h]

/-- the integers below k stand in cur -/
def UpI (cur : Array Value) (xs : List Int) (k : Nat) : Prop := ∀ i x, xs[i]? = some x → i < k → cur[i]? = some (.int .i64 x)

theorem UpI.zero (cur : Array Value) (xs : List Int) : UpI cur xs 0 := fun _ _ _ h => absurd h (by omega)

theorem UpI.step {cur : Array Value} {xs : List Int} {k : Nat} {x : Int} (h : UpI cur xs k) (hx : xs[k]? = some x) (hk : k < cur.size) : UpI (cur.setIfInBounds k (.int .i64 x)) xs (k + 1) := by
  intro i y hy hi
  simp only [Array.getElem?_setIfInBounds]
  by_cases hik : i = k
  · subst hik
    rw [hx] at hy; cases hy
    rw [if_pos rfl, if_pos hk]
  · rw [if_neg (fun e => hik e.symm)]
    exact h i y hy (by omega)

theorem UpI.row {cur : Array Value} {xs : List Int} (h : UpI cur xs xs.length) : Row encI cur xs :=
  row_of encI cur xs fun i x hx j hj => by
    obtain rfl : j = 0 := by have : j < 1 := hj; omega
    have := h i x hx (List.getElem?_eq_some_iff.1 hx).1
    show cur[i * 1 + 0]? = (encI.enc x)[0]?
    rw [show i * 1 + 0 = i by omega, this]
    rfl

/-- what a call leaves that writes marks into integers -/
def RetMi (lo hi : Nat) (w : World) (a : Option Addr) (cap n : Nat) (k : Int) (e : Ending) (w' : World) : Prop :=
  e = .returned (.int .i64 (k + n)) ∧ Rd encI w' a cap (imarks k n) ∧ Rng lo hi w w'

end Go.Proofs.Ytibfkfinghcpaaa
