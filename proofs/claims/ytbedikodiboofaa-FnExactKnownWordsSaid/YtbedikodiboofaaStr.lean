/- Slices of strings: their cells; the laws' texts of marks. -/
import Derived.Test.YtbedikodiboofaaFin
namespace Go.Proofs.Ytbedikodiboofaa
open Go.RowKit
set_option linter.unusedVariables false
set_option linter.unusedSimpArgs false

def encS : Enc ByteArray where
  sz := 1
  enc s := [.string s]
  len _ := rfl
  one := by intro x u hu; simp at hu; subst hu; rfl

/-- the slice at a reads as the strings ss -/
def RdS (w : World) (a : Option Addr) (cap : Nat) (ss : List ByteArray) : Prop := Rd encS w a cap ss

theorem RdS.open {w : World} {a : Option Addr} {cap : Nat} {ss : List ByteArray} (h : RdS w a cap ss) : ss.length ≤ cap ∧ cap ≤ 9223372036854775807 ∧ (cap = 0 ∨ ∃ b off, a = some ⟨b, off, none⟩ ∧ b < w.heap.size ∧
    ∀ i s, ss[i]? = some s → w.cell? ⟨b, off + i, none⟩ = some (.string s)) := by
  obtain ⟨h1, h2, h3⟩ := h
  refine ⟨h1, h2, ?_⟩
  rcases h3 with h3 | ⟨b, off, rfl, hb, hc⟩
  · exact .inl h3
  · refine .inr ⟨b, off, rfl, hb, fun i s hs => ?_⟩
    have := flat_get encS ss i s hs 0 (by decide)
    have := hc (i * 1 + 0) _ this
    simpa using this

theorem rowS_of (cur : Array Value) (ss : List ByteArray) (h : ∀ (i : Nat) (s : ByteArray), ss[i]? = some s → cur[i]? = some (Value.string s)) : Row encS cur ss :=
  row_of encS cur ss fun i s hs j hj => by
    have hj' : j < 1 := hj
    obtain rfl : j = 0 := by omega
    have := h i s hs
    simpa [encS] using this

/-- the strings below k stand in cur -/
def UpToS (cur : Array Value) (ss : List ByteArray) (k : Nat) : Prop := ∀ (i : Nat) (s : ByteArray), ss[i]? = some s → i < k → cur[i]? = some (Value.string s)

theorem UpToS.zero (cur : Array Value) (ss : List ByteArray) : UpToS cur ss 0 := fun _ _ _ h => absurd h (by omega)

theorem UpToS.step {cur : Array Value} {ss : List ByteArray} {k : Nat} {s : ByteArray} (h : UpToS cur ss k) (hs : ss[k]? = some s) (hk : k < cur.size) : UpToS (cur.setIfInBounds k (.string s)) ss (k + 1) := by
  intro i q hq hi
  by_cases hik : i = k
  · subst hik
    rw [hs] at hq; cases hq
    simp [hk]
  · rw [Array.getElem?_setIfInBounds, if_neg (fun e => hik e.symm)]
    exact h i q hq (by omega)

theorem UpToS.row {cur : Array Value} {ss : List ByteArray} (h : UpToS cur ss ss.length) : Row encS cur ss :=
  rowS_of cur ss fun i s hs => h i s hs (List.getElem?_eq_some_iff.1 hs).1

end Go.Proofs.Ytbedikodiboofaa
