/- Bits of numbers and of bytes: the plain forms, and the walks that write them. -/
import Derived.Test.YtkpmaifdeeecjaaAps
import Derived.Test.YtkpmaifdeeecjaaGa
namespace Go.Proofs.Ytkpmaifdeeecjaa
open Go.RowKit
set_option linter.unusedVariables false
set_option linter.unusedSimpArgs false

/-- digit i of n -/
def bt (n : Int) (i : Nat) : UInt8 := if n / 2 ^ i % 2 = 1 then 49 else 48

def lowL (n : Int) (w : Nat) : List UInt8 := (List.range w).map (bt n)

/-- the bits of a number in an order -/
def bitsL (o n : Int) (w : Nat) : List UInt8 := if o = 1 then (lowL n w).reverse else lowL n w

/-- the exponent of digit i -/
def ixB (o : Int) (w i : Nat) : Nat := if o = 1 then w - 1 - i else i

theorem lowL_len (n : Int) (w : Nat) : (lowL n w).length = w := by simp [lowL]

theorem bitsL_len (o n : Int) (w : Nat) : (bitsL o n w).length = w := by unfold bitsL; split <;> simp [lowL_len]

theorem lowL_get {n : Int} {w i : Nat} (h : i < w) : (lowL n w)[i]? = some (bt n i) := by simp [lowL, h]

theorem bitsL_get {o n : Int} {w i : Nat} (h : i < w) : (bitsL o n w)[i]? = some (bt n (ixB o w i)) := by
  unfold bitsL ixB
  split
  · rw [List.getElem?_reverse (by rw [lowL_len]; exact h), lowL_len, lowL_get (by omega)]
  · exact lowL_get h

theorem bitsL_take {o n : Int} {w i : Nat} (h : i < w) : (bitsL o n w).take (i + 1) = (bitsL o n w).take i ++ [bt n (ixB o w i)] := by
  rw [List.take_add_one, bitsL_get h]; rfl

theorem ixB_lt {o : Int} {w i : Nat} (h : i < w) : ixB o w i < w := by unfold ixB; split <;> omega

theorem pow_bd {k : Nat} (h : k < 10) : 1 ≤ (2 : Int) ^ k ∧ (2 : Int) ^ k ≤ 512 := by
  rcases (by omega : k = 0 ∨ k = 1 ∨ k = 2 ∨ k = 3 ∨ k = 4 ∨ k = 5 ∨ k = 6 ∨ k = 7 ∨ k = 8 ∨ k = 9) with rfl | rfl | rfl | rfl | rfl | rfl | rfl | rfl | rfl | rfl <;> decide +kernel

theorem and_all : ∀ (n k : Nat), n < 1024 → k < 10 → (BitVec.ofInt 64 (n : Int) &&& BitVec.ofInt 64 ((2 : Int) ^ k)).toNat = if n / 2 ^ k % 2 = 1 then 2 ^ k else 0 := by
  have h : (List.range 1024).all (fun n => (List.range 10).all fun k => decide ((BitVec.ofInt 64 (n : Int) &&& BitVec.ofInt 64 ((2 : Int) ^ k)).toNat = if n / 2 ^ k % 2 = 1 then 2 ^ k else 0)) = true := by decide +kernel
  intro n k hn hk
  exact of_decide_eq_true (List.all_eq_true.1 (List.all_eq_true.1 h n (List.mem_range.2 hn)) k (List.mem_range.2 hk))

theorem and_one : ∀ (n : Nat), n < 1024 → (BitVec.ofInt 64 (n : Int) &&& BitVec.ofInt 64 1).toNat = n % 2 := by
  have h : (List.range 1024).all (fun n => decide ((BitVec.ofInt 64 (n : Int) &&& BitVec.ofInt 64 1).toNat = n % 2)) = true := by decide +kernel
  intro n hn
  exact of_decide_eq_true (List.all_eq_true.1 h n (List.mem_range.2 hn))

theorem bits_and {n : Int} {k : Nat} (h0 : 0 ≤ n) (h1 : n < 1024) (hk : k < 10) : bits .and .i64 n (2 ^ k) = if n / 2 ^ k % 2 = 1 then 2 ^ k else 0 := by
  obtain ⟨m, rfl⟩ : ∃ m : Nat, n = m := ⟨n.toNat, by omega⟩
  have h := and_all m k (by omega) hk
  obtain ⟨p1, p2⟩ := pow_bd hk
  show IntKind.i64.wrap ((BitVec.ofInt 64 (m : Int) &&& BitVec.ofInt 64 ((2 : Int) ^ k)).toNat : Nat) = _
  rw [h]
  have hc : ((m / 2 ^ k % 2 = 1) ↔ ((m : Int) / 2 ^ k % 2 = 1)) := by
    constructor <;> intro q
    · have : ((m / 2 ^ k % 2 : Nat) : Int) = (1 : Nat) := by rw [q]
      simpa using this
    · have : ((m / 2 ^ k % 2 : Nat) : Int) = (1 : Nat) := by simpa using q
      exact_mod_cast this
  by_cases q : m / 2 ^ k % 2 = 1
  · rw [if_pos q, if_pos (hc.1 q)]
    have : ((2 ^ k : Nat) : Int) = (2 : Int) ^ k := by simp
    rw [this, IntWalk.i64_in _ (by omega)]
  · rw [if_neg q, if_neg (fun x => q (hc.2 x))]
    rfl

theorem bits_one {n : Int} (h0 : 0 ≤ n) (h1 : n < 1024) : bits .and .i64 n 1 = n % 2 := by
  obtain ⟨m, rfl⟩ : ∃ m : Nat, n = m := ⟨n.toNat, by omega⟩
  have h := and_one m (by omega)
  show IntKind.i64.wrap ((BitVec.ofInt 64 (m : Int) &&& BitVec.ofInt 64 1).toNat : Nat) = _
  rw [h, IntWalk.i64_in _ (by omega)]
  simp

theorem pow_wrap {k : Nat} (h : k < 10) : wrap64 ((2 : Int) ^ k) = 2 ^ k := by
  obtain ⟨p1, p2⟩ := pow_bd h
  exact wrap64_of (by omega) (by omega)

/-- what a call leaves that grows an own slice of bytes -/
def RetG (w : World) (A : Option Addr) (xs : List UInt8) (lo : Nat) (e : Ending) (w' : World) : Prop :=
  ∃ A' c', e = .returned (.slice A' xs.length c') ∧ Own encB 5 w' A' c' xs lo ∧ Grew A w w' ∧ Within A A' w.heap.size

theorem Within.trans {A A1 A2 : Option Addr} {n n1 : Nat} (h : Within A A1 n) (k : Within A1 A2 n1) (hn : n ≤ n1) : Within A A2 n := fun X hX => by
  rcases k X hX with ⟨Y, hY, e⟩ | e
  · rcases h Y hY with ⟨Z, hZ, e2⟩ | e2
    · exact .inl ⟨Z, hZ, by omega⟩
    · exact .inr (by omega)
  · exact .inr (by omega)

theorem grew_within {A A1 : Option Addr} {w w1 w2 : World} (h : Grew A w w1) (hw : Within A A1 w.heap.size) (k : Grew A1 w1 w2) : Grew A w w2 :=
  ⟨k.os.trans h.os, k.tape.trans h.tape, k.output.trans h.output, by have := h.size; have := k.size; omega, fun j hj ha => by
    rw [k.block j (by have := h.size; omega) fun X hX e => ?_]
    · exact h.block j hj ha
    · rcases hw X hX with ⟨Y, hY, e2⟩ | e2
      · exact ha Y hY (by omega)
      · omega⟩

end Go.Proofs.Ytkpmaifdeeecjaa
