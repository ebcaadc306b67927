/- Numbers of bits: the plain forms, and the walks of bitsNumber and l1Number. -/
import Derived.Test.YtkpmaifdeeecjaaBtu
namespace Go.Proofs.Ytkpmaifdeeecjaa
open Go.RowKit
set_option linter.unusedVariables false
set_option linter.unusedSimpArgs false

/-- a bit's value -/
def bv1 (b : UInt8) : Int := if b = 49 then 1 else 0

/-- digits, the one of highest value first -/
def hor (l : List UInt8) : Int := l.foldl (fun n b => 2 * n + bv1 b) 0

theorem hor_snoc (l : List UInt8) (b : UInt8) : hor (l ++ [b]) = 2 * hor l + bv1 b := by simp [hor]

theorem hor_fold : ∀ (l : List UInt8) (n : Int), l.foldl (fun n b => 2 * n + bv1 b) n = n * 2 ^ l.length + hor l
  | [], n => by simp [hor]
  | b :: l, n => by
    rw [List.foldl_cons, hor_fold l, show hor (b :: l) = l.foldl (fun n b => 2 * n + bv1 b) (2 * 0 + bv1 b) from rfl, hor_fold l, List.length_cons, Int.pow_succ]
    rw [Int.add_mul, Int.add_mul, Int.mul_zero, Int.zero_mul, Int.zero_add, Int.add_assoc, Int.mul_comm 2 n, Int.mul_assoc, Int.mul_comm 2 (2 ^ l.length)]

theorem hor_cons (b : UInt8) (l : List UInt8) : hor (b :: l) = bv1 b * 2 ^ l.length + hor l := by
  show l.foldl (fun n b => 2 * n + bv1 b) (2 * 0 + bv1 b) = _
  rw [hor_fold, show (2 * 0 + bv1 b : Int) = bv1 b by omega]

theorem bv1_bd (b : UInt8) : 0 ≤ bv1 b ∧ bv1 b ≤ 1 := by unfold bv1; split <;> omega

theorem hor_bd : ∀ l : List UInt8, 0 ≤ hor l ∧ hor l < 2 ^ l.length
  | [] => by simp [hor]
  | b :: l => by
    have := bv1_bd b
    have ih := hor_bd l
    rw [hor_cons, List.length_cons, Int.pow_succ]
    have hp : (0 : Int) ≤ 2 ^ l.length := by have := ih.1; have := ih.2; omega
    rcases (by omega : bv1 b = 0 ∨ bv1 b = 1) with e | e <;> rw [e] <;> omega

theorem hor_zeros : ∀ (n : Nat) (l : List UInt8), hor (l ++ List.replicate n 48) = hor l * 2 ^ n
  | 0, l => by simp
  | n + 1, l => by
    rw [List.replicate_succ', ← List.append_assoc, hor_snoc, hor_zeros n l, Int.pow_succ]
    rw [show bv1 48 = 0 by decide, Int.add_zero, Int.mul_comm 2, Int.mul_assoc]

theorem zeros_hor (n : Nat) (l : List UInt8) : hor (List.replicate n 48 ++ l) = hor l := by
  induction n with
  | zero => simp
  | succ n ih =>
    rw [List.replicate_succ, List.cons_append, hor_cons, ih, show bv1 48 = 0 by decide]
    omega

/-- the number with some bits in an order -/
def numL (o : Int) (bs : List UInt8) : Int := hor (if o = 1 then bs else bs.reverse)

/-- the part of it that the first k bits make -/
def numK (o : Int) (w : Nat) (bs : List UInt8) (k : Nat) : Int := if o = 1 then hor (bs.take k) * 2 ^ (w - k) else hor (bs.take k).reverse

theorem numK_zero (o : Int) (w : Nat) (bs : List UInt8) : numK o w bs 0 = 0 := by unfold numK; split <;> simp [hor]

theorem numK_all (o : Int) (bs : List UInt8) : numK o bs.length bs bs.length = numL o bs := by
  unfold numK numL
  split <;> simp

theorem numK_step {o : Int} {w : Nat} {bs : List UInt8} {k : Nat} {b : UInt8} (hk : bs[k]? = some b) (hw : k < w) : numK o w bs (k + 1) = numK o w bs k + bv1 b * 2 ^ ixB o w k := by
  have ht : bs.take (k + 1) = bs.take k ++ [b] := by rw [List.take_add_one, hk]; rfl
  have hl : (bs.take k).length = k := by rw [List.length_take]; have := (List.getElem?_eq_some_iff.1 hk).1; omega
  unfold numK ixB
  split
  · rw [ht, hor_snoc, show w - k = (w - (k + 1)) + 1 by omega, Int.pow_succ, Int.add_mul, show w - 1 - k = w - (k + 1) by omega]
    rw [Int.mul_comm 2 (hor _), Int.mul_assoc, Int.mul_comm 2 (2 ^ _)]
  · rw [ht, List.reverse_append, List.reverse_singleton, List.singleton_append, hor_cons, List.length_reverse, hl]
    omega

theorem pow_le {a b : Nat} (h : a ≤ b) : (2 : Int) ^ a ≤ 2 ^ b := by
  have := Nat.pow_le_pow_right (n := 2) (by omega) h
  exact_mod_cast this

theorem numK_bd {o : Int} {w : Nat} {bs : List UInt8} {k : Nat} (hk : k ≤ bs.length) (hw : bs.length ≤ w) (h10 : w ≤ 10) : 0 ≤ numK o w bs k ∧ numK o w bs k < 1024 := by
  have hl : (bs.take k).length = k := by rw [List.length_take]; omega
  have hp : (2 : Int) ^ w ≤ 1024 := pow_le h10
  unfold numK
  split
  · have h := hor_bd (bs.take k)
    rw [hl] at h
    have hq : (0 : Int) < 2 ^ (w - k) := by have : (0 : Nat) < 2 ^ (w - k) := Nat.pow_pos (by omega); exact_mod_cast this
    refine ⟨Int.mul_nonneg h.1 (by omega), ?_⟩
    have h2 : hor (bs.take k) * 2 ^ (w - k) < 2 ^ k * 2 ^ (w - k) := Int.mul_lt_mul_of_pos_right h.2 hq
    rw [← Int.pow_add, show k + (w - k) = w by omega] at h2
    omega
  · have h := hor_bd (bs.take k).reverse
    rw [List.length_reverse, hl] at h
    have := pow_le (a := k) (b := 10) (by omega)
    omega

/-- only bits -/
def BV (bs : List UInt8) : Prop := ∀ b, b ∈ bs → b = 48 ∨ b = 49

theorem numL_hor (o : Int) (bs : List UInt8) : numL o bs = hor (if o = 1 then bs else bs.reverse) := rfl

end Go.Proofs.Ytkpmaifdeeecjaa
