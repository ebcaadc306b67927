/- Plain: the texts of numbers, settings, pairs and of what is known. -/
import Derived.Test.YtmddcbebaijjkaaGreatDoorGa
import Derived.Lib.ItoaNum
import Derived.Lib.Join
namespace Go.Proofs.YtmddcbebaijjkaaGreatDoor
open Go.RowKit
set_option linter.unusedVariables false
set_option linter.unusedSimpArgs false

/-- a number's text -/
def decB (n : Int) : ByteArray := ⟨(Lib.itoa n).toArray⟩

/-- the text of natural numbers -/
def decN (n : Nat) : ByteArray := ⟨(Lib.decDigits n).toArray⟩

theorem decB_nat (n : Nat) : decB n = decN n := by
  unfold decB decN Lib.itoa
  rw [if_neg (by omega)]
  rfl

theorem decB_neg (n : Nat) (h : 0 < n) : decB (-(n : Int)) = (⟨#[45]⟩ : ByteArray) ++ decN n := by
  unfold decB decN Lib.itoa
  rw [if_pos (by omega), Int.natAbs_neg, Int.natAbs_natCast]
  apply ByteArray.ext
  simp

theorem decN_step (n : Nat) (h : 9 < n) : decN n = decN (n / 10) ++ (⟨#[UInt8.ofNat (48 + n % 10)]⟩ : ByteArray) := by
  unfold decN
  rw [Lib.decDigits, dif_neg (by omega)]
  apply ByteArray.ext
  simp

theorem decN_one (n : Nat) (h : n < 10) : decN n = (⟨#[UInt8.ofNat (48 + n)]⟩ : ByteArray) := by
  unfold decN
  rw [Lib.decDigits, dif_pos h]

theorem decN_size : ∀ (k n : Nat), n < 10 ^ (k + 1) → (decN n).size ≤ k + 1
  | 0, n, h => by rw [decN_one n (by simpa using h)]; exact Nat.le_refl 1
  | k + 1, n, h => by
    by_cases h9 : n < 10
    · rw [decN_one n h9]
      show 1 ≤ _
      omega
    · rw [decN_step n (by omega), ByteArray.size_append]
      have := decN_size k (n / 10) (by rw [Nat.div_lt_iff_lt_mul (by omega)]; rw [Nat.pow_succ] at h; exact h)
      show _ + 1 ≤ _
      omega

theorem decB_size {n : Int} (h1 : -1 ≤ n) (h2 : n < 100000) : (decB n).size ≤ 5 := by
  rcases (by omega : n = -1 ∨ 0 ≤ n) with rfl | h
  · rw [show (-1 : Int) = -((1 : Nat) : Int) from rfl, decB_neg 1 (by omega), decN_one 1 (by omega)]
    decide
  · rw [show n = ((n.toNat : Nat) : Int) by omega, decB_nat]
    exact decN_size 4 _ (by omega)

/-- a pair's text -/
def prT (p : Pr) : ByteArray := decB p.p ++ (⟨#[46]⟩ : ByteArray) ++ decB p.b

/-- texts with a text between them -/
def joinB (sep : ByteArray) : List ByteArray → ByteArray
  | [] => ⟨#[]⟩
  | [x] => x
  | x :: y :: r => x ++ sep ++ joinB sep (y :: r)

theorem joinB_lib (sep : ByteArray) : ∀ xs : List ByteArray, (⟨(Lib.join (xs.map (·.data.toList)) sep.data.toList).toArray⟩ : ByteArray) = joinB sep xs
  | [] => rfl
  | [x] => by rw [List.map_cons, List.map_nil, Lib.join_one, joinB]
  | x :: y :: r => by
    have h := joinB_lib sep (y :: r)
    rw [joinB, ← h]
    apply ByteArray.ext
    simp [Lib.join]

theorem joinB_snoc (sep : ByteArray) (z : ByteArray) : ∀ xs : List ByteArray, xs ≠ [] → joinB sep (xs ++ [z]) = joinB sep xs ++ sep ++ z
  | [], h => absurd rfl h
  | [x], _ => rfl
  | x :: y :: r, _ => by
    have h := joinB_snoc sep z (y :: r) (by simp)
    show x ++ sep ++ joinB sep ((y :: r) ++ [z]) = x ++ sep ++ joinB sep (y :: r) ++ sep ++ z
    rw [h]
    simp [ByteArray.append_assoc]

theorem joinB_size (sep : ByteArray) (N : Nat) : ∀ xs : List ByteArray, (∀ x ∈ xs, x.size ≤ N) → (joinB sep xs).size ≤ xs.length * (N + sep.size)
  | [], _ => Nat.zero_le _
  | [x], h => by
    have := h x (by simp)
    simp [joinB]
    omega
  | x :: y :: r, h => by
    have h1 := joinB_size sep N (y :: r) (fun z hz => h z (by simp at hz ⊢; right; exact hz))
    have h2 := h x (by simp)
    rw [joinB, ByteArray.size_append, ByteArray.size_append]
    simp only [List.length_cons] at h1 ⊢
    rw [Nat.succ_mul]
    omega

/-- a text, or a dash in place of the empty one -/
def orD (t : ByteArray) : ByteArray := if t.size = 0 then ⟨#[45]⟩ else t

/-- a setting's text -/
def setT (o l m : Int) : ByteArray := (if o = 1 then (⟨#[104, 105, 103, 104]⟩ : ByteArray) else ⟨#[108, 111, 119]⟩) ++ (⟨#[32]⟩ : ByteArray) ++ decB l ++ (⟨#[32]⟩ : ByteArray) ++ decB m

/-- the text of what is known -/
def knT (o l m : Int) (ps : List Pr) (b last : Int) : ByteArray := joinB ⟨#[59]⟩ [setT o l m, decB b, decB last, orD (joinB ⟨#[44]⟩ (ps.map prT))]

/-- a reader's text -/
def rdT (o l m : Int) (ps : List Pr) (b last : Int) (s : ByteArray) (z c e : Int) : ByteArray := joinB ⟨#[124]⟩ [knT o l m ps b last, orD s, decB z, decB c, decB e]

end Go.Proofs.YtmddcbebaijjkaaGreatDoor
