/- Plain: texts cut at a byte, and joined again; numbers read from texts. -/
import Derived.Test.YtmddcbebaijjkaaGreatDoorFks
import Derived.Lib.SplitLaws
import Derived.Lib.AtoiAll
namespace Go.Proofs.YtmddcbebaijjkaaGreatDoor
open Go.RowKit
set_option linter.unusedVariables false
set_option linter.unusedSimpArgs false

/-- a list of bytes, cut at every byte c -/
def cutLs (c : UInt8) : List UInt8 → List (List UInt8)
  | [] => [[]]
  | x :: r => if x = c then [] :: cutLs c r else
    match cutLs c r with
    | [] => [[x]]
    | y :: ys => (x :: y) :: ys

theorem cutLs_none {c : UInt8} : ∀ {s : List UInt8}, (∀ x ∈ s, x ≠ c) → cutLs c s = [s]
  | [], _ => rfl
  | x :: r, h => by
    rw [cutLs, if_neg (h x (by simp)), cutLs_none (fun y hy => h y (by simp [hy]))]

theorem cutLs_hit {c : UInt8} {r : List UInt8} : ∀ {a : List UInt8}, (∀ x ∈ a, x ≠ c) → cutLs c (a ++ c :: r) = a :: cutLs c r
  | [], _ => by rw [List.nil_append, cutLs, if_pos rfl]
  | x :: a, h => by
    rw [List.cons_append, cutLs, if_neg (h x (by simp)), cutLs_hit (fun y hy => h y (by simp [hy]))]

theorem cutLs_split (c : UInt8) : ∀ (s : List UInt8), Lib.splitK [c] 0 (s.count c) s = cutLs c s
  | [] => rfl
  | x :: r => by
    have ih := cutLs_split c r
    have hix : Lib.index (x :: r) [c] = if x = c then 0 else if Lib.index r [c] == -1 then -1 else Lib.index r [c] + 1 := by
      rw [Lib.index]
      by_cases e : x = c
      · subst e; simp [List.isPrefixOf]
      · simp [List.isPrefixOf, e, Ne.symm e]
    by_cases e : x = c
    · subst e
      rw [if_pos rfl] at hix
      rw [cutLs, if_pos rfl, List.count_cons_self, Lib.splitK, hix, if_neg (by decide), ← ih]
      rfl
    · rw [if_neg e] at hix
      rw [cutLs, if_neg e, List.count_cons_of_ne (by simpa using e), ← ih]
      cases hk : r.count c with
      | zero => rfl
      | succ k =>
        rw [Lib.splitK, Lib.splitK, hix]
        by_cases hm : Lib.index r [c] = -1
        · rw [hm]; rfl
        · have hge := Lib.index_ge r [c]
          obtain ⟨j, hj⟩ : ∃ j : Nat, Lib.index r [c] = j := ⟨(Lib.index r [c]).toNat, by omega⟩
          have hb : (Lib.index r [c] == -1) = false := by simpa using hm
          have hb2 : (((j : Int) + 1) == -1) = false := by simp; omega
          rw [hb, hj]
          simp only [Bool.false_eq_true, if_false, hb2, hj, hb]
          have e1 : ((j : Int) + 1).toNat = j + 1 := by omega
          rw [e1, Int.toNat_natCast]
          rfl

/-- a text, cut at every byte c -/
def cutB (c : UInt8) (s : ByteArray) : List ByteArray := (cutLs c s.data.toList).map fun l => ⟨l.toArray⟩

theorem lst_ba (s : ByteArray) : (⟨s.data.toList.toArray⟩ : ByteArray) = s := by cases s; simp

theorem cutB_none {c : UInt8} {s : ByteArray} (h : ∀ x ∈ s.data.toList, x ≠ c) : cutB c s = [s] := by
  unfold cutB
  rw [cutLs_none h, List.map_cons, List.map_nil, lst_ba]

theorem cutB_hit {c : UInt8} {a r : ByteArray} (h : ∀ x ∈ a.data.toList, x ≠ c) : cutB c (a ++ (⟨#[c]⟩ : ByteArray) ++ r) = a :: cutB c r := by
  unfold cutB
  have e : (a ++ (⟨#[c]⟩ : ByteArray) ++ r).data.toList = a.data.toList ++ c :: r.data.toList := by simp
  rw [e, cutLs_hit h, List.map_cons, lst_ba]

theorem cutB_joinB {c : UInt8} : ∀ {xs : List ByteArray}, xs ≠ [] → (∀ x ∈ xs, ∀ y ∈ x.data.toList, y ≠ c) → cutB c (joinB ⟨#[c]⟩ xs) = xs
  | [], h, _ => absurd rfl h
  | [x], _, h => cutB_none (h x (by simp))
  | x :: y :: r, _, h => by
    rw [joinB, cutB_hit (h x (by simp)), cutB_joinB (by simp) (fun z hz => h z (by simp at hz ⊢; right; exact hz))]

theorem cutLs_pos (c : UInt8) : ∀ s : List UInt8, cutLs c s ≠ []
  | [] => by simp [cutLs]
  | x :: r => by
    rw [cutLs]
    split
    · simp
    · split <;> simp

theorem cutLs_back (c : UInt8) : ∀ s : List UInt8, Lib.join (cutLs c s) [c] = s
  | [] => rfl
  | x :: r => by
    have ih := cutLs_back c r
    rw [cutLs]
    split
    · rename_i e
      subst e
      cases hq : cutLs x r with
      | nil => exact absurd hq (cutLs_pos x r)
      | cons y ys =>
        rw [hq] at ih
        rw [← ih]
        simp [Lib.join]
    · cases hq : cutLs c r with
      | nil => exact absurd hq (cutLs_pos c r)
      | cons y ys =>
        rw [hq] at ih
        show Lib.join ((x :: y) :: ys) [c] = x :: r
        rw [← ih]
        cases ys <;> simp [Lib.join]

theorem joinB_cutB (c : UInt8) (s : ByteArray) : joinB ⟨#[c]⟩ (cutB c s) = s := by
  rw [← joinB_lib]
  have e : (cutB c s).map (·.data.toList) = cutLs c s.data.toList := by
    unfold cutB
    rw [List.map_map]
    conv => rhs; rw [← List.map_id (cutLs c s.data.toList)]
    exact List.map_congr_left fun l _ => by simp
  have h := cutLs_back c s.data.toList
  rw [e]
  show (⟨(Lib.join (cutLs c s.data.toList) [c]).toArray⟩ : ByteArray) = s
  rw [h, lst_ba]

theorem cutB_split (c : UInt8) (s : ByteArray) : Lib.splitB ⟨#[c]⟩ 0 (Lib.countB s ⟨#[c]⟩) s = cutB c s := by
  have h1 := Lib.splitB_data ⟨#[c]⟩ 0 (Lib.countB s ⟨#[c]⟩) s
  have h2 : Lib.countB s ⟨#[c]⟩ = s.data.toList.count c := Lib.count_one c s.data.toList
  rw [h2] at h1 ⊢
  have h3 := cutLs_split c s.data.toList
  have h4 : (Lib.splitB ⟨#[c]⟩ 0 (s.data.toList.count c) s).map (·.data.toList) = cutLs c s.data.toList := by rw [h1]; exact h3
  unfold cutB
  rw [← h4, List.map_map]
  conv => lhs; rw [← List.map_id (Lib.splitB ⟨#[c]⟩ 0 (s.data.toList.count c) s)]
  exact List.map_congr_left fun x _ => by simp [lst_ba]

/-! ### Numbers -/

theorem dig_all : ∀ (n : Nat), ∀ x ∈ Lib.decDigits n, 48 ≤ x.toNat ∧ x.toNat ≤ 57 := by
  intro n
  induction n using Nat.strongRecOn with
  | ind n ih =>
    intro x hx
    rw [Lib.decDigits] at hx
    split at hx
    · rename_i h
      rw [List.mem_singleton] at hx
      subst hx
      rw [UInt8.toNat_ofNat']
      omega
    · rename_i h
      rcases List.mem_append.1 hx with h1 | h1
      · exact ih (n / 10) (by omega) x h1
      · rw [List.mem_singleton] at h1
        subst h1
        rw [UInt8.toNat_ofNat']
        omega

theorem decB_byte {n : Int} {x : UInt8} (h : x ∈ (decB n).data.toList) : x.toNat = 45 ∨ (48 ≤ x.toNat ∧ x.toNat ≤ 57) := by
  unfold decB Lib.itoa at h
  split at h
  · simp at h
    rcases h with h | h
    · exact .inl (by rw [h]; rfl)
    · exact .inr (dig_all _ x h)
  · exact .inr (dig_all _ x (by simpa using h))

theorem par_app : ∀ (a b : List UInt8) (acc u : Nat), Lib.parseUint10 acc a = .ok u → Lib.parseUint10 acc (a ++ b) = Lib.parseUint10 u b
  | [], b, acc, u, h => by
    simp only [Lib.parseUint10] at h
    injection h with h
    rw [h]; rfl
  | x :: a, b, acc, u, h => by
    simp only [Lib.parseUint10] at h
    rw [List.cons_append]
    simp only [Lib.parseUint10]
    split at h
    · rename_i h1
      rw [if_pos h1]
      split at h
      · cases h
      · rename_i h2
        rw [if_neg h2]
        split at h
        · cases h
        · rename_i h3
          rw [if_neg h3]
          exact par_app a b _ u h
    · cases h

theorem par_dig : ∀ (n : Nat), n < 18446744073709551616 → Lib.parseUint10 0 (Lib.decDigits n) = .ok n := by
  intro n
  induction n using Nat.strongRecOn with
  | ind n ih =>
    intro hn
    rw [Lib.decDigits]
    split
    · rename_i h
      have e : (UInt8.ofNat (48 + n)).toNat = 48 + n := by rw [UInt8.toNat_ofNat']; omega
      simp only [Lib.parseUint10]
      rw [e, if_pos (by omega), if_neg (by omega), if_neg (by omega)]
      congr 1
      omega
    · rename_i h
      rw [par_app _ _ _ _ (ih (n / 10) (by omega) (by omega))]
      have e : (UInt8.ofNat (48 + n % 10)).toNat = 48 + n % 10 := by rw [UInt8.toNat_ofNat']; omega
      simp only [Lib.parseUint10]
      rw [e, if_pos (by omega), if_neg (by omega), if_neg (by omega)]
      congr 1
      omega

theorem dig_ne (n : Nat) : Lib.decDigits n ≠ [] := by
  rw [Lib.decDigits]
  split <;> simp

theorem atoi_dec {n : Int} (h0 : -9223372036854775808 ≤ n) (h1 : n ≤ 9223372036854775807) : Lib.atoiAll (decB n).data.toList = .ok n := by
  have hm : ∀ k : Nat, k < 18446744073709551616 → Lib.parseMag (Lib.decDigits k) = .ok k := fun k hk => by
    unfold Lib.parseMag
    rw [if_neg (dig_ne k)]
    exact par_dig k hk
  unfold decB Lib.itoa
  split
  · rename_i h
    show Lib.atoiAll (45 :: Lib.decDigits n.natAbs) = _
    unfold Lib.atoiAll
    simp only
    rw [if_pos (show (45 : UInt8).toNat = 43 ∨ (45 : UInt8).toNat = 45 from .inr rfl), hm _ (by omega)]
    simp only
    rw [if_neg (fun hh => hh.1 rfl), if_neg (fun hh => by have := hh.2; omega), if_pos (show (45 : UInt8).toNat = 45 from rfl)]
    congr 1
    omega
  · rename_i h
    show Lib.atoiAll (Lib.decDigits n.toNat) = _
    cases hd : Lib.decDigits n.toNat with
    | nil => exact absurd hd (dig_ne _)
    | cons x r =>
      have hx := dig_all n.toNat x (by rw [hd]; simp)
      unfold Lib.atoiAll
      simp only
      rw [if_neg (show ¬ (x.toNat = 43 ∨ x.toNat = 45) by omega), ← hd, hm _ (by omega)]
      simp only
      rw [if_neg (fun hh => by have := hh.2; omega), if_neg (fun hh => by have := hh.1; omega), if_neg (by omega)]
      congr 1
      omega

theorem decB_inj {n k : Int} (h0 : -9223372036854775808 ≤ n) (h1 : n ≤ 9223372036854775807) (k0 : -9223372036854775808 ≤ k) (k1 : k ≤ 9223372036854775807) (h : decB n = decB k) : n = k := by
  have e := atoi_dec h0 h1
  rw [h, atoi_dec k0 k1] at e
  injection e with e
  exact e.symm

end Go.Proofs.YtmddcbebaijjkaaGreatDoor
