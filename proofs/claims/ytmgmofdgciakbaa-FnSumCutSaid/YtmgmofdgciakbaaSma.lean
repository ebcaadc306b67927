/- Checksums: the walks of SumOf (program and reference) and DrawSumOf; how the sum turns with one byte, and with two neighbors, in plain Lean. -/
import Derived.Test.YtmgmofdgciakbaaDrb
namespace Go.Proofs.Ytmgmofdgciakbaa
open Go.RowKit
set_option linter.unusedVariables false
set_option linter.unusedSimpArgs false

def sumStep (p : Int × Int) (c : UInt8) : Int × Int := ((p.1 + (c.toNat : Int)) % 255, (p.2 + (p.1 + (c.toNat : Int)) % 255) % 255)

def sumP (l : List UInt8) : Int × Int := l.foldl sumStep (0, 0)

def sumOf (l : List UInt8) : Int := 256 * (sumP l).2 + (sumP l).1

theorem sumP_snoc (l : List UInt8) (c : UInt8) : sumP (l ++ [c]) = sumStep (sumP l) c := by simp [sumP]

theorem sumP_bd (l : List UInt8) : 0 ≤ (sumP l).1 ∧ (sumP l).1 ≤ 254 ∧ 0 ≤ (sumP l).2 ∧ (sumP l).2 ≤ 254 := by
  have key : ∀ (l : List UInt8) (p : Int × Int), (0 ≤ p.1 ∧ p.1 ≤ 254 ∧ 0 ≤ p.2 ∧ p.2 ≤ 254) →
      0 ≤ (l.foldl sumStep p).1 ∧ (l.foldl sumStep p).1 ≤ 254 ∧ 0 ≤ (l.foldl sumStep p).2 ∧ (l.foldl sumStep p).2 ≤ 254 := by
    intro l
    induction l with
    | nil => intro p h; exact h
    | cons c l ih => intro p h; apply ih; simp only [sumStep]; omega
  exact key l (0, 0) (by decide)

set_option maxHeartbeats 400000 in
theorem implSumOf_any (s : ByteArray) (w : World) (hs : s.size ≤ 1000000) :
    Calls Try.prog 6 #[.string s] w (Ret w (.int .i64 (sumOf s.data.toList))) := by
  go_enter Try.func6, Try.ntmps6
  go_wp2
  go_loop [3, 4, 8] (fun a b i => ∃ k : Nat, k ≤ s.size ∧ i = .int .i64 k ∧ a = .int .i64 (sumP (s.data.toList.take k)).1 ∧ b = .int .i64 (sumP (s.data.toList.take k)).2) (fun _ _ i => s.size - (intOf i).toNat)
  case atStart => exact ⟨0, Nat.zero_le _, rfl, rfl, rfl⟩
  case round =>
    obtain ⟨k, hk, rfl, rfl, rfl⟩ := hrel
    obtain ⟨hb1, hb2, hb3, hb4⟩ := sumP_bd (s.data.toList.take k)
    by_cases hlt : k < s.size
    · have hc : s[k].toNat ≤ 255 := by have := s[k].toNat_lt; omega
      have HS := Lib.hid (show sumP (s.data.toList.take (k + 1)) = sumStep (sumP (s.data.toList.take k)) s[k] by rw [take_get hlt, sumP_snoc])
      go_wp2
      all_goals
        go_round
        case rel => exact ⟨k + 1, by omega, by go_num, by rw [HS.out]; rfl, by rw [HS.out]; rfl⟩
        case measure => simp [intOf]; omega
    · go_wp2
      go_ret
      exact ret_of (int_val (by rw [List.take_of_length_le (by simp; omega)]; rfl)) (by repeat (first | exact More.refl _ | apply More.plus | apply More.alloc | apply More.drew | apply More.drewN))

set_option maxHeartbeats 400000 in
theorem specSumOf_any (s : ByteArray) (w : World) (hs : s.size ≤ 1000000) :
    Calls Try.prog 7 #[.string s] w (Ret w (.int .i64 (sumOf s.data.toList))) := by
  go_enter Try.func7, Try.ntmps7
  go_wp2
  go_loop [3, 4, 5] (fun a b i => ∃ k : Nat, k ≤ s.size ∧ i = .int .i64 k ∧ a = .int .i64 (sumP (s.data.toList.take k)).1 ∧ b = .int .i64 (sumP (s.data.toList.take k)).2) (fun _ _ i => s.size - (intOf i).toNat)
  case atStart => exact ⟨0, Nat.zero_le _, rfl, rfl, rfl⟩
  case round =>
    obtain ⟨k, hk, rfl, rfl, rfl⟩ := hrel
    obtain ⟨hb1, hb2, hb3, hb4⟩ := sumP_bd (s.data.toList.take k)
    by_cases hlt : k < s.size
    · have hc : s[k].toNat ≤ 255 := by have := s[k].toNat_lt; omega
      have HS := Lib.hid (show sumP (s.data.toList.take (k + 1)) = sumStep (sumP (s.data.toList.take k)) s[k] by rw [take_get hlt, sumP_snoc])
      go_wp2
      all_goals
        go_round
        case rel => exact ⟨k + 1, by omega, by go_num, by rw [HS.out]; rfl, by rw [HS.out]; rfl⟩
        case measure => simp [intOf]; omega
    · go_wp2
      go_ret
      exact ret_of (int_val (by rw [List.take_of_length_le (by simp; omega)]; rfl)) (by repeat (first | exact More.refl _ | apply More.plus | apply More.alloc | apply More.drew | apply More.drewN))

/-! ### How the sum turns -/

theorem sumOf_low (l : List UInt8) : sumOf l % 256 = (sumP l).1 ∧ sumOf l / 256 = (sumP l).2 := by
  have h := sumP_bd l
  unfold sumOf
  omega

theorem sum_eq {l m : List UInt8} : sumOf l = sumOf m ↔ (sumP l).1 = (sumP m).1 ∧ (sumP l).2 = (sumP m).2 := by
  have h := sumP_bd l
  have h2 := sumP_bd m
  unfold sumOf
  omega

/-- two walks from different beginnings -/
theorem fold_diff : ∀ (l : List UInt8) (p q : Int × Int), ∃ a b : Int, (l.foldl sumStep p).1 - (l.foldl sumStep q).1 = p.1 - q.1 + 255 * a ∧ (l.foldl sumStep p).2 - (l.foldl sumStep q).2 = p.2 - q.2 + (p.1 - q.1) * l.length + 255 * b
  | [], p, q => ⟨0, 0, by simp, by simp⟩
  | c :: l, p, q => by
    obtain ⟨a, b, h1, h2⟩ := fold_diff l (sumStep p c) (sumStep q c)
    obtain ⟨a0, ha⟩ : ∃ a0 : Int, (sumStep p c).1 - (sumStep q c).1 = p.1 - q.1 + 255 * a0 := ⟨(q.1 + (c.toNat : Int)) / 255 - (p.1 + (c.toNat : Int)) / 255, by simp only [sumStep]; omega⟩
    obtain ⟨b0, hb⟩ : ∃ b0 : Int, (sumStep p c).2 - (sumStep q c).2 = p.2 - q.2 + (p.1 - q.1) + 255 * b0 :=
      ⟨(q.2 + (q.1 + (c.toNat : Int)) % 255) / 255 - (p.2 + (p.1 + (c.toNat : Int)) % 255) / 255 + ((q.1 + (c.toNat : Int)) / 255 - (p.1 + (c.toNat : Int)) / 255), by simp only [sumStep]; omega⟩
    refine ⟨a + a0, b + b0 + a0 * l.length, by rw [List.foldl_cons, List.foldl_cons, h1, ha]; omega, ?_⟩
    rw [List.foldl_cons, List.foldl_cons, h2, hb, ha, List.length_cons, Int.natCast_add, Int.add_mul (p.1 - q.1), Int.mul_add (p.1 - q.1), Int.mul_assoc]
    generalize (p.1 - q.1) * (l.length : Int) = u
    generalize a0 * (l.length : Int) = v
    omega

theorem sum_split (l : List UInt8) (k : Nat) : sumP l = (l.drop k).foldl sumStep (sumP (l.take k)) := by
  unfold sumP
  rw [← List.foldl_append, List.take_append_drop]

theorem sum_change {l : List UInt8} {k : Nat} {c b : UInt8} (hc : l[k]? = some c) : sumOf (l.take k ++ [b] ++ l.drop (k + 1)) = sumOf l ↔ ((b.toNat : Int) - c.toNat) % 255 = 0 := by
  have hk := (List.getElem?_eq_some_iff.1 hc).1
  have e1 : sumP (l.take k ++ [b] ++ l.drop (k + 1)) = (l.drop (k + 1)).foldl sumStep (sumStep (sumP (l.take k)) b) := by
    unfold sumP; rw [List.foldl_append, List.foldl_append]; rfl
  have e2 : sumP l = (l.drop (k + 1)).foldl sumStep (sumStep (sumP (l.take k)) c) := by
    rw [sum_split l (k + 1), List.take_add_one, hc]
    show (l.drop (k + 1)).foldl sumStep (sumP (l.take k ++ [c])) = _
    rw [sumP_snoc]
  rw [sum_eq]
  constructor
  · rintro ⟨h, _⟩
    obtain ⟨a, _, h1, _⟩ := fold_diff (l.drop (k + 1)) (sumStep (sumP (l.take k)) b) (sumStep (sumP (l.take k)) c)
    rw [← e1, ← e2] at h1
    simp only [sumStep] at h1
    omega
  · intro h
    have : sumStep (sumP (l.take k)) b = sumStep (sumP (l.take k)) c := by
      have h1 : ((sumP (l.take k)).1 + (b.toNat : Int)) % 255 = ((sumP (l.take k)).1 + (c.toNat : Int)) % 255 := by omega
      simp only [sumStep, h1]
    rw [e1, e2, this]
    exact ⟨rfl, rfl⟩

theorem sum_turn {l : List UInt8} {k : Nat} {u v : UInt8} (hu : l[k]? = some u) (hv : l[k + 1]? = some v) : sumOf (l.take k ++ [v] ++ [u] ++ l.drop (k + 2)) = sumOf l ↔ ((v.toNat : Int) - u.toNat) % 255 = 0 := by
  have e1 : sumP (l.take k ++ [v] ++ [u] ++ l.drop (k + 2)) = (l.drop (k + 2)).foldl sumStep (sumStep (sumStep (sumP (l.take k)) v) u) := by
    unfold sumP; rw [List.foldl_append, List.foldl_append, List.foldl_append]; rfl
  have e2 : sumP l = (l.drop (k + 2)).foldl sumStep (sumStep (sumStep (sumP (l.take k)) u) v) := by
    rw [sum_split l (k + 2), List.take_add_one, hv, List.take_add_one, hu]
    show (l.drop (k + 2)).foldl sumStep (sumP (l.take k ++ [u] ++ [v])) = _
    rw [sumP_snoc, sumP_snoc]
  obtain ⟨a, b, h1, h2⟩ := fold_diff (l.drop (k + 2)) (sumStep (sumStep (sumP (l.take k)) v) u) (sumStep (sumStep (sumP (l.take k)) u) v)
  rw [← e1, ← e2] at h1 h2
  have h3 : (sumStep (sumStep (sumP (l.take k)) v) u).1 = (sumStep (sumStep (sumP (l.take k)) u) v).1 := by simp only [sumStep]; omega
  rw [h3, Int.sub_self, Int.zero_mul] at h2
  rw [h3, Int.sub_self] at h1
  have b1 := sumP_bd (l.take k ++ [v] ++ [u] ++ l.drop (k + 2))
  have b2 := sumP_bd l
  rw [sum_eq]
  generalize sumP (l.take k ++ [v] ++ [u] ++ l.drop (k + 2)) = X at *
  generalize sumP l = Y at *
  simp only [sumStep] at h2
  have b0 := sumP_bd (l.take k)
  generalize sumP (l.take k) = Z at *
  constructor <;> intro h <;> omega

theorem sum_cut (l : List UInt8) (k : Nat) : sumOf l = 256 * ((sumOf (l.take k) / 256 + sumOf (l.take k) % 256 * (l.drop k).length + sumOf (l.drop k) / 256) % 255) + (sumOf (l.take k) % 256 + sumOf (l.drop k) % 256) % 255 := by
  obtain ⟨a, b, h1, h2⟩ := fold_diff (l.drop k) (sumP (l.take k)) (0, 0)
  rw [← sum_split] at h1 h2
  have b1 := sumP_bd l
  have b2 := sumP_bd (l.drop k)
  rw [(sumOf_low _).1, (sumOf_low _).2, (sumOf_low _).1, (sumOf_low _).2]
  have h3 : (l.drop k).foldl sumStep (0, 0) = sumP (l.drop k) := rfl
  rw [h3] at h1 h2
  simp only [Int.sub_zero] at h1 h2
  unfold sumOf
  generalize (sumP (l.take k)).1 * ((l.drop k).length : Int) = P at *
  omega

theorem sum_zero (l : List UInt8) (h : sumOf l % 256 = 0) : sumOf (l ++ [0]) = sumOf l := by
  rw [sum_eq, sumP_snoc]
  have b1 := sumP_bd l
  rw [(sumOf_low l).1] at h
  simp only [sumStep]
  show ((sumP l).1 + 0) % 255 = _ ∧ ((sumP l).2 + ((sumP l).1 + 0) % 255) % 255 = _
  omega

/-- a string that has been drawn -/
def RetDt (w : World) (k : Nat) (e : Ending) (w' : World) : Prop := ∃ s : ByteArray, e = .returned (.string s) ∧ s.size ≤ k ∧ Below w.heap.size w w'

theorem dsrc_below {w w' w'' : World} {B : Nat} {x : Ext} (hx : w' = plus w x) (hB : w.heap.size ≤ B) (hg : Grew (some ⟨B, 0, none⟩) w' w'') : Below w.heap.size w w'' := by
  subst hx
  have h := hg.below (B := w.heap.size) (by simp) (fun X hX => by cases hX; exact hB)
  exact Below.trans (b := plus w x) (by repeat (first | exact Below.refl _ _ | refine below_plus ?_ (by first | omega | (simp <;> omega)) _ | refine Below.alloc ?_ (by first | omega | (simp <;> omega)) _ | refine below_patch ?_ (by omega) _ | refine Below.drew ?_)) h

theorem l1Bytes_at (B n k : Nat) (m : Int) (hm : m = (k : Int)) (w : World) (hd : Dsrc w B n) (hn : n ≤ 900000) (hk : k ≤ 1000) :
    Calls Try.prog 8 #[.pointer (some ⟨B, 0, none⟩), .int .i64 m] w (RetDs w B (n + 1 + k) k) := by
  subst hm
  exact l1Bytes_any B n k w hd hn hk

theorem DrawSumOf_any (a : Option Addr) (cap : Nat) (bs : List UInt8) (w : World) (hr : Rd encB w a cap bs) :
    Calls Try.prog 5 #[.slice a bs.length cap] w (RetDt w 30) := by
  go_enter Try.func5, Try.ntmps5
  go_wp2_with fail
  refine (l9Open_any a cap bs w hr).mono ?_
  rintro e w1 ⟨B, rfl, hd, hB, x, rfl⟩
  go_wp2_with fail
  refine (l1Bytes_at B 0 30 30 rfl _ hd (by omega) (by omega)).mono ?_
  rintro e w2 ⟨s, rfl, hs, hd2, hg⟩
  go_wp2_with fail
  go_ret
  exact ⟨s, rfl, hs, dsrc_below rfl hB hg⟩

end Go.Proofs.Ytmgmofdgciakbaa
