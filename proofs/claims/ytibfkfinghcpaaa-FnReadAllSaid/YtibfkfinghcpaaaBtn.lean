/- Numbers of bits: the plain forms, and the walks of bitsNumber and l1Number. -/
import Derived.Test.YtibfkfinghcpaaaBtu
namespace Go.Proofs.Ytibfkfinghcpaaa
open Go.RowKit
set_option linter.unusedVariables false
set_option linter.unusedSimpArgs false

/-- a bit's value -/
def bv1 (b : UInt8) : Int := if b = 49 then 1 else 0

/-- digits, the one of highest value first -/
def hor (l : List UInt8) : Int := l.foldl (fun n b => 2 * n + bv1 b) 0

theorem hor_snoc (l : List UInt8) (b : UInt8) : hor (l ++ [b]) = 2 * hor l + bv1 b := by simp [hor]

theorem hor_fold : ∀ (l : List UInt8) (n : Int), l.foldl (fun n b => 2 * n + bv1 b) n = n * 2 ^ l.length + hor l
  | [], n => by simp [hor]
  | b :: l, n => by
    rw [List.foldl_cons, hor_fold l, show hor (b :: l) = l.foldl (fun n b => 2 * n + bv1 b) (2 * 0 + bv1 b) from rfl, hor_fold l, List.length_cons, Int.pow_succ]
    rw [Int.add_mul, Int.add_mul, Int.mul_zero, Int.zero_mul, Int.zero_add, Int.add_assoc, Int.mul_comm 2 n, Int.mul_assoc, Int.mul_comm 2 (2 ^ l.length)]

theorem hor_cons (b : UInt8) (l : List UInt8) : hor (b :: l) = bv1 b * 2 ^ l.length + hor l := by
  show l.foldl (fun n b => 2 * n + bv1 b) (2 * 0 + bv1 b) = _
  rw [hor_fold, show (2 * 0 + bv1 b : Int) = bv1 b by omega]

theorem bv1_bd (b : UInt8) : 0 ≤ bv1 b ∧ bv1 b ≤ 1 := by unfold bv1; split <;> omega

theorem hor_bd : ∀ l : List UInt8, 0 ≤ hor l ∧ hor l < 2 ^ l.length
  | [] => by simp [hor]
  | b :: l => by
    have := bv1_bd b
    have ih := hor_bd l
    rw [hor_cons, List.length_cons, Int.pow_succ]
    have hp : (0 : Int) ≤ 2 ^ l.length := by have := ih.1; have := ih.2; omega
    rcases (by omega : bv1 b = 0 ∨ bv1 b = 1) with e | e <;> rw [e] <;> omega

theorem hor_zeros : ∀ (n : Nat) (l : List UInt8), hor (l ++ List.replicate n 48) = hor l * 2 ^ n
  | 0, l => by simp
  | n + 1, l => by
    rw [List.replicate_succ', ← List.append_assoc, hor_snoc, hor_zeros n l, Int.pow_succ]
    rw [show bv1 48 = 0 by decide, Int.add_zero, Int.mul_comm 2, Int.mul_assoc]

theorem zeros_hor (n : Nat) (l : List UInt8) : hor (List.replicate n 48 ++ l) = hor l := by
  induction n with
  | zero => simp
  | succ n ih =>
    rw [List.replicate_succ, List.cons_append, hor_cons, ih, show bv1 48 = 0 by decide]
    omega

/-- the number with some bits in an order -/
def numL (o : Int) (bs : List UInt8) : Int := hor (if o = 1 then bs else bs.reverse)

/-- the part of it that the first k bits make -/
def numK (o : Int) (w : Nat) (bs : List UInt8) (k : Nat) : Int := if o = 1 then hor (bs.take k) * 2 ^ (w - k) else hor (bs.take k).reverse

theorem numK_zero (o : Int) (w : Nat) (bs : List UInt8) : numK o w bs 0 = 0 := by unfold numK; split <;> simp [hor]

theorem numK_all (o : Int) (bs : List UInt8) : numK o bs.length bs bs.length = numL o bs := by
  unfold numK numL
  split <;> simp

theorem numK_step {o : Int} {w : Nat} {bs : List UInt8} {k : Nat} {b : UInt8} (hk : bs[k]? = some b) (hw : k < w) : numK o w bs (k + 1) = numK o w bs k + bv1 b * 2 ^ ixB o w k := by
  have ht : bs.take (k + 1) = bs.take k ++ [b] := by rw [List.take_add_one, hk]; rfl
  have hl : (bs.take k).length = k := by rw [List.length_take]; have := (List.getElem?_eq_some_iff.1 hk).1; omega
  unfold numK ixB
  split
  · rw [ht, hor_snoc, show w - k = (w - (k + 1)) + 1 by omega, Int.pow_succ, Int.add_mul, show w - 1 - k = w - (k + 1) by omega]
    rw [Int.mul_comm 2 (hor _), Int.mul_assoc, Int.mul_comm 2 (2 ^ _)]
  · rw [ht, List.reverse_append, List.reverse_singleton, List.singleton_append, hor_cons, List.length_reverse, hl]
    omega

theorem pow_le {a b : Nat} (h : a ≤ b) : (2 : Int) ^ a ≤ 2 ^ b := by
  have := Nat.pow_le_pow_right (n := 2) (by omega) h
  exact_mod_cast this

theorem numK_bd {o : Int} {w : Nat} {bs : List UInt8} {k : Nat} (hk : k ≤ bs.length) (hw : bs.length ≤ w) (h10 : w ≤ 10) : 0 ≤ numK o w bs k ∧ numK o w bs k < 1024 := by
  have hl : (bs.take k).length = k := by rw [List.length_take]; omega
  have hp : (2 : Int) ^ w ≤ 1024 := pow_le h10
  unfold numK
  split
  · have h := hor_bd (bs.take k)
    rw [hl] at h
    have hq : (0 : Int) < 2 ^ (w - k) := by have : (0 : Nat) < 2 ^ (w - k) := Nat.pow_pos (by omega); exact_mod_cast this
    refine ⟨Int.mul_nonneg h.1 (by omega), ?_⟩
    have h2 : hor (bs.take k) * 2 ^ (w - k) < 2 ^ k * 2 ^ (w - k) := Int.mul_lt_mul_of_pos_right h.2 hq
    rw [← Int.pow_add, show k + (w - k) = w by omega] at h2
    omega
  · have h := hor_bd (bs.take k).reverse
    rw [List.length_reverse, hl] at h
    have := pow_le (a := k) (b := 10) (by omega)
    omega

set_option maxRecDepth 100000 in
set_option maxHeartbeats 2000000 in
theorem bitsNumber_any (o : Int) (s : ByteArray) (w : World) (hs : s.size ≤ 10) :
    Calls Try.prog 129 #[.int .i64 o, .string s] w (Ret w (.int .i64 (numL o s.data.toList))) := by
  go_enter Try.func129, Try.ntmps129
  go_wp2
  go_loopw [5, 9] (fun t q wr => ∃ (k : Nat), k ≤ s.size ∧ q = .int .i64 k ∧ t = .int .i64 (numK o s.size s.data.toList k) ∧ More w wr) (fun _ q _ => s.size - (intOf q).toNat)
  case atStart => exact ⟨0, Nat.zero_le _, rfl, by rw [numK_zero], More.refl _⟩
  case round =>
    obtain ⟨k, hk, rfl, rfl, x, rfl⟩ := hrel
    rcases dec (k < s.size) with ⟨hlt, v1⟩ | ⟨hlt, v1⟩
    · have hget : s.data.toList[k]? = some s[k] := by rw [List.getElem?_eq_getElem (by rw [bytes_len]; exact hlt), bytes_get hlt]
      have HST := Lib.hid (numK_step (o := o) (w := s.size) hget hlt)
      have hbd := numK_bd (o := o) (w := s.size) (bs := s.data.toList) (k := k) (by rw [bytes_len]; omega) (by rw [bytes_len]; exact Nat.le_refl _) hs
      have hbd2 := numK_bd (o := o) (w := s.size) (bs := s.data.toList) (k := k + 1) (by rw [bytes_len]; omega) (by rw [bytes_len]; exact Nat.le_refl _) hs
      have hix := ixB_lt (o := o) hlt
      have hcall := fun (W : World) => place_any o k s.size W hlt hs
      obtain ⟨p1, p2⟩ := pow_bd (k := ixB o s.size k) (by omega)
      generalize hm2 : numK o s.size s.data.toList (k + 1) = m2 at *
      have HM2 := Lib.hid hm2
      clear hm2
      generalize numK o s.size s.data.toList k = m1 at *
      generalize (2 : Int) ^ ixB o s.size k = p at *
      by_cases hb : s[k] = 49
      · have v2 : ((s[k].toNat : Int) == 49) = true := by rw [hb]; rfl
        have HM := Lib.hid (show m1 + p = m2 by have := HST.out; rw [hb, show bv1 49 = 1 by decide] at this; omega)
        clear hb hget
        go_wp2_with (go_at_call 125; refine (hcall _).mono ?_; rintro e w' ⟨rfl, xc, rfl⟩)
        go_roundw
        case rel => exact ⟨k + 1, by omega, by go_num, by rw [HM2.out, ← HM.out], (by repeat (first | exact More.refl _ | apply More.plus | apply More.alloc | apply More.drew | apply More.drewN))⟩
        case measure => simp [intOf]; omega
      · have v2 : ((s[k].toNat : Int) == 49) = false := by
          simp only [beq_eq_false_iff_ne, ne_eq]
          intro q
          exact hb (UInt8.toNat_inj.1 (by have : s[k].toNat = 49 := by omega
                                          rw [this]; rfl))
        have HM := Lib.hid (show m1 = m2 by have := HST.out; rw [show bv1 s[k] = 0 by unfold bv1; rw [if_neg hb]] at this; omega)
        clear hb hget
        go_wp2_with fail
        go_roundw
        case rel => exact ⟨k + 1, by omega, by go_num, by rw [HM2.out, ← HM.out], (by repeat (first | exact More.refl _ | apply More.plus | apply More.alloc | apply More.drew | apply More.drewN))⟩
        case measure => simp [intOf]; omega
    · obtain rfl : k = s.size := by omega
      have HA := Lib.hid (numK_all o s.data.toList)
      go_wp2
      go_ret
      exact ret_of (by rw [← HA.out, bytes_len]; simp) (by repeat (first | exact More.refl _ | apply More.plus | apply More.alloc | apply More.drew | apply More.drewN))

/-- only bits -/
def BV (bs : List UInt8) : Prop := ∀ b, b ∈ bs → b = 48 ∨ b = 49

theorem numL_hor (o : Int) (bs : List UInt8) : numL o bs = hor (if o = 1 then bs else bs.reverse) := rfl

set_option maxRecDepth 100000 in
set_option maxHeartbeats 2000000 in
theorem l1Number_any (o : Int) (s : ByteArray) (w : World) (ho : o = 0 ∨ o = 1) (hs : s.size ≤ 10) (hbv : BV s.data.toList) :
    Calls Try.prog 66 #[.int .i64 o, .string s] w (Ret w (.int .i64 (numL o s.data.toList))) := by
  obtain ⟨L, hL⟩ : ∃ L, (if o = 1 then s.data.toList else s.data.toList.reverse) = L := ⟨_, rfl⟩
  have hLl : L.length = s.size := by rw [← hL]; split <;> simp
  have HL := Lib.hid hL
  have HBV := Lib.hid hbv
  have HLL := Lib.hid hLl
  clear hL hbv hLl
  go_enter Try.func66, Try.ntmps66
  go_wp2
  go_loopw [5, 6] (fun t q wr => ∃ (k : Nat), k ≤ s.size ∧ q = .int .i64 k ∧ t = .int .i64 (hor (L.take k)) ∧ More w wr) (fun _ q _ => s.size - (intOf q).toNat)
  case atStart => exact ⟨0, Nat.zero_le _, rfl, rfl, More.refl _⟩
  case round =>
    obtain ⟨k, hk, rfl, rfl, x, rfl⟩ := hrel
    rcases dec (k < s.size) with ⟨hlt, v1⟩ | ⟨hlt, v1⟩
    · have hbd := hor_bd (L.take k)
      have hll : (L.take k).length = k := by rw [List.length_take, HLL.out]; omega
      rw [hll] at hbd
      have hp := pow_le (a := k) (b := 10) (by omega)
      have hb1 : hor (L.take k) < 1024 := by omega
      have hb0 := hbd.1
      clear hbd hp hll
      rcases ho with rfl | rfl
      · have hidx : s.size - 1 - k < s.size := by omega
        have HG := Lib.hid (show L[k]? = some s[s.size - 1 - k] by
          rw [← HL.out, if_neg (by omega), List.getElem?_reverse (by rw [bytes_len]; exact hlt), bytes_len, List.getElem?_eq_getElem (by rw [bytes_len]; exact hidx), bytes_get hidx])
        have HT := Lib.hid (show L.take (k + 1) = L.take k ++ [s[s.size - 1 - k]] by rw [List.take_add_one, HG.out]; rfl)
        have hcase : s[s.size - 1 - k] = 48 ∨ s[s.size - 1 - k] = 49 := HBV.out _ (by rw [← bytes_get hidx]; exact List.getElem_mem _)
        rcases hcase with hcase | hcase
        · have hv : s[s.size - 1 - k].toNat = 48 := by rw [hcase]; rfl
          have HN := Lib.hid (show hor (L.take (k + 1)) = 2 * hor (L.take k) by rw [HT.out, hor_snoc, hcase, show bv1 48 = 0 by decide, Int.add_zero])
          clear hcase
          go_wp2
          go_roundw
          case rel => exact ⟨k + 1, by omega, by go_num, int_val (by rw [HN.out]; try omega), (by repeat (first | exact More.refl _ | apply More.plus | apply More.alloc | apply More.drew | apply More.drewN))⟩
          case measure => simp [intOf]; omega
        · have hv : s[s.size - 1 - k].toNat = 49 := by rw [hcase]; rfl
          have HN := Lib.hid (show hor (L.take (k + 1)) = 2 * hor (L.take k) + 1 by rw [HT.out, hor_snoc, hcase, show bv1 49 = 1 by decide])
          clear hcase
          go_wp2
          go_roundw
          case rel => exact ⟨k + 1, by omega, by go_num, int_val (by rw [HN.out]; try omega), (by repeat (first | exact More.refl _ | apply More.plus | apply More.alloc | apply More.drew | apply More.drewN))⟩
          case measure => simp [intOf]; omega
      · have HG := Lib.hid (show L[k]? = some s[k] by
          rw [← HL.out, if_pos rfl, List.getElem?_eq_getElem (by rw [bytes_len]; exact hlt), bytes_get hlt])
        have HT := Lib.hid (show L.take (k + 1) = L.take k ++ [s[k]] by rw [List.take_add_one, HG.out]; rfl)
        have hcase : s[k] = 48 ∨ s[k] = 49 := HBV.out _ (by rw [← bytes_get hlt]; exact List.getElem_mem _)
        rcases hcase with hcase | hcase
        · have hv : s[k].toNat = 48 := by rw [hcase]; rfl
          have HN := Lib.hid (show hor (L.take (k + 1)) = 2 * hor (L.take k) by rw [HT.out, hor_snoc, hcase, show bv1 48 = 0 by decide, Int.add_zero])
          clear hcase
          go_wp2
          go_roundw
          case rel => exact ⟨k + 1, by omega, by go_num, int_val (by rw [HN.out]; try omega), (by repeat (first | exact More.refl _ | apply More.plus | apply More.alloc | apply More.drew | apply More.drewN))⟩
          case measure => simp [intOf]; omega
        · have hv : s[k].toNat = 49 := by rw [hcase]; rfl
          have HN := Lib.hid (show hor (L.take (k + 1)) = 2 * hor (L.take k) + 1 by rw [HT.out, hor_snoc, hcase, show bv1 49 = 1 by decide])
          clear hcase
          go_wp2
          go_roundw
          case rel => exact ⟨k + 1, by omega, by go_num, int_val (by rw [HN.out]; try omega), (by repeat (first | exact More.refl _ | apply More.plus | apply More.alloc | apply More.drew | apply More.drewN))⟩
          case measure => simp [intOf]; omega
    · obtain rfl : k = s.size := by omega
      go_wp2
      go_ret
      exact ret_of (by rw [numL_hor, HL.out, List.take_of_length_le (by rw [HLL.out]; exact Nat.le_refl _)]; simp) (by repeat (first | exact More.refl _ | apply More.plus | apply More.alloc | apply More.drew | apply More.drewN))

end Go.Proofs.Ytibfkfinghcpaaa
