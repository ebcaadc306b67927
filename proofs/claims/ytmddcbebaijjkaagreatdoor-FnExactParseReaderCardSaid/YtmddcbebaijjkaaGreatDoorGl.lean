/- Lemmas and walks, part Gl. -/
import Derived.Test.YtmddcbebaijjkaaGreatDoorGa
import Derived.Lib.ItoaNum
import Derived.Lib.Join
import Derived.Test.YtmddcbebaijjkaaGreatDoorGb
import Derived.Test.YtmddcbebaijjkaaGreatDoorShelf
import Derived.Lib.SmallJoins
import Derived.Lib.ItoaMem
import Derived.Test.YtmddcbebaijjkaaGreatDoorGc
import Derived.Test.YtmddcbebaijjkaaGreatDoorGr

/- Plain: the texts of numbers, settings, pairs and of what is known. -/
namespace Go.Proofs.YtmddcbebaijjkaaGreatDoor
open Go.RowKit
set_option linter.unusedVariables false
set_option linter.unusedSimpArgs false

/-- a number's text -/
def decB (n : Int) : ByteArray := ⟨(Lib.itoa n).toArray⟩

/-- the text of natural numbers -/
def decN (n : Nat) : ByteArray := ⟨(Lib.decDigits n).toArray⟩

theorem decB_nat (n : Nat) : decB n = decN n := by
  unfold decB decN Lib.itoa
  rw [if_neg (by omega)]
  rfl

theorem decB_neg (n : Nat) (h : 0 < n) : decB (-(n : Int)) = (⟨#[45]⟩ : ByteArray) ++ decN n := by
  unfold decB decN Lib.itoa
  rw [if_pos (by omega), Int.natAbs_neg, Int.natAbs_natCast]
  apply ByteArray.ext
  simp

theorem decN_step (n : Nat) (h : 9 < n) : decN n = decN (n / 10) ++ (⟨#[UInt8.ofNat (48 + n % 10)]⟩ : ByteArray) := by
  unfold decN
  rw [Lib.decDigits, dif_neg (by omega)]
  apply ByteArray.ext
  simp

theorem decN_one (n : Nat) (h : n < 10) : decN n = (⟨#[UInt8.ofNat (48 + n)]⟩ : ByteArray) := by
  unfold decN
  rw [Lib.decDigits, dif_pos h]

theorem decN_size : ∀ (k n : Nat), n < 10 ^ (k + 1) → (decN n).size ≤ k + 1
  | 0, n, h => by rw [decN_one n (by simpa using h)]; exact Nat.le_refl 1
  | k + 1, n, h => by
    by_cases h9 : n < 10
    · rw [decN_one n h9]
      show 1 ≤ _
      omega
    · rw [decN_step n (by omega), ByteArray.size_append]
      have := decN_size k (n / 10) (by rw [Nat.div_lt_iff_lt_mul (by omega)]; rw [Nat.pow_succ] at h; exact h)
      show _ + 1 ≤ _
      omega

theorem decB_size {n : Int} (h1 : -1 ≤ n) (h2 : n < 100000) : (decB n).size ≤ 5 := by
  rcases (by omega : n = -1 ∨ 0 ≤ n) with rfl | h
  · rw [show (-1 : Int) = -((1 : Nat) : Int) from rfl, decB_neg 1 (by omega), decN_one 1 (by omega)]
    decide
  · rw [show n = ((n.toNat : Nat) : Int) by omega, decB_nat]
    exact decN_size 4 _ (by omega)

/-- a pair's text -/
def prT (p : Pr) : ByteArray := decB p.p ++ (⟨#[46]⟩ : ByteArray) ++ decB p.b

/-- texts with a text between them -/
def joinB (sep : ByteArray) : List ByteArray → ByteArray
  | [] => ⟨#[]⟩
  | [x] => x
  | x :: y :: r => x ++ sep ++ joinB sep (y :: r)

theorem joinB_lib (sep : ByteArray) : ∀ xs : List ByteArray, (⟨(Lib.join (xs.map (·.data.toList)) sep.data.toList).toArray⟩ : ByteArray) = joinB sep xs
  | [] => rfl
  | [x] => by rw [List.map_cons, List.map_nil, Lib.join_one, joinB]
  | x :: y :: r => by
    have h := joinB_lib sep (y :: r)
    rw [joinB, ← h]
    apply ByteArray.ext
    simp [Lib.join]

theorem joinB_snoc (sep : ByteArray) (z : ByteArray) : ∀ xs : List ByteArray, xs ≠ [] → joinB sep (xs ++ [z]) = joinB sep xs ++ sep ++ z
  | [], h => absurd rfl h
  | [x], _ => rfl
  | x :: y :: r, _ => by
    have h := joinB_snoc sep z (y :: r) (by simp)
    show x ++ sep ++ joinB sep ((y :: r) ++ [z]) = x ++ sep ++ joinB sep (y :: r) ++ sep ++ z
    rw [h]
    simp [ByteArray.append_assoc]

theorem joinB_size (sep : ByteArray) (N : Nat) : ∀ xs : List ByteArray, (∀ x ∈ xs, x.size ≤ N) → (joinB sep xs).size ≤ xs.length * (N + sep.size)
  | [], _ => Nat.zero_le _
  | [x], h => by
    have := h x (by simp)
    simp [joinB]
    omega
  | x :: y :: r, h => by
    have h1 := joinB_size sep N (y :: r) (fun z hz => h z (by simp at hz ⊢; right; exact hz))
    have h2 := h x (by simp)
    rw [joinB, ByteArray.size_append, ByteArray.size_append]
    simp only [List.length_cons] at h1 ⊢
    rw [Nat.succ_mul]
    omega

/-- a text, or a dash in place of the empty one -/
def orD (t : ByteArray) : ByteArray := if t.size = 0 then ⟨#[45]⟩ else t

/-- a setting's text -/
def setT (o l m : Int) : ByteArray := (if o = 1 then (⟨#[104, 105, 103, 104]⟩ : ByteArray) else ⟨#[108, 111, 119]⟩) ++ (⟨#[32]⟩ : ByteArray) ++ decB l ++ (⟨#[32]⟩ : ByteArray) ++ decB m

/-- the text of what is known -/
def knT (o l m : Int) (ps : List Pr) (b last : Int) : ByteArray := joinB ⟨#[59]⟩ [setT o l m, decB b, decB last, orD (joinB ⟨#[44]⟩ (ps.map prT))]

/-- a reader's text -/
def rdT (o l m : Int) (ps : List Pr) (b last : Int) (s : ByteArray) (z c e : Int) : ByteArray := joinB ⟨#[124]⟩ [knT o l m ps b last, orD s, decB z, decB c, decB e]

end Go.Proofs.YtmddcbebaijjkaaGreatDoor

/- The reference's text of a number. -/
namespace Go.Proofs.YtmddcbebaijjkaaGreatDoor
open Go.RowKit
set_option linter.unusedVariables false
set_option linter.unusedSimpArgs false

theorem one_dg (n : Nat) : one ((48 + n : Nat) : Int) = (⟨#[UInt8.ofNat (48 + n)]⟩ : ByteArray) := by
  unfold one
  rw [Int.toNat_natCast]

set_option maxRecDepth 100000 in
set_option maxHeartbeats 2000000 in
theorem l9Dec_nat (n : Nat) (w : World) (hn : n ≤ 9223372036854775807) : Calls Tryz.prog 56 #[.int .i64 n] w (Ret w (.string (decN n))) := by
  have v0 : decide ((n : Int) < -9223372036854775807) = false := decide_eq_false (by omega)
  have v1 : decide ((n : Int) < 0) = false := decide_eq_false (by omega)
  have HN := Lib.hid (decN_size 18 n (by omega))
  go_enter Tryz.func56, Tryz.ntmps56
  go_wp2
  go_loopw [0, 3] (fun q t wr => ∃ (m : Nat) (u : ByteArray), q = .int .i64 m ∧ t = .string u ∧ m ≤ n ∧ u.size ≤ 100 ∧ decN m ++ u = decN n ∧ More w wr) (fun q _ _ => (intOf q).toNat)
  case atStart => exact ⟨n, ⟨#[]⟩, rfl, rfl, Nat.le_refl _, by decide, by apply ByteArray.ext; simp, More.refl _⟩
  case round =>
    obtain ⟨m, u, rfl, rfl, hm, hu, hd, x, rfl⟩ := hrel
    have HD := Lib.hid hd
    clear hd
    rcases dec (9 < m) with ⟨hlt, v2⟩ | ⟨hlt, v2⟩
    · have v3 : decide ((9 : Int) < (m : Int)) = true := decide_eq_true (by omega)
      have hcv := run_one (P := Tryz.prog) (W := plus w x) Tryz.underlying34 Tryz.underlying5 Tryz.underlying9 (w.heap.size + x.n) (48 + (m : Int) % 10) (by omega) (by omega) (by simp)
      have z2 : (one (48 + (m : Int) % 10)).size ≤ 1 := Nat.le_refl _
      have HE := Lib.hid (show decN (m / 10) ++ (one (48 + (m : Int) % 10) ++ u) = decN n by
        rw [← HD.out, decN_step m hlt, ByteArray.append_assoc, show (48 + (m : Int) % 10) = ((48 + m % 10 : Nat) : Int) by omega, one_dg])
      have HZ := Lib.hid (show (one (48 + (m : Int) % 10) ++ u).size ≤ 100 by
        have h1 := congrArg ByteArray.size HE.out
        rw [ByteArray.size_append] at h1
        have := HN.out
        omega)
      have E3 := Lib.hid (show wrap64 ((m : Int) / 10) = ((m / 10 : Nat) : Int) from wrap64_of (by omega) (by omega))
      go_wp2
      go_roundw
      case rel => exact ⟨m / 10, _, int_val (by first | omega | (rw [E3.out])), by simp, by omega, HZ.out, HE.out, (by repeat (first | exact More.refl _ | apply More.plus | apply More.alloc | apply More.drew | apply More.drewN))⟩
      case measure => simp [intOf, E3.out]; omega
    · have v3 : decide ((9 : Int) < (m : Int)) = false := decide_eq_false (by omega)
      have hcv := run_one (P := Tryz.prog) (W := plus w x) Tryz.underlying34 Tryz.underlying5 Tryz.underlying9 (w.heap.size + x.n) (48 + (m : Int)) (by omega) (by omega) (by simp)
      have z2 : (one (48 + (m : Int))).size ≤ 1 := Nat.le_refl _
      have HE := Lib.hid (show one (48 + (m : Int)) ++ u = decN n by
        rw [← HD.out, decN_one m (by omega), show (48 + (m : Int)) = ((48 + m : Nat) : Int) by omega, one_dg])
      go_wp2
      go_ret
      exact ret_of (by rw [← HE.out]; simp) (by repeat (first | exact More.refl _ | apply More.plus | apply More.alloc | apply More.drew | apply More.drewN))

set_option maxRecDepth 100000 in
theorem l9Dec_any (n : Int) (w : World) (h0 : -9223372036854775807 ≤ n) (h1 : n ≤ 9223372036854775807) : Calls Tryz.prog 56 #[.int .i64 n] w (Ret w (.string (decB n))) := by
  by_cases hn : n < 0
  · obtain ⟨k, rfl⟩ : ∃ k : Nat, n = -(k : Int) := ⟨n.natAbs, by omega⟩
    have v0 : decide (-(k : Int) < -9223372036854775807) = false := decide_eq_false (by omega)
    have v1 : decide (-(k : Int) < 0) = true := decide_eq_true (by omega)
    have HB := Lib.hid (decB_neg k (by omega))
    have hz := decN_size 18 k (by omega)
    go_enter Tryz.func56, Tryz.ntmps56
    go_wp2_with fail
    refine (l9Dec_nat k _ (by omega)).mono ?_
    rintro e w' ⟨rfl, x, rfl⟩
    go_wp2
    go_ret
    exact ret_of (by rw [HB.out]; rfl) (by repeat (first | exact More.refl _ | apply More.plus | apply More.alloc | apply More.drew | apply More.drewN))
  · obtain ⟨k, rfl⟩ : ∃ k : Nat, n = (k : Int) := ⟨n.toNat, by omega⟩
    rw [decB_nat]
    exact l9Dec_nat k w (by omega)

end Go.Proofs.YtmddcbebaijjkaaGreatDoor

/- Numbers, dashes and settings as texts: the program's and the reference's. -/
namespace Go.Proofs.YtmddcbebaijjkaaGreatDoor
open Go.RowKit
set_option linter.unusedVariables false
set_option linter.unusedSimpArgs false

/-- the table of the powers of ten lies as laid -/
def Tb (W : World) : Prop := Lib.TabIs Tryz.prog W "internal/strconv.uint64pow10" .u64 Lib.pow10Tab

theorem tb_glob : ∃ g, Tryz.prog.globalNamed "internal/strconv.uint64pow10" = some g := Option.isSome_iff_exists.1 (by kernel_rfl)

theorem Tb.lt {W : World} (h : Tb W) : ∀ g, Tryz.prog.globalNamed "internal/strconv.uint64pow10" = some g → g < W.heap.size := by
  intro g hg
  have := Lib.TabIs.cell h hg 0 (by decide)
  exact World.block_lt_of_cell? _ _ this

theorem Tb.below {W W' : World} (h : Tb W) (hb : Below W.heap.size W W') : Tb W' := by
  obtain ⟨g, hg⟩ := tb_glob
  exact Joins.tab_stays hg h hb (Nat.le_refl _)

theorem Tb.plus {W : World} (h : Tb W) (x : Ext) : Tb (plus W x) := h.below (below_plus (Below.refl _ _) (Nat.le_refl _) x)

theorem Tb.alloc {W : World} (h : Tb W) (o : Obj) : Tb (W.alloc o) := h.below (Below.alloc (Below.refl _ _) (Nat.le_refl _) o)

theorem Tb.drew {W : World} (h : Tb W) : Tb W.drew := h.below (Below.drew (Below.refl _ _))

theorem tbq_seq {W : World} {x y : Ext} (h : Tb (Go.Proofs.YtmddcbebaijjkaaGreatDoor.plus (Go.Proofs.YtmddcbebaijjkaaGreatDoor.plus W x) y)) : Tb (Go.Proofs.YtmddcbebaijjkaaGreatDoor.plus W (x.seq y)) := by rwa [plus_plus] at h

theorem Itoa_any (n : Int) (w : World) (h0 : -9223372036854775808 ≤ n) (h1 : n ≤ 9223372036854775807) (ht : Tb w) : Calls Tryz.prog 53 #[.int .i64 n] w (Ret w (.string (decB n))) := by
  refine (Tryz.strconv_Itoa n h0 h1 w ht).mono ?_
  rintro e w' ⟨rfl, k, os, rfl⟩
  exact ⟨rfl, ⟨os, (w.drewN k).drawn⟩, rfl⟩

theorem orD_nil {t : ByteArray} (h : t.size = 0) : orD t = ⟨#[45]⟩ := if_pos h

theorem orD_some {t : ByteArray} (h : t.size ≠ 0) : orD t = t := if_neg h

theorem orDash_any (t : ByteArray) (w : World) : Calls Tryz.prog 52 #[.string t] w (Ret w (.string (orD t))) := by
  by_cases h : t.size = 0
  · have h2 : t = ⟨#[]⟩ := by
      obtain ⟨⟨l⟩⟩ := t
      cases l with
      | nil => rfl
      | cons a r => simp [ByteArray.size] at h
    rw [orD_nil h]
    subst h2
    go_enter Tryz.func52, Tryz.ntmps52
    go_wp2
    go_ret
    exact ret_of rfl (by repeat (first | exact More.refl _ | apply More.plus | apply More.alloc | apply More.drew | apply More.drewN))
  · have h2 : (t.toList == ([] : List UInt8)) = false := by
      obtain ⟨⟨l⟩⟩ := t
      cases l with
      | nil => simp [ByteArray.size] at h
      | cons a r => simp [ByteArray.toList_eq]
    rw [orD_some h]
    go_enter Tryz.func52, Tryz.ntmps52
    go_wp2
    go_ret
    exact ret_of rfl (by repeat (first | exact More.refl _ | apply More.plus | apply More.alloc | apply More.drew | apply More.drewN))

theorem l3Some_any (t : ByteArray) (w : World) : Calls Tryz.prog 55 #[.string t] w (Ret w (.string (orD t))) := by
  by_cases h : t.size = 0
  · have h2 : t = ⟨#[]⟩ := by
      obtain ⟨⟨l⟩⟩ := t
      cases l with
      | nil => rfl
      | cons a r => simp [ByteArray.size] at h
    rw [orD_nil h]
    subst h2
    go_enter Tryz.func55, Tryz.ntmps55
    go_wp2
    go_ret
    exact ret_of rfl (by repeat (first | exact More.refl _ | apply More.plus | apply More.alloc | apply More.drew | apply More.drewN))
  · have h2 : (t.toList == ([] : List UInt8)) = false := by
      obtain ⟨⟨l⟩⟩ := t
      cases l with
      | nil => simp [ByteArray.size] at h
      | cons a r => simp [ByteArray.toList_eq]
    rw [orD_some h]
    go_enter Tryz.func55, Tryz.ntmps55
    go_wp2
    go_ret
    exact ret_of rfl (by repeat (first | exact More.refl _ | apply More.plus | apply More.alloc | apply More.drew | apply More.drewN))

theorem setT_lo (l m : Int) : (⟨#[108, 111, 119, 32]⟩ : ByteArray) ++ decB l ++ (⟨#[32]⟩ : ByteArray) ++ decB m = setT 0 l m := rfl

theorem setT_hi (l m : Int) : (⟨#[104, 105, 103, 104, 32]⟩ : ByteArray) ++ decB l ++ (⟨#[32]⟩ : ByteArray) ++ decB m = setT 1 l m := rfl

/-- a number of few digits -/
def Sml (n : Int) : Prop := -1 ≤ n ∧ n < 100000

theorem Sml.size {n : Int} (h : Sml n) : (decB n).size ≤ 5 := decB_size h.1 h.2

theorem Itoa_sml (n : Int) (w : World) (h : Sml n) (ht : Tb w) : Calls Tryz.prog 53 #[.int .i64 n] w (Ret w (.string (decB n))) := Itoa_any n w (by have := h.1; omega) (by have := h.2; omega) ht

theorem l9Dec_sml (n : Int) (w : World) (h : Sml n) : Calls Tryz.prog 56 #[.int .i64 n] w (Ret w (.string (decB n))) := l9Dec_any n w (by have := h.1; omega) (by have := h.2; omega)

set_option maxRecDepth 100000 in
set_option maxHeartbeats 2000000 in
theorem FormatSetting_any (o l m : Int) (w : World) (hs : sv o l m = true) (ht : Tb w) : Calls Tryz.prog 61 #[.agg #[.int .i64 o, .int .i64 l, .int .i64 m]] w (Ret w (.string (setT o l m))) := by
  obtain ⟨ho, l1, l2, l3, l4⟩ := sv_iff.1 hs
  have HT := Lib.hid (fun y => Tb.plus (Tb.alloc ht (.cells #[.int .i64 o, .int .i64 l, .int .i64 m] 23)) y)
  have hl : Sml l := ⟨by omega, by omega⟩
  have hm : Sml m := ⟨by omega, by omega⟩
  have z1 := hl.size
  have z2 := hm.size
  have HS0 := Lib.hid (setT_lo l m)
  have HS1 := Lib.hid (setT_hi l m)
  clear ht
  rcases ho with rfl | rfl
  · go_enter Tryz.func61, Tryz.ntmps61
    go_wp2_with fail
    refine (SettingValid_any _ _ _ _).mono ?_
    rintro e w' ⟨rfl, x1, rfl⟩
    rw [hs]
    go_wp2_with fail
    (refine wp_region_calm (by kernel_rfl) (by kernel_rfl) ?_
     repeat (first | go_big_quiet_skip | (go_big_quiet_want; go_big_quiet_op; first | go_big_quiet_on | (apply Exists.intro; refine ⟨fun _ => ?_, ?_⟩; (focus ((go_at_call 53; first | refine calm_of (Itoa_sml _ _ (by assumption) (HT.out _)) | refine calm_seq (Itoa_sml _ _ (by assumption) (HT.out _))))); go_big_quiet_on)))
     refine wpQuiet_nil ?_
     intro _ hw'
     obtain ⟨xq, hw''⟩ := hw'
     subst hw'')
    go_wp2
    go_ret
    exact ret_of (by rw [← HS0.out]; rfl) (by repeat (first | exact More.refl _ | apply More.plus | apply More.alloc | apply More.drew | apply More.drewN))
  · go_enter Tryz.func61, Tryz.ntmps61
    go_wp2_with fail
    refine (SettingValid_any _ _ _ _).mono ?_
    rintro e w' ⟨rfl, x1, rfl⟩
    rw [hs]
    go_wp2_with fail
    (refine wp_region_calm (by kernel_rfl) (by kernel_rfl) ?_
     repeat (first | go_big_quiet_skip | (go_big_quiet_want; go_big_quiet_op; first | go_big_quiet_on | (apply Exists.intro; refine ⟨fun _ => ?_, ?_⟩; (focus ((go_at_call 53; first | refine calm_of (Itoa_sml _ _ (by assumption) (HT.out _)) | refine calm_seq (Itoa_sml _ _ (by assumption) (HT.out _))))); go_big_quiet_on)))
     refine wpQuiet_nil ?_
     intro _ hw'
     obtain ⟨xq, hw''⟩ := hw'
     subst hw'')
    go_wp2
    go_ret
    exact ret_of (by rw [← HS1.out]; rfl) (by repeat (first | exact More.refl _ | apply More.plus | apply More.alloc | apply More.drew | apply More.drewN))

set_option maxRecDepth 100000 in
set_option maxHeartbeats 2000000 in
theorem specFormatSetting_any (o l m : Int) (w : World) (hs : sv o l m = true) : Calls Tryz.prog 63 #[.agg #[.int .i64 o, .int .i64 l, .int .i64 m]] w (Ret w (.string (setT o l m))) := by
  obtain ⟨ho, l1, l2, l3, l4⟩ := sv_iff.1 hs
  have hl : Sml l := ⟨by omega, by omega⟩
  have hm : Sml m := ⟨by omega, by omega⟩
  have z1 := hl.size
  have z2 := hm.size
  have HS0 := Lib.hid (setT_lo l m)
  have HS1 := Lib.hid (setT_hi l m)
  rcases ho with rfl | rfl
  · go_enter Tryz.func63, Tryz.ntmps63
    go_wp2_with fail
    refine (specSettingValid_any _ _ _ _).mono ?_
    rintro e w' ⟨rfl, x1, rfl⟩
    rw [hs]
    go_wp2_with fail
    (refine wp_region_calm (by kernel_rfl) (by kernel_rfl) ?_
     repeat (first | go_big_quiet_skip | (go_big_quiet_want; go_big_quiet_op; first | go_big_quiet_on | (apply Exists.intro; refine ⟨fun _ => ?_, ?_⟩; (focus ((go_at_call 56; first | refine calm_of (l9Dec_sml _ _ (by assumption)) | refine calm_seq (l9Dec_sml _ _ (by assumption))))); go_big_quiet_on)))
     refine wpQuiet_nil ?_
     intro _ hw'
     obtain ⟨xq, hw''⟩ := hw'
     subst hw'')
    go_wp2
    go_ret
    exact ret_of (by rw [← HS0.out]; rfl) (by repeat (first | exact More.refl _ | apply More.plus | apply More.alloc | apply More.drew | apply More.drewN))
  · go_enter Tryz.func63, Tryz.ntmps63
    go_wp2_with fail
    refine (specSettingValid_any _ _ _ _).mono ?_
    rintro e w' ⟨rfl, x1, rfl⟩
    rw [hs]
    go_wp2_with fail
    (refine wp_region_calm (by kernel_rfl) (by kernel_rfl) ?_
     repeat (first | go_big_quiet_skip | (go_big_quiet_want; go_big_quiet_op; first | go_big_quiet_on | (apply Exists.intro; refine ⟨fun _ => ?_, ?_⟩; (focus ((go_at_call 56; first | refine calm_of (l9Dec_sml _ _ (by assumption)) | refine calm_seq (l9Dec_sml _ _ (by assumption))))); go_big_quiet_on)))
     refine wpQuiet_nil ?_
     intro _ hw'
     obtain ⟨xq, hw''⟩ := hw'
     subst hw'')
    go_wp2
    go_ret
    exact ret_of (by rw [← HS1.out]; rfl) (by repeat (first | exact More.refl _ | apply More.plus | apply More.alloc | apply More.drew | apply More.drewN))

end Go.Proofs.YtmddcbebaijjkaaGreatDoor

/- The reference's text of what is known. -/
namespace Go.Proofs.YtmddcbebaijjkaaGreatDoor
open Go.RowKit
set_option linter.unusedVariables false
set_option linter.unusedSimpArgs false

theorem KV.nums {o l m : Int} {ps : List Pr} {base last : Int} (h : KV o l m ps base last) : ps.length ≤ 1024 ∧ Sml base ∧ Sml last ∧ ∀ (i : Nat) (p : Pr), ps[i]? = some p → Sml p.p ∧ Sml p.b := by
  obtain ⟨_, l1, l2, l3, l4⟩ := sv_iff.1 h.s
  obtain ⟨t1, t2⟩ := two_lit l1 l2
  obtain ⟨t3, t4⟩ := two_bd (n := m) (by omega) (by omega)
  have hlen := h.len
  have hb0 := h.b0
  have hb1 := h.b1
  refine ⟨by omega, ⟨by omega, by omega⟩, ?_, fun i p hp => ?_⟩
  · rcases h.last with h1 | h1
    · exact ⟨by omega, by omega⟩
    · have := hw_iff.1 h1
      exact ⟨by omega, by omega⟩
  · obtain ⟨h1, h2, h3⟩ := h.ok i p hp
    have h4 := hw_iff.1 h1
    have h5 := (List.getElem?_eq_some_iff.1 hp).1
    exact ⟨⟨by omega, by omega⟩, ⟨by omega, by omega⟩⟩

/-- the text of the first k pairs -/
def prsT (ps : List Pr) (k : Nat) : ByteArray := joinB ⟨#[44]⟩ ((ps.take k).map prT)

theorem prsT_zero (ps : List Pr) : prsT ps 0 = ⟨#[]⟩ := by simp [prsT, joinB]

theorem prsT_all (ps : List Pr) {k : Nat} (h : ps.length ≤ k) : prsT ps k = joinB ⟨#[44]⟩ (ps.map prT) := by
  unfold prsT
  rw [List.take_of_length_le h]

theorem take_snoc {α : Type} {xs : List α} {k : Nat} {x : α} (h : xs[k]? = some x) : xs.take (k + 1) = xs.take k ++ [x] := by
  rw [List.take_add_one, h]; rfl

theorem prsT_one {ps : List Pr} {p : Pr} (h : ps[0]? = some p) : prsT ps 1 = (⟨#[]⟩ : ByteArray) ++ decB p.p ++ (⟨#[46]⟩ : ByteArray) ++ decB p.b := by
  unfold prsT
  rw [take_snoc h]
  have e : (⟨#[]⟩ : ByteArray) ++ decB p.p = decB p.p := by
    apply ByteArray.ext; simp
  rw [e]
  rfl

theorem prsT_succ {ps : List Pr} {p : Pr} {k : Nat} (h : ps[k]? = some p) (hk : 0 < k) : prsT ps (k + 1) = prsT ps k ++ (⟨#[44]⟩ : ByteArray) ++ decB p.p ++ (⟨#[46]⟩ : ByteArray) ++ decB p.b := by
  have hl := (List.getElem?_eq_some_iff.1 h).1
  unfold prsT
  rw [take_snoc h, List.map_append, List.map_cons, List.map_nil, joinB_snoc _ _ _ (by
    have h2 : ((ps.take k).map prT).length = k := by rw [List.length_map, List.length_take, Nat.min_eq_left (by omega)]
    intro e
    rw [e] at h2
    exact absurd h2.symm (by show k ≠ 0; omega))]
  unfold prT
  simp only [ByteArray.append_assoc]

theorem prsT_size {ps : List Pr} (hp : ∀ (i : Nat) (p : Pr), ps[i]? = some p → Sml p.p ∧ Sml p.b) (k : Nat) (hk : k ≤ ps.length) : (prsT ps k).size ≤ k * 12 := by
  have h := joinB_size ⟨#[44]⟩ 11 ((ps.take k).map prT) (fun x hx => by
    obtain ⟨p, hpm, rfl⟩ := List.mem_map.1 hx
    obtain ⟨i, hi⟩ := List.getElem?_of_mem (List.mem_of_mem_take hpm)
    obtain ⟨h1, h2⟩ := hp i p hi
    have := h1.size
    have := h2.size
    unfold prT
    rw [ByteArray.size_append, ByteArray.size_append]
    show _ + 1 + _ ≤ _
    omega)
  rw [List.length_map, List.length_take, Nat.min_eq_left hk] at h
  exact h

theorem setT_size {o l m : Int} (h : sv o l m = true) : (setT o l m).size ≤ 20 := by
  obtain ⟨_, l1, l2, l3, l4⟩ := sv_iff.1 h
  have h1 := decB_size (n := l) (by omega) (by omega)
  have h2 := decB_size (n := m) (by omega) (by omega)
  unfold setT
  rw [ByteArray.size_append, ByteArray.size_append, ByteArray.size_append, ByteArray.size_append]
  have h3 : (if o = 1 then (⟨#[104, 105, 103, 104]⟩ : ByteArray) else ⟨#[108, 111, 119]⟩).size ≤ 4 := by
    split <;> decide
  show _ + 1 + _ + 1 + _ ≤ _
  omega

theorem orD_size {t : ByteArray} {n : Nat} (h : t.size ≤ n) (h1 : 1 ≤ n) : (orD t).size ≤ n := by
  unfold orD
  split
  · exact h1
  · exact h

theorem joinB_four (s a b c d : ByteArray) : joinB s [a, b, c, d] = a ++ s ++ b ++ s ++ c ++ s ++ d := by
  show a ++ s ++ (b ++ s ++ (c ++ s ++ d)) = _
  simp only [ByteArray.append_assoc]

theorem joinB_five (s a b c d e : ByteArray) : joinB s [a, b, c, d, e] = a ++ s ++ b ++ s ++ c ++ s ++ d ++ s ++ e := by
  show a ++ s ++ (b ++ s ++ (c ++ s ++ (d ++ s ++ e))) = _
  simp only [ByteArray.append_assoc]

theorem specFormatKnown_no (o l m : Int) (a : Option Addr) (cap : Nat) (ps : List Pr) (base last : Int) (w : World) (hr : RdP w a cap ps) (hk : kvb o l m ps base last = false) :
    Calls Tryz.prog 23 #[.agg #[.int .i64 o, .int .i64 l, .int .i64 m, .slice a ps.length cap, .int .i64 base, .int .i64 last]] w (Ret w (.string ⟨#[]⟩)) := by
  have HR := Lib.hid (show Rd encP w a cap ps from hr)
  clear hr
  go_enter Tryz.func23, Tryz.ntmps23
  go_wp2_with fail
  refine (specKnownValid_any o l m a cap ps base last _ (by (try unfold RdP); repeat (first | (with_reducible exact HR.out) | (with_reducible apply rd_seq) | (with_reducible apply Rd.plus) | (with_reducible apply Rd.alloc) | (with_reducible apply Rd.drew) | (with_reducible apply Rd.drewN)))).mono ?_
  rintro e w' ⟨rfl, x1, rfl⟩
  rw [hk]
  go_wp2
  go_ret
  exact ret_of rfl (by repeat (first | exact More.refl _ | apply More.plus | apply More.alloc | apply More.drew | apply More.drewN))

set_option maxRecDepth 100000 in
set_option maxHeartbeats 4000000 in
theorem specFormatKnown_yes (o l m : Int) (a : Option Addr) (cap : Nat) (ps : List Pr) (base last : Int) (w : World) (hr : RdP w a cap ps) (hk : kvb o l m ps base last = true) :
    Calls Tryz.prog 23 #[.agg #[.int .i64 o, .int .i64 l, .int .i64 m, .slice a ps.length cap, .int .i64 base, .int .i64 last]] w (Ret w (.string (knT o l m ps base last))) := by
  have hkv := kvb_iff.1 hk
  obtain ⟨n1, hb, hla, hps⟩ := hkv.nums
  have hs := hkv.s
  have HR := Lib.hid (show Rd encP w a cap ps from hr)
  obtain ⟨r1, r2, r3⟩ := hr.open
  have hal := rd_lt hr
  clear hr
  go_enter Tryz.func23, Tryz.ntmps23
  go_wp2_with fail
  refine (specKnownValid_any o l m a cap ps base last _ (by (try unfold RdP); repeat (first | (with_reducible exact HR.out) | (with_reducible apply rd_seq) | (with_reducible apply Rd.plus) | (with_reducible apply Rd.alloc) | (with_reducible apply Rd.drew) | (with_reducible apply Rd.drewN)))).mono ?_
  rintro e w' ⟨rfl, x1, rfl⟩
  rw [hk]
  clear hk
  go_wp2
  go_loopw [3, 4] (fun t i wr => ∃ k : Nat, k ≤ ps.length ∧ i = .int .i64 k ∧ t = .string (prsT ps k) ∧ ∃ x, wr = plus (w.alloc (.cells #[.int .i64 o, .int .i64 l, .int .i64 m, .slice a ps.length cap, .int .i64 base, .int .i64 last] 26)) x) (fun _ i _ => ps.length - (intOf i).toNat)
  case atStart => exact ⟨0, Nat.zero_le _, rfl, by rw [prsT_zero], x1, rfl⟩
  case round =>
    obtain ⟨k, hk, rfl, rfl, x, rfl⟩ := hrel
    have zT := prsT_size hps k hk
    rcases dec (k < ps.length) with ⟨hlt, blt⟩ | ⟨hlt, blt⟩
    · have hex : ∃ p, ps[k]? = some p := ⟨ps[k], List.getElem?_eq_getElem hlt⟩
      obtain ⟨p, hp⟩ := hex
      rcases r3 with rfl | ⟨b, off, rfl, hb', hc⟩
      · exact absurd hlt (by omega)
      · obtain ⟨c1, c2⟩ := hc k p hp
        have hb2 : b < w.heap.size + 1 := by omega
        obtain ⟨hpp, hpb⟩ := hps k p hp
        have z1 := hpp.size
        have z2 := hpb.size
        have HP := Lib.hid hp
        clear hp hc
        have k2 : (k : Int) ≤ 1000000 := by omega
        have k0 : 0 ≤ (k : Int) := by omega
        rcases Nat.eq_zero_or_pos k with rfl | hk0
        · simp only [Nat.zero_mul, Nat.add_zero, Nat.zero_add] at c1 c2
          have v6 : decide ((0 : Int) < (ps.length : Int)) = true := decide_eq_true (by omega)
          have HE := Lib.hid (prsT_one HP.out)
          rw [prsT_zero]
          go_wp2_with fail
          (refine wp_region_calm (by kernel_rfl) (by kernel_rfl) ?_
           repeat (first | go_big_quiet_skip | (go_big_quiet_want; go_big_quiet_op; first | go_big_quiet_on | (apply Exists.intro; refine ⟨fun _ => ?_, ?_⟩; (focus ((go_at_call 56; first | refine calm_of (l9Dec_sml _ _ (by assumption)) | refine calm_seq (l9Dec_sml _ _ (by assumption))))); go_big_quiet_on)))
           refine wpQuiet_nil ?_
           intro _ hw'
           obtain ⟨xq, hw''⟩ := hw'
           subst hw'')
          go_wp2
          go_roundw
          case rel => exact ⟨1, by omega, by go_num, by rw [HE.out], (by repeat (first | exact More.refl _ | apply More.plus | apply More.alloc | apply More.drew | apply More.drewN))⟩
          case measure => simp [intOf]; omega
        · have v5 : decide ((0 : Int) < (k : Int)) = true := decide_eq_true (by omega)
          have HE := Lib.hid (prsT_succ HP.out hk0)
          go_wp2_with fail
          (refine wp_region_calm (by kernel_rfl) (by kernel_rfl) ?_
           repeat (first | go_big_quiet_skip | (go_big_quiet_want; go_big_quiet_op; first | go_big_quiet_on | (apply Exists.intro; refine ⟨fun _ => ?_, ?_⟩; (focus ((go_at_call 56; first | refine calm_of (l9Dec_sml _ _ (by assumption)) | refine calm_seq (l9Dec_sml _ _ (by assumption))))); go_big_quiet_on)))
           refine wpQuiet_nil ?_
           intro _ hw'
           obtain ⟨xq, hw''⟩ := hw'
           subst hw'')
          go_wp2
          go_roundw
          case rel => exact ⟨k + 1, by omega, by go_num, by rw [HE.out], (by repeat (first | exact More.refl _ | apply More.plus | apply More.alloc | apply More.drew | apply More.drewN))⟩
          case measure => simp [intOf]; omega
    · obtain rfl : k = ps.length := by omega
      have zS := setT_size hs
      have zb := hb.size
      have zl := hla.size
      have zO := orD_size (n := ps.length * 12 + 1) (by omega : (prsT ps ps.length).size ≤ _) (by omega)
      have HE := Lib.hid (show setT o l m ++ (⟨#[59]⟩ : ByteArray) ++ decB base ++ (⟨#[59]⟩ : ByteArray) ++ decB last ++ (⟨#[59]⟩ : ByteArray) ++ orD (prsT ps ps.length) = knT o l m ps base last by
        rw [prsT_all ps (Nat.le_refl _)]
        unfold knT
        rw [joinB_four])
      go_wp2_with fail
      (refine wp_region_calm (by kernel_rfl) (by kernel_rfl) ?_
       repeat (first | go_big_quiet_skip | (go_big_quiet_want; go_big_quiet_op; first | go_big_quiet_on | (apply Exists.intro; refine ⟨fun _ => ?_, ?_⟩; (focus ((first | (go_at_call 63; first | refine calm_of (specFormatSetting_any _ _ _ _ (by assumption)) | refine calm_seq (specFormatSetting_any _ _ _ _ (by assumption))) | (go_at_call 56; first | refine calm_of (l9Dec_sml _ _ (by assumption)) | refine calm_seq (l9Dec_sml _ _ (by assumption))) | (go_at_call 55; first | refine calm_of (l3Some_any _ _) | refine calm_seq (l3Some_any _ _))))); go_big_quiet_on)))
       refine wpQuiet_nil ?_
       intro _ hw'
       obtain ⟨xq, hw''⟩ := hw'
       subst hw'')
      go_wp2
      go_ret
      exact ret_of (by rw [← HE.out]; rfl) (by repeat (first | exact More.refl _ | apply More.plus | apply More.alloc | apply More.drew | apply More.drewN))

end Go.Proofs.YtmddcbebaijjkaaGreatDoor

/- The program's text of what is known. -/
namespace Go.Proofs.YtmddcbebaijjkaaGreatDoor
open Go.RowKit
set_option linter.unusedVariables false
set_option linter.unusedSimpArgs false

theorem implFormatKnown_no (o l m : Int) (a : Option Addr) (cap : Nat) (ps : List Pr) (base last : Int) (w : World) (hr : RdP w a cap ps) (hk : kvb o l m ps base last = false) :
    Calls Tryz.prog 22 #[.agg #[.int .i64 o, .int .i64 l, .int .i64 m, .slice a ps.length cap, .int .i64 base, .int .i64 last]] w (Ret w (.string ⟨#[]⟩)) := by
  have HR := Lib.hid (show Rd encP w a cap ps from hr)
  clear hr
  go_enter Tryz.func22, Tryz.ntmps22
  go_wp2_with fail
  refine (KnownValid_any o l m a cap ps base last _ (by (try unfold RdP); repeat (first | (with_reducible exact HR.out) | (with_reducible apply rd_seq) | (with_reducible apply Rd.plus) | (with_reducible apply Rd.alloc) | (with_reducible apply Rd.drew) | (with_reducible apply Rd.drewN)))).mono ?_
  rintro e w' ⟨rfl, x1, rfl⟩
  rw [hk]
  go_wp2
  go_ret
  exact ret_of rfl (by repeat (first | exact More.refl _ | apply More.plus | apply More.alloc | apply More.drew | apply More.drewN))

theorem wp_nmF {P : Program} {c : Code} {Q : Exit → Act → World → Prop} {a : Act} {W : World} (F : World → Prop) (hF : F W) (h : ∀ X, F X → c.wp P Q a X) : c.wp P Q a W := h W hF

theorem pushF (w : World) (o : Obj) (n : Nat) (h : n = w.heap.size) : (w.alloc o).heap[n]? = some o := by
  subst h
  exact Array.getElem?_push_size

theorem plusF {w : World} {n : Nat} {o : Obj} (h : w.heap[n]? = some o) (x : Ext) : (plus w x).heap[n]? = some o := by
  rw [plus_block _ _ (Array.getElem?_eq_some_iff.1 h).1]; exact h

theorem allocF {w : World} {n : Nat} {o : Obj} (h : w.heap[n]? = some o) (o2 : Obj) : (w.alloc o2).heap[n]? = some o := by
  rw [alloc_plus]; exact plusF h _

theorem drewF {w : World} {n : Nat} {o : Obj} (h : w.heap[n]? = some o) : w.drew.heap[n]? = some o := h

theorem rdF {α : Type} {E : Enc α} {w w' : World} {a : Option Addr} {cap : Nat} {xs : List α} (h : Rd E w a cap xs) (hb : Below w.heap.size w w') : Rd E w' a cap xs :=
  h.of_block fun A hA hs => ⟨by have := hb.size; omega, hb.block _ hs⟩

theorem blk_mo {W W' : World} {b : Nat} {ob : Obj} (h : W.heap[b]? = some ob) (hm : More W W') : W'.heap[b]? = some ob :=
  by rw [(more_below hm).block b (Array.getElem?_eq_some_iff.1 h).1]; exact h

theorem Tb.more {W W' : World} (h : Tb W) (hm : More W W') : Tb W' := h.below (more_below hm)

theorem Join_any (bk c n : Nat) (xs : List ByteArray) (sep : ByteArray) (w : World) (hn : n = xs.length) (hc : ∀ (j : Nat) (x : ByteArray), xs[j]? = some x → w.cell? ⟨bk, j, none⟩ = some (.string x)) (hb : bk < w.heap.size) (hl : xs.length ≤ 100000) (hcap : xs.length ≤ c) (hz : (joinB sep xs).size ≤ 10000000) :
    Calls Tryz.prog 51 #[.slice (some ⟨bk, 0, none⟩) n c, .string sep] w (Ret w (.string (joinB sep xs))) := by
  subst hn
  have hj := joinB_lib sep xs
  refine (Tryz.strings_Join bk 0 c xs sep w (fun j x h => by rw [Nat.zero_add]; exact hc j x h) hb (by omega) hcap ?_).mono ?_
  · have := congrArg ByteArray.size hj
    rw [← this] at hz
    have h2 : (Lib.join (xs.map (·.data.toList)) sep.data.toList).length ≤ 10000000 := by simpa [ByteArray.size] using hz
    omega
  · rintro e w' ⟨rfl, hbl⟩
    exact ⟨by rw [hj], below_more hbl⟩

theorem cells_str {w : World} {b : Nat} {xs : List ByteArray} {e : TypeId} (hb : w.heap[b]? = some (.cells (xs.map Value.string).toArray e (0, 0))) : ∀ (j : Nat) (x : ByteArray), xs[j]? = some x → w.cell? ⟨b, j, none⟩ = some (.string x) := by
  intro j x h
  rw [cell_of hb, List.getElem?_toArray, List.getElem?_map, h]
  rfl

theorem uts_next {cur : Array Value} {ss : List ByteArray} {k : Nat} {s : ByteArray} (h : UpToS cur ss k) (hs : ss[k]? = some s) (hk : k < cur.size) : UpToS (cur.setIfInBounds k (.string s)) ss (k + 1) := by
  intro i t hi hlt
  rw [Array.getElem?_setIfInBounds]
  by_cases e : k = i
  · subst e
    rw [if_pos rfl, if_pos hk]
    rw [hs] at hi
    cases hi
    rfl
  · rw [if_neg e]
    exact h i t hi (by omega)

/-- what is known in a block, and texts in block C -/
structure FW (w wr : World) (C : Nat) (ob : Obj) (cur : Array Value) : Prop where
  kn : wr.heap[w.heap.size]? = some ob
  blk : wr.heap[C]? = some (.cells cur 9 (0, 0))
  bel : Below w.heap.size w wr
  low : w.heap.size < C

theorem FW.lt {w wr : World} {C : Nat} {ob : Obj} {cur : Array Value} (h : FW w wr C ob cur) : C < wr.heap.size := (Array.getElem?_eq_some_iff.1 h.blk).1

theorem FW.more {w wr wr' : World} {C : Nat} {ob : Obj} {cur : Array Value} (h : FW w wr C ob cur) (hm : More wr wr') : FW w wr' C ob cur :=
  ⟨blk_mo h.kn hm, blk_mo h.blk hm, h.bel.trans ((more_below hm).mono (by have := h.bel.size; omega)), h.low⟩

theorem FW.patch {w wr : World} {C : Nat} {ob : Obj} {cur cur2 : Array Value} (h : FW w wr C ob cur) : FW w (Go.Proofs.YtmddcbebaijjkaaGreatDoor.patch wr C (.cells cur2 9 (0, 0))) C ob cur2 :=
  ⟨(patch_other _ _ _ (by have := h.low; omega)).trans h.kn, patch_at _ _ _ h.lt, below_patch h.bel (by have := h.low; omega) _, h.low⟩

set_option maxRecDepth 100000 in
set_option maxHeartbeats 4000000 in
theorem implFormatKnown_yes (o l m : Int) (a : Option Addr) (cap : Nat) (ps : List Pr) (base last : Int) (w : World) (hr : RdP w a cap ps) (hk : kvb o l m ps base last = true) (ht : Tb w) :
    Calls Tryz.prog 22 #[.agg #[.int .i64 o, .int .i64 l, .int .i64 m, .slice a ps.length cap, .int .i64 base, .int .i64 last]] w (Ret w (.string (knT o l m ps base last))) := by
  have hkv := kvb_iff.1 hk
  obtain ⟨n1, hb, hla, hps⟩ := hkv.nums
  have hs := hkv.s
  have HR := Lib.hid (show Rd encP w a cap ps from hr)
  have HT := Lib.hid ht
  obtain ⟨i0, hi, hz0, hz1, hz2⟩ := info_parts infoString
  have hmk : ∀ W : World, (Instr.makeSlice 51 (.int .i64 (ps.length : Int)) (.int .i64 (ps.length : Int))).run Tryz.prog W = .ok (.slice (some ⟨W.heap.size, 0, none⟩) ps.length ps.length) (W.alloc (.cells (madeCells (Value.string ⟨#[]⟩).cells ps.length) 9)) := by
    intro W
    have := run_make (P := Tryz.prog) (w := W) 51 9 i0 _ Tryz.underlying51 hi hz0 .i64 .i64 (ps.length : Int) (ps.length : Int) (by omega) (by omega) (by rw [hz2]; omega) (by omega)
    rw [hz1] at this
    simpa using this
  clear hr ht
  go_enter Tryz.func22, Tryz.ntmps22
  go_wp2_with fail
  refine (KnownValid_any o l m a cap ps base last _ (by (try unfold RdP); repeat (first | (with_reducible exact HR.out) | (with_reducible apply rd_seq) | (with_reducible apply Rd.plus) | (with_reducible apply Rd.alloc) | (with_reducible apply Rd.drew) | (with_reducible apply Rd.drewN)))).mono ?_
  rintro e w' ⟨rfl, x1, rfl⟩
  rw [hk]
  clear hk
  go_wp2_with fail
  refine wp_nmF (fun X => FW w X (w.heap.size + 1 + x1.n) (.cells #[.int .i64 o, .int .i64 l, .int .i64 m, .slice a ps.length cap, .int .i64 base, .int .i64 last] 26 (0, 0)) (madeCells (Value.string ⟨#[]⟩).cells ps.length)) ⟨(by repeat (first | (with_reducible exact pushF _ _ _ rfl) | (with_reducible exact pushF _ _ _ (by simp)) | (with_reducible apply plusF) | (with_reducible apply allocF) | (with_reducible apply drewF))), pushF _ _ _ (by simp), (by repeat (first | exact Below.refl _ _ | refine below_plus ?_ (by first | omega | (simp <;> omega)) _ | refine Below.alloc ?_ (by first | omega | (simp <;> omega)) _ | refine below_patch ?_ (by omega) _ | refine Below.drew ?_)), by omega⟩ ?_
  generalize w.heap.size + 1 + x1.n = C
  intro X hX
  go_loopw [16] (fun i wr => ∃ (k : Nat) (cur : Array Value), k ≤ ps.length ∧ i = .int .i64 k ∧ cur.size = ps.length ∧ UpToS cur (ps.map prT) k ∧ FW w wr C (.cells #[.int .i64 o, .int .i64 l, .int .i64 m, .slice a ps.length cap, .int .i64 base, .int .i64 last] 26 (0, 0)) cur) (fun i _ => ps.length - (intOf i).toNat)
  case atStart => exact ⟨0, _, Nat.zero_le _, rfl, by simp [size_madeCells], UpToS.zero _ _, hX⟩
  case round =>
    obtain ⟨k, cur, hk, rfl, hcs, hup, hf⟩ := hrel
    clear hX X
    have HF := Lib.hid hf
    have HT2 := Lib.hid (HT.out.below hf.bel)
    have hR2 := rdF HR.out hf.bel
    obtain ⟨r1, r2, r3⟩ := RdP.open (show RdP _ a cap ps from hR2)
    have hlo := hf.low
    have hC := hf.lt
    clear hf hR2
    rcases dec (k < ps.length) with ⟨hlt, blt⟩ | ⟨hlt, blt⟩
    · have hex : ∃ p, ps[k]? = some p := ⟨ps[k], List.getElem?_eq_getElem hlt⟩
      obtain ⟨p, hp⟩ := hex
      rcases r3 with rfl | ⟨b, off, rfl, hb', hc⟩
      · exact absurd hlt (by omega)
      · obtain ⟨c1, c2⟩ := hc k p hp
        obtain ⟨hpp, hpb⟩ := hps k p hp
        have z1 := hpp.size
        have z2 := hpb.size
        have HU := Lib.hid (uts_next hup (show (ps.map prT)[k]? = some (prT p) by rw [List.getElem?_map, hp]; rfl) (by omega))
        have HCS := Lib.hid hcs
        obtain ⟨v, hv⟩ := get_some (cur := cur) (i := k) (by omega)
        clear hp hc hup hcs
        go_wp2_with fail
        refine wp_region_pt 10 (fun w' => w'.heap[wr.heap.size]? = some (.cells #[.int .i64 p.p, .int .i64 p.b] 81 (0, 0))) (Plan.quiet 0 (Plan.quiet 1 (Plan.quiet 2 (Plan.quiet 3 (Plan.quiet 6 (Plan.quiet 7 (Plan.one 4 (Plan.quiet 5 (Plan.one 8 (Plan.quiet 9 (Plan.one 10 (Plan.one 11 Plan.done)))))))))))) (by kernel_rfl) (by kernel_rfl) ((by repeat (first | (with_reducible exact pushF _ _ _ rfl) | (with_reducible exact pushF _ _ _ (by simp)) | (with_reducible apply plusF) | (with_reducible apply allocF) | (with_reducible apply drewF)))) ?_
        refine wpPt_val rfl rfl ?_
        apply Exists.intro
        refine ⟨fun w' hS => ?_, ?_⟩
        focus (have rS := cell_of hS; simp [go_sem, ↓IntWalk.iteOmega, rS] <;> first | done | exact rfl | (rw [IntWalk.i64_in _ (by omega)]; exact rfl) | trace_state)
        refine wpPt_val rfl rfl ?_
        apply Exists.intro
        refine ⟨fun w' hS => ?_, ?_⟩
        focus (have rS := cell_of hS; simp [go_sem, ↓IntWalk.iteOmega, rS] <;> first | done | exact rfl | (rw [IntWalk.i64_in _ (by omega)]; exact rfl) | trace_state)
        refine wpPt_val rfl rfl ?_
        apply Exists.intro
        refine ⟨fun w' hS => ?_, ?_⟩
        focus (have rS := cell_of hS; simp [go_sem, ↓IntWalk.iteOmega, rS] <;> first | done | exact rfl | (rw [IntWalk.i64_in _ (by omega)]; exact rfl) | trace_state)
        refine wpPt_val rfl rfl ?_
        apply Exists.intro
        refine ⟨fun w' hS => ?_, ?_⟩
        focus (have rS := cell_of hS; simp [go_sem, ↓IntWalk.iteOmega, rS] <;> first | done | exact rfl | (rw [IntWalk.i64_in _ (by omega)]; exact rfl) | trace_state)
        refine wpPt_val rfl rfl ?_
        apply Exists.intro
        refine ⟨fun w' hS => ?_, ?_⟩
        focus (have rS := cell_of hS; simp [go_sem, ↓IntWalk.iteOmega, rS] <;> first | done | exact rfl | (rw [IntWalk.i64_in _ (by omega)]; exact rfl) | trace_state)
        refine wpPt_val rfl rfl ?_
        apply Exists.intro
        refine ⟨fun w' hS => ?_, ?_⟩
        focus (have rS := cell_of hS; simp [go_sem, ↓IntWalk.iteOmega, rS] <;> first | done | exact rfl | (rw [IntWalk.i64_in _ (by omega)]; exact rfl) | trace_state)
        refine wpPt_one rfl rfl (fun K hK => ?_)
        go_simp
        refine (Itoa_sml _ _ hpp (by repeat (first | (with_reducible exact HT2.out) | (with_reducible apply tbq_seq) | (with_reducible apply Tb.plus) | (with_reducible apply Tb.alloc) | (with_reducible apply Tb.drew)))).mono ?_
        rintro e w4 ⟨rfl, hm4⟩
        have hm4 : More _ w4 := hm4
        have HF4 := Lib.hid ((HF.out.more ((by repeat (first | exact More.refl _ | apply More.plus | apply More.alloc | apply More.drew | apply More.drewN)))).more hm4)
        have HP4 := Lib.hid (blk_mo (ob := .cells #[.int .i64 p.p, .int .i64 p.b] 81 (0, 0)) (b := wr.heap.size) (by repeat (first | (with_reducible exact pushF _ _ _ rfl) | (with_reducible exact pushF _ _ _ (by simp)) | (with_reducible apply plusF) | (with_reducible apply allocF) | (with_reducible apply drewF))) hm4)
        have HT4 := Lib.hid (HT.out.below HF4.out.bel)
        clear hm4
        refine hK _ _ (fun hkn => HP4.out) ?_
        clear hK K
        refine wpPt_val rfl rfl ?_
        apply Exists.intro
        refine ⟨fun w' hS => ?_, ?_⟩
        focus (have rS := cell_of hS; simp [go_sem, ↓IntWalk.iteOmega, rS] <;> first | done | exact rfl | (rw [IntWalk.i64_in _ (by omega)]; exact rfl) | trace_state)
        refine wpPt_one rfl rfl (fun K hK => ?_)
        go_simp
        refine (Itoa_sml _ _ hpb (by repeat (first | (with_reducible exact HT4.out) | (with_reducible apply tbq_seq) | (with_reducible apply Tb.plus) | (with_reducible apply Tb.alloc) | (with_reducible apply Tb.drew)))).mono ?_
        rintro e w8 ⟨rfl, hm8⟩
        have hm8 : More _ w8 := hm8
        have HF8 := Lib.hid (HF4.out.more hm8)
        have HP8 := Lib.hid (blk_mo HP4.out hm8)
        have y8 := HF8.out.lt
        have r8 := cell_of HF8.out.blk
        have f8 := free_of HF8.out.blk
        have s8 := fun i v => setCell_patch HF8.out.blk i v
        clear hm8
        refine hK _ _ (fun hkn => HP8.out) ?_
        clear hK K
        refine wpPt_val rfl rfl ?_
        apply Exists.intro
        refine ⟨fun w' hS => ?_, ?_⟩
        focus (have rS := cell_of hS; simp [go_sem, ↓IntWalk.iteOmega, rS] <;> first | done | exact rfl | (rw [IntWalk.i64_in _ (by omega)]; exact rfl) | trace_state)
        refine wpPt_one rfl rfl (fun K hK => ?_)
        go_simp
        refine hK _ _ (fun hkn => absurd hkn (by decide)) ?_
        clear hK K
        refine wpPt_one rfl rfl (fun K hK => ?_)
        go_simp
        refine hK _ _ (fun hkn => absurd hkn (by decide)) ?_
        clear hK K
        refine NoPanic.normal ?_
        go_wp2_with fail
        go_roundw
        case rel => exact ⟨k + 1, _, by omega, by go_num, by simp [HCS.out], HU.out, HF8.out.patch⟩
        case measure => simp [intOf]; omega
    · obtain rfl : k = ps.length := by omega
      have zS := setT_size hs
      have zb := hb.size
      have zl := hla.size
      have zT := prsT_size hps ps.length (Nat.le_refl _)
      rw [prsT_all ps (Nat.le_refl _)] at zT
      have zO := orD_size (n := ps.length * 12 + 1) (by omega : (joinB ⟨#[44]⟩ (ps.map prT)).size ≤ _) (by omega)
      have HU := Lib.hid hup
      have HZ := Lib.hid (show (joinB ⟨#[59]⟩ [setT o l m, decB base, decB last, orD (joinB ⟨#[44]⟩ (ps.map prT))]).size ≤ 10000000 by
        rw [joinB_four, ByteArray.size_append, ByteArray.size_append, ByteArray.size_append, ByteArray.size_append, ByteArray.size_append, ByteArray.size_append]
        show _ + 1 + _ + 1 + _ + 1 + _ ≤ _
        omega)
      clear hup
      go_wp2_with fail
      refine wp_region_pt 14 (fun w' => w'.heap[w.heap.size]? = some (.cells #[.int .i64 o, .int .i64 l, .int .i64 m, .slice a ps.length cap, .int .i64 base, .int .i64 last] 26 (0, 0))) (Plan.quiet 0 (Plan.quiet 1 (Plan.quiet 3 (Plan.quiet 4 (Plan.quiet 6 (Plan.quiet 7 (Plan.quiet 9 (Plan.one 2 (Plan.one 5 (Plan.one 8 (Plan.one 10 (Plan.one 11 (Plan.one 12 (Plan.one 13 (Plan.one 14 Plan.done))))))))))))))) (by kernel_rfl) (by kernel_rfl) (drewF HF.out.kn) ?_
      refine wpPt_val rfl rfl ?_
      apply Exists.intro
      refine ⟨fun w' hS => ?_, ?_⟩
      focus (have rS := cell_of hS; simp [go_sem, ↓IntWalk.iteOmega, rS] <;> first | done | exact rfl | (rw [IntWalk.i64_in _ (by omega)]; exact rfl) | trace_state)
      refine wpPt_val rfl rfl ?_
      apply Exists.intro
      refine ⟨fun w' hS => ?_, ?_⟩
      focus (have rS := cell_of hS; simp [go_sem, ↓IntWalk.iteOmega, rS] <;> first | done | exact rfl | (rw [IntWalk.i64_in _ (by omega)]; exact rfl) | trace_state)
      refine wpPt_val rfl rfl ?_
      apply Exists.intro
      refine ⟨fun w' hS => ?_, ?_⟩
      focus (have rS := cell_of hS; simp [go_sem, ↓IntWalk.iteOmega, rS] <;> first | done | exact rfl | (rw [IntWalk.i64_in _ (by omega)]; exact rfl) | trace_state)
      refine wpPt_val rfl rfl ?_
      apply Exists.intro
      refine ⟨fun w' hS => ?_, ?_⟩
      focus (have rS := cell_of hS; simp [go_sem, ↓IntWalk.iteOmega, rS] <;> first | done | exact rfl | (rw [IntWalk.i64_in _ (by omega)]; exact rfl) | trace_state)
      refine wpPt_val rfl rfl ?_
      apply Exists.intro
      refine ⟨fun w' hS => ?_, ?_⟩
      focus (have rS := cell_of hS; simp [go_sem, ↓IntWalk.iteOmega, rS] <;> first | done | exact rfl | (rw [IntWalk.i64_in _ (by omega)]; exact rfl) | trace_state)
      refine wpPt_val rfl rfl ?_
      apply Exists.intro
      refine ⟨fun w' hS => ?_, ?_⟩
      focus (have rS := cell_of hS; simp [go_sem, ↓IntWalk.iteOmega, rS] <;> first | done | exact rfl | (rw [IntWalk.i64_in _ (by omega)]; exact rfl) | trace_state)
      refine wpPt_val rfl rfl ?_
      apply Exists.intro
      refine ⟨fun w' hS => ?_, ?_⟩
      focus (have rS := cell_of hS; simp [go_sem, ↓IntWalk.iteOmega, rS] <;> first | done | exact rfl | (rw [IntWalk.i64_in _ (by omega)]; exact rfl) | trace_state)
      refine wpPt_one rfl rfl (fun K hK => ?_)
      go_simp
      refine (FormatSetting_any o l m _ hs (by repeat (first | (with_reducible exact HT2.out) | (with_reducible apply tbq_seq) | (with_reducible apply Tb.plus) | (with_reducible apply Tb.alloc) | (with_reducible apply Tb.drew)))).mono ?_
      rintro e w2 ⟨rfl, hm2⟩
      have hm2 : More _ w2 := hm2
      have HF2 := Lib.hid ((HF.out.more ((by repeat (first | exact More.refl _ | apply More.plus | apply More.alloc | apply More.drew | apply More.drewN)))).more hm2)
      have HT4 := Lib.hid (HT.out.below HF2.out.bel)
      clear hm2
      refine hK _ _ (fun hkn => HF2.out.kn) ?_
      clear hK K
      refine wpPt_one rfl rfl (fun K hK => ?_)
      go_simp
      refine (Itoa_sml _ _ hb (by repeat (first | (with_reducible exact HT4.out) | (with_reducible apply tbq_seq) | (with_reducible apply Tb.plus) | (with_reducible apply Tb.alloc) | (with_reducible apply Tb.drew)))).mono ?_
      rintro e w5 ⟨rfl, hm5⟩
      have hm5 : More _ w5 := hm5
      have HF5 := Lib.hid (HF2.out.more hm5)
      have HT5 := Lib.hid (HT.out.below HF5.out.bel)
      clear hm5
      refine hK _ _ (fun hkn => HF5.out.kn) ?_
      clear hK K
      refine wpPt_one rfl rfl (fun K hK => ?_)
      go_simp
      refine (Itoa_sml _ _ hla (by repeat (first | (with_reducible exact HT5.out) | (with_reducible apply tbq_seq) | (with_reducible apply Tb.plus) | (with_reducible apply Tb.alloc) | (with_reducible apply Tb.drew)))).mono ?_
      rintro e w8 ⟨rfl, hm8⟩
      have hm8 : More _ w8 := hm8
      have HF8 := Lib.hid (HF5.out.more hm8)
      clear hm8
      refine hK _ _ (fun hkn => HF8.out.kn) ?_
      clear hK K
      refine wpPt_one rfl rfl (fun K hK => ?_)
      go_simp
      refine (Join_any C ps.length ps.length (ps.map prT) ⟨#[44]⟩ w8 (by rw [List.length_map]) (fun j x h => by rw [cell_of HF8.out.blk]; exact HU.out j x h (by have := (List.getElem?_eq_some_iff.1 h).1; rw [List.length_map] at this; exact this)) HF8.out.lt (by rw [List.length_map]; omega) (by rw [List.length_map]; exact Nat.le_refl _) (by omega)).mono ?_
      rintro e w10 ⟨rfl, hm10⟩
      have hm10 : More _ w10 := hm10
      have HF10 := Lib.hid (HF8.out.more hm10)
      clear hm10
      refine hK _ _ (fun hkn => HF10.out.kn) ?_
      clear hK K
      refine wpPt_one rfl rfl (fun K hK => ?_)
      go_simp
      refine (orDash_any _ _).mono ?_
      rintro e w11 ⟨rfl, hm11⟩
      have hm11 : More _ w11 := hm11
      have HF11 := Lib.hid (HF10.out.more hm11)
      clear hm11
      refine hK _ _ (fun hkn => HF11.out.kn) ?_
      clear hK K
      refine wpPt_one rfl rfl (fun K hK => ?_)
      go_simp
      refine hK _ _ (fun hkn => allocF HF11.out.kn _) ?_
      clear hK K
      refine wpPt_one rfl rfl (fun K hK => ?_)
      go_simp
      refine (Join_any w11.heap.size 4 4 [setT o l m, decB base, decB last, orD (joinB ⟨#[44]⟩ (ps.map prT))] ⟨#[59]⟩ _ rfl (cells_str (e := 9) (pushF w11 _ _ rfl)) (by simp) (show (4 : Nat) ≤ 100000 by decide) (Nat.le_refl _) HZ.out).mono ?_
      rintro e w13 ⟨rfl, hm13⟩
      have hm13 : More _ w13 := hm13
      have HF13 := Lib.hid ((HF11.out.more (More.alloc (More.refl _) _)).more hm13)
      clear hm13
      refine hK _ _ (fun hkn => HF13.out.kn) ?_
      clear hK K
      refine wpPt_one rfl rfl (fun K hK => ?_)
      go_simp
      refine hK _ _ (fun hkn => absurd hkn (by decide)) ?_
      clear hK K
      refine NoPanic.normal ?_
      go_wp2_with fail
      go_ret
      exact ret_of rfl (below_more HF13.out.bel)

end Go.Proofs.YtmddcbebaijjkaaGreatDoor

/- A reader's text: the reference's and the program's. -/
namespace Go.Proofs.YtmddcbebaijjkaaGreatDoor
open Go.RowKit
set_option linter.unusedVariables false
set_option linter.unusedSimpArgs false

theorem knT_size {o l m : Int} {ps : List Pr} {base last : Int} (h : KV o l m ps base last) : (knT o l m ps base last).size ≤ 20000 := by
  obtain ⟨n1, hb, hla, hps⟩ := h.nums
  have zS := setT_size h.s
  have zb := hb.size
  have zl := hla.size
  have zT := prsT_size hps ps.length (Nat.le_refl _)
  rw [prsT_all ps (Nat.le_refl _)] at zT
  have zO := orD_size (n := ps.length * 12 + 1) (by omega : (joinB ⟨#[44]⟩ (ps.map prT)).size ≤ _) (by omega)
  unfold knT
  rw [joinB_four, ByteArray.size_append, ByteArray.size_append, ByteArray.size_append, ByteArray.size_append, ByteArray.size_append, ByteArray.size_append]
  show _ + 1 + _ + 1 + _ + 1 + _ ≤ _
  omega

theorem RV.nums {l m n last : Int} {s : ByteArray} {z c e : Int} (h : RV l m n last s z c e) : Sml z ∧ Sml c ∧ Sml e := by
  have h1 := h.z0
  have h2 := h.z1
  have h3 := h.c0
  have h4 := h.c1
  refine ⟨⟨by omega, by omega⟩, ⟨by omega, by omega⟩, ?_⟩
  rcases RV.e h with h5 | h5
  · exact ⟨by omega, by omega⟩
  · exact ⟨by omega, by omega⟩

theorem specFormatReader_no (o l m : Int) (a : Option Addr) (cap : Nat) (ps : List Pr) (base last : Int) (s : ByteArray) (z c e : Int) (w : World) (hr : RdP w a cap ps) (hs : s.size ≤ maxLen) (hk : rdb o l m ps base last s z c e = false) :
    Calls Tryz.prog 18 #[.agg #[.int .i64 o, .int .i64 l, .int .i64 m, .slice a ps.length cap, .int .i64 base, .int .i64 last, .string s, .int .i64 z, .int .i64 c, .int .i64 e]] w (Ret w (.string ⟨#[]⟩)) := by
  have HR := Lib.hid (show Rd encP w a cap ps from hr)
  clear hr
  go_enter Tryz.func18, Tryz.ntmps18
  go_wp2_with fail
  refine (specReaderValid_any o l m a cap ps base last s z c e _ (by (try unfold RdP); repeat (first | (with_reducible exact HR.out) | (with_reducible apply rd_seq) | (with_reducible apply Rd.plus) | (with_reducible apply Rd.alloc) | (with_reducible apply Rd.drew) | (with_reducible apply Rd.drewN))) hs).mono ?_
  rintro E w' ⟨rfl, x1, rfl⟩
  rw [hk]
  go_wp2
  go_ret
  exact ret_of rfl (by repeat (first | exact More.refl _ | apply More.plus | apply More.alloc | apply More.drew | apply More.drewN))

theorem implFormatReader_no (o l m : Int) (a : Option Addr) (cap : Nat) (ps : List Pr) (base last : Int) (s : ByteArray) (z c e : Int) (w : World) (hr : RdP w a cap ps) (hs : s.size ≤ maxLen) (hk : rdb o l m ps base last s z c e = false) :
    Calls Tryz.prog 16 #[.agg #[.int .i64 o, .int .i64 l, .int .i64 m, .slice a ps.length cap, .int .i64 base, .int .i64 last, .string s, .int .i64 z, .int .i64 c, .int .i64 e]] w (Ret w (.string ⟨#[]⟩)) := by
  have HR := Lib.hid (show Rd encP w a cap ps from hr)
  clear hr
  go_enter Tryz.func16, Tryz.ntmps16
  go_wp2_with fail
  refine (ReaderValid_any o l m a cap ps base last s z c e _ (by (try unfold RdP); repeat (first | (with_reducible exact HR.out) | (with_reducible apply rd_seq) | (with_reducible apply Rd.plus) | (with_reducible apply Rd.alloc) | (with_reducible apply Rd.drew) | (with_reducible apply Rd.drewN))) hs).mono ?_
  rintro E w' ⟨rfl, x1, rfl⟩
  rw [hk]
  go_wp2
  go_ret
  exact ret_of rfl (by repeat (first | exact More.refl _ | apply More.plus | apply More.alloc | apply More.drew | apply More.drewN))

set_option maxRecDepth 100000 in
set_option maxHeartbeats 4000000 in
theorem specFormatReader_yes (o l m : Int) (a : Option Addr) (cap : Nat) (ps : List Pr) (base last : Int) (s : ByteArray) (z c e : Int) (w : World) (hr : RdP w a cap ps) (hs : s.size ≤ 1048576) (hk : rdb o l m ps base last s z c e = true) :
    Calls Tryz.prog 18 #[.agg #[.int .i64 o, .int .i64 l, .int .i64 m, .slice a ps.length cap, .int .i64 base, .int .i64 last, .string s, .int .i64 z, .int .i64 c, .int .i64 e]] w (Ret w (.string (rdT o l m ps base last s z c e))) := by
  obtain ⟨hkv, hrv⟩ := rdb_parts hk
  have hkb := kvb_iff.2 hkv
  obtain ⟨hz, hc, he⟩ := hrv.nums
  have HR := Lib.hid (fun y => Rd.plus (Rd.alloc (show Rd encP w a cap ps from hr) (.cells #[.int .i64 o, .int .i64 l, .int .i64 m, .slice a ps.length cap, .int .i64 base, .int .i64 last, .string s, .int .i64 z, .int .i64 c, .int .i64 e] 28)) y)
  have HRv := Lib.hid (show Rd encP w a cap ps from hr)
  have zK := knT_size hkv
  have zz := hz.size
  have zc := hc.size
  have ze := he.size
  have zO := orD_size (n := s.size + 1) (t := s) (by omega) (by omega)
  have HE := Lib.hid (joinB_five ⟨#[124]⟩ (knT o l m ps base last) (orD s) (decB z) (decB c) (decB e))
  clear hr
  go_enter Tryz.func18, Tryz.ntmps18
  go_wp2_with fail
  refine (specReaderValid_any o l m a cap ps base last s z c e _ (by (try unfold RdP); repeat (first | (with_reducible exact HRv.out) | (with_reducible apply rd_seq) | (with_reducible apply Rd.plus) | (with_reducible apply Rd.alloc) | (with_reducible apply Rd.drew) | (with_reducible apply Rd.drewN))) (by unfold maxLen; omega)).mono ?_
  rintro E w' ⟨rfl, x1, rfl⟩
  rw [hk]
  clear hk
  go_wp2_with fail
  (refine wp_region_calm (by kernel_rfl) (by kernel_rfl) ?_
   repeat (first | go_big_quiet_skip | (go_big_quiet_want; go_big_quiet_op; first | go_big_quiet_on | (apply Exists.intro; refine ⟨fun _ => ?_, ?_⟩; (focus ((first | (go_at_call 23; first | refine calm_of (specFormatKnown_yes o l m a cap ps base last _ (HR.out _) hkb) | refine calm_seq (specFormatKnown_yes o l m a cap ps base last _ (HR.out _) hkb)) | (go_at_call 56; first | refine calm_of (l9Dec_sml _ _ (by assumption)) | refine calm_seq (l9Dec_sml _ _ (by assumption))) | (go_at_call 55; first | refine calm_of (l3Some_any _ _) | refine calm_seq (l3Some_any _ _))))); go_big_quiet_on)))
   refine wpQuiet_nil ?_
   intro _ hw'
   obtain ⟨xq, hw''⟩ := hw'
   subst hw'')
  go_wp2
  go_ret
  exact ret_of (by rw [rdT, HE.out]; rfl) (by repeat (first | exact More.refl _ | apply More.plus | apply More.alloc | apply More.drew | apply More.drewN))

set_option maxRecDepth 100000 in
set_option maxHeartbeats 4000000 in
theorem implFormatReader_yes (o l m : Int) (a : Option Addr) (cap : Nat) (ps : List Pr) (base last : Int) (s : ByteArray) (z c e : Int) (w : World) (hr : RdP w a cap ps) (hs : s.size ≤ 1048576) (hk : rdb o l m ps base last s z c e = true) (ht : Tb w) :
    Calls Tryz.prog 16 #[.agg #[.int .i64 o, .int .i64 l, .int .i64 m, .slice a ps.length cap, .int .i64 base, .int .i64 last, .string s, .int .i64 z, .int .i64 c, .int .i64 e]] w (Ret w (.string (rdT o l m ps base last s z c e))) := by
  obtain ⟨hkv, hrv⟩ := rdb_parts hk
  have hkb := kvb_iff.2 hkv
  obtain ⟨hz, hc, he⟩ := hrv.nums
  have HRv := Lib.hid (show Rd encP w a cap ps from hr)
  have HT := Lib.hid ht
  have zK := knT_size hkv
  have zz := hz.size
  have zc := hc.size
  have ze := he.size
  have zO := orD_size (n := s.size + 1) (t := s) (by omega) (by omega)
  have HZ := Lib.hid (show (joinB ⟨#[124]⟩ [knT o l m ps base last, orD s, decB z, decB c, decB e]).size ≤ 10000000 by
    rw [joinB_five, ByteArray.size_append, ByteArray.size_append, ByteArray.size_append, ByteArray.size_append, ByteArray.size_append, ByteArray.size_append, ByteArray.size_append, ByteArray.size_append]
    show _ + 1 + _ + 1 + _ + 1 + _ + 1 + _ ≤ _
    omega)
  clear hr ht
  go_enter Tryz.func16, Tryz.ntmps16
  go_wp2_with fail
  refine (ReaderValid_any o l m a cap ps base last s z c e _ (by (try unfold RdP); repeat (first | (with_reducible exact HRv.out) | (with_reducible apply rd_seq) | (with_reducible apply Rd.plus) | (with_reducible apply Rd.alloc) | (with_reducible apply Rd.drew) | (with_reducible apply Rd.drewN))) (by unfold maxLen; omega)).mono ?_
  rintro E w' ⟨rfl, x1, rfl⟩
  rw [hk]
  clear hk
  go_wp2_with fail
  refine wp_nmF (fun X => X.heap[w.heap.size]? = some (.cells #[.int .i64 o, .int .i64 l, .int .i64 m, .slice a ps.length cap, .int .i64 base, .int .i64 last, .string s, .int .i64 z, .int .i64 c, .int .i64 e] 28 (0, 0)) ∧ Below w.heap.size w X) ⟨(by repeat (first | (with_reducible exact pushF _ _ _ rfl) | (with_reducible exact pushF _ _ _ (by simp)) | (with_reducible apply plusF) | (with_reducible apply allocF) | (with_reducible apply drewF))), (by repeat (first | exact Below.refl _ _ | refine below_plus ?_ (by first | omega | (simp <;> omega)) _ | refine Below.alloc ?_ (by first | omega | (simp <;> omega)) _ | refine below_patch ?_ (by omega) _ | refine Below.drew ?_))⟩ ?_
  intro X hX
  have HB := Lib.hid hX.2
  have HK := Lib.hid hX.1
  clear hX
  refine wp_region_pt 17 (fun w' => w'.heap[w.heap.size]? = some (.cells #[.int .i64 o, .int .i64 l, .int .i64 m, .slice a ps.length cap, .int .i64 base, .int .i64 last, .string s, .int .i64 z, .int .i64 c, .int .i64 e] 28 (0, 0))) (Plan.quiet 0 (Plan.quiet 1 (Plan.quiet 3 (Plan.quiet 4 (Plan.quiet 6 (Plan.quiet 7 (Plan.quiet 9 (Plan.quiet 10 (Plan.quiet 12 (Plan.quiet 13 (Plan.one 2 (Plan.one 5 (Plan.one 8 (Plan.one 11 (Plan.one 14 (Plan.one 15 (Plan.one 16 (Plan.one 17 Plan.done)))))))))))))))))) (by kernel_rfl) (by kernel_rfl) (drewF HK.out) ?_
  refine wpPt_val rfl rfl ?_
  apply Exists.intro
  refine ⟨fun w' hS => ?_, ?_⟩
  focus (have rS := cell_of hS; simp [go_sem, ↓IntWalk.iteOmega, rS] <;> first | done | exact rfl | (rw [IntWalk.i64_in _ (by omega)]; exact rfl) | trace_state)
  refine wpPt_val rfl rfl ?_
  apply Exists.intro
  refine ⟨fun w' hS => ?_, ?_⟩
  focus (have rS := cell_of hS; simp [go_sem, ↓IntWalk.iteOmega, rS] <;> first | done | exact rfl | (rw [IntWalk.i64_in _ (by omega)]; exact rfl) | trace_state)
  refine wpPt_val rfl rfl ?_
  apply Exists.intro
  refine ⟨fun w' hS => ?_, ?_⟩
  focus (have rS := cell_of hS; simp [go_sem, ↓IntWalk.iteOmega, rS] <;> first | done | exact rfl | (rw [IntWalk.i64_in _ (by omega)]; exact rfl) | trace_state)
  refine wpPt_val rfl rfl ?_
  apply Exists.intro
  refine ⟨fun w' hS => ?_, ?_⟩
  focus (have rS := cell_of hS; simp [go_sem, ↓IntWalk.iteOmega, rS] <;> first | done | exact rfl | (rw [IntWalk.i64_in _ (by omega)]; exact rfl) | trace_state)
  refine wpPt_val rfl rfl ?_
  apply Exists.intro
  refine ⟨fun w' hS => ?_, ?_⟩
  focus (have rS := cell_of hS; simp [go_sem, ↓IntWalk.iteOmega, rS] <;> first | done | exact rfl | (rw [IntWalk.i64_in _ (by omega)]; exact rfl) | trace_state)
  refine wpPt_val rfl rfl ?_
  apply Exists.intro
  refine ⟨fun w' hS => ?_, ?_⟩
  focus (have rS := cell_of hS; simp [go_sem, ↓IntWalk.iteOmega, rS] <;> first | done | exact rfl | (rw [IntWalk.i64_in _ (by omega)]; exact rfl) | trace_state)
  refine wpPt_val rfl rfl ?_
  apply Exists.intro
  refine ⟨fun w' hS => ?_, ?_⟩
  focus (have rS := cell_of hS; simp [go_sem, ↓IntWalk.iteOmega, rS] <;> first | done | exact rfl | (rw [IntWalk.i64_in _ (by omega)]; exact rfl) | trace_state)
  refine wpPt_val rfl rfl ?_
  apply Exists.intro
  refine ⟨fun w' hS => ?_, ?_⟩
  focus (have rS := cell_of hS; simp [go_sem, ↓IntWalk.iteOmega, rS] <;> first | done | exact rfl | (rw [IntWalk.i64_in _ (by omega)]; exact rfl) | trace_state)
  refine wpPt_val rfl rfl ?_
  apply Exists.intro
  refine ⟨fun w' hS => ?_, ?_⟩
  focus (have rS := cell_of hS; simp [go_sem, ↓IntWalk.iteOmega, rS] <;> first | done | exact rfl | (rw [IntWalk.i64_in _ (by omega)]; exact rfl) | trace_state)
  refine wpPt_val rfl rfl ?_
  apply Exists.intro
  refine ⟨fun w' hS => ?_, ?_⟩
  focus (have rS := cell_of hS; simp [go_sem, ↓IntWalk.iteOmega, rS] <;> first | done | exact rfl | (rw [IntWalk.i64_in _ (by omega)]; exact rfl) | trace_state)
  refine wpPt_one rfl rfl (fun K hK => ?_)
  go_simp
  refine (implFormatKnown_yes o l m a cap ps base last X.drew (rdF HRv.out (HB.out.drew)) hkb (HT.out.below HB.out.drew)).mono ?_
  rintro E w2 ⟨rfl, hm2⟩
  have HB2 := Lib.hid (HB.out.drew.trans ((more_below (show More _ w2 from hm2)).mono HB.out.drew.size))
  have HK2 := Lib.hid (blk_mo (drewF HK.out) (show More _ w2 from hm2))
  clear hm2
  refine hK _ _ (fun hkn => HK2.out) ?_
  clear hK K
  refine wpPt_one rfl rfl (fun K hK => ?_)
  go_simp
  refine (orDash_any _ _).mono ?_
  rintro E w5 ⟨rfl, hm5⟩
  have HB5 := Lib.hid (HB2.out.trans ((more_below (show More _ w5 from hm5)).mono HB2.out.size))
  have HK5 := Lib.hid (blk_mo HK2.out (show More _ w5 from hm5))
  clear hm5
  refine hK _ _ (fun hkn => HK5.out) ?_
  clear hK K
  refine wpPt_one rfl rfl (fun K hK => ?_)
  go_simp
  refine (Itoa_sml _ _ hz (HT.out.below HB5.out)).mono ?_
  rintro E w8 ⟨rfl, hm8⟩
  have HB8 := Lib.hid (HB5.out.trans ((more_below (show More _ w8 from hm8)).mono HB5.out.size))
  have HK8 := Lib.hid (blk_mo HK5.out (show More _ w8 from hm8))
  clear hm8
  refine hK _ _ (fun hkn => HK8.out) ?_
  clear hK K
  refine wpPt_one rfl rfl (fun K hK => ?_)
  go_simp
  refine (Itoa_sml _ _ hc (HT.out.below HB8.out)).mono ?_
  rintro E w11 ⟨rfl, hm11⟩
  have HB11 := Lib.hid (HB8.out.trans ((more_below (show More _ w11 from hm11)).mono HB8.out.size))
  have HK11 := Lib.hid (blk_mo HK8.out (show More _ w11 from hm11))
  clear hm11
  refine hK _ _ (fun hkn => HK11.out) ?_
  clear hK K
  refine wpPt_one rfl rfl (fun K hK => ?_)
  go_simp
  refine (Itoa_sml _ _ he (HT.out.below HB11.out)).mono ?_
  rintro E w14 ⟨rfl, hm14⟩
  have HB14 := Lib.hid (HB11.out.trans ((more_below (show More _ w14 from hm14)).mono HB11.out.size))
  have HK14 := Lib.hid (blk_mo HK11.out (show More _ w14 from hm14))
  clear hm14
  refine hK _ _ (fun hkn => HK14.out) ?_
  clear hK K
  refine wpPt_one rfl rfl (fun K hK => ?_)
  go_simp
  refine hK _ _ (fun hkn => allocF HK14.out _) ?_
  clear hK K
  refine wpPt_one rfl rfl (fun K hK => ?_)
  go_simp
  refine (Join_any w14.heap.size 5 5 [knT o l m ps base last, orD s, decB z, decB c, decB e] ⟨#[124]⟩ _ rfl (cells_str (e := 9) (pushF w14 _ _ rfl)) (by simp) (show (5 : Nat) ≤ 100000 by decide) (Nat.le_refl _) HZ.out).mono ?_
  rintro E w16 ⟨rfl, hm16⟩
  have HB16 := Lib.hid ((HB14.out.alloc HB14.out.size _).trans ((more_below (show More _ w16 from hm16)).mono (by have := HB14.out.size; simp; omega)))
  have HK16 := Lib.hid (blk_mo (allocF HK14.out _) (show More _ w16 from hm16))
  clear hm16
  refine hK _ _ (fun hkn => HK16.out) ?_
  clear hK K
  refine wpPt_one rfl rfl (fun K hK => ?_)
  go_simp
  refine hK _ _ (fun hkn => absurd hkn (by decide)) ?_
  clear hK K
  refine NoPanic.normal ?_
  go_wp2_with fail
  go_ret
  exact ret_of rfl (below_more HB16.out)

end Go.Proofs.YtmddcbebaijjkaaGreatDoor
