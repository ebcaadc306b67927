/- Lemmas and walks, part Gl. -/
import Derived.Test.YtmddcbebaijjkaaDoorGa
import Derived.Lib.ItoaNum
import Derived.Lib.Join
import Derived.Test.YtmddcbebaijjkaaDoorGb
import Derived.Test.YtmddcbebaijjkaaDoorShelf
import Derived.Lib.SmallJoins
import Derived.Lib.ItoaMem
import Derived.Test.YtmddcbebaijjkaaDoorGc
import Derived.Test.YtmddcbebaijjkaaDoorGr

/- Plain: the texts of numbers, settings, pairs and of what is known. -/
namespace Go.Proofs.YtmddcbebaijjkaaDoor
open Go.RowKit
set_option linter.unusedVariables false
set_option linter.unusedSimpArgs false

/-- a number's text -/
def decB (n : Int) : ByteArray := ⟨(Lib.itoa n).toArray⟩

/-- the text of natural numbers -/
def decN (n : Nat) : ByteArray := ⟨(Lib.decDigits n).toArray⟩

theorem decB_nat (n : Nat) : decB n = decN n := by
  unfold decB decN Lib.itoa
  rw [if_neg (by omega)]
  rfl

theorem decB_neg (n : Nat) (h : 0 < n) : decB (-(n : Int)) = (⟨#[45]⟩ : ByteArray) ++ decN n := by
  unfold decB decN Lib.itoa
  rw [if_pos (by omega), Int.natAbs_neg, Int.natAbs_natCast]
  apply ByteArray.ext
  simp

theorem decN_step (n : Nat) (h : 9 < n) : decN n = decN (n / 10) ++ (⟨#[UInt8.ofNat (48 + n % 10)]⟩ : ByteArray) := by
  unfold decN
  rw [Lib.decDigits, dif_neg (by omega)]
  apply ByteArray.ext
  simp

theorem decN_one (n : Nat) (h : n < 10) : decN n = (⟨#[UInt8.ofNat (48 + n)]⟩ : ByteArray) := by
  unfold decN
  rw [Lib.decDigits, dif_pos h]

theorem decN_size : ∀ (k n : Nat), n < 10 ^ (k + 1) → (decN n).size ≤ k + 1
  | 0, n, h => by rw [decN_one n (by simpa using h)]; exact Nat.le_refl 1
  | k + 1, n, h => by
    by_cases h9 : n < 10
    · rw [decN_one n h9]
      show 1 ≤ _
      omega
    · rw [decN_step n (by omega), ByteArray.size_append]
      have := decN_size k (n / 10) (by rw [Nat.div_lt_iff_lt_mul (by omega)]; rw [Nat.pow_succ] at h; exact h)
      show _ + 1 ≤ _
      omega

theorem decB_size {n : Int} (h1 : -1 ≤ n) (h2 : n < 100000) : (decB n).size ≤ 5 := by
  rcases (by omega : n = -1 ∨ 0 ≤ n) with rfl | h
  · rw [show (-1 : Int) = -((1 : Nat) : Int) from rfl, decB_neg 1 (by omega), decN_one 1 (by omega)]
    decide
  · rw [show n = ((n.toNat : Nat) : Int) by omega, decB_nat]
    exact decN_size 4 _ (by omega)

/-- a pair's text -/
def prT (p : Pr) : ByteArray := decB p.p ++ (⟨#[46]⟩ : ByteArray) ++ decB p.b

/-- texts with a text between them -/
def joinB (sep : ByteArray) : List ByteArray → ByteArray
  | [] => ⟨#[]⟩
  | [x] => x
  | x :: y :: r => x ++ sep ++ joinB sep (y :: r)

theorem joinB_lib (sep : ByteArray) : ∀ xs : List ByteArray, (⟨(Lib.join (xs.map (·.data.toList)) sep.data.toList).toArray⟩ : ByteArray) = joinB sep xs
  | [] => rfl
  | [x] => by rw [List.map_cons, List.map_nil, Lib.join_one, joinB]
  | x :: y :: r => by
    have h := joinB_lib sep (y :: r)
    rw [joinB, ← h]
    apply ByteArray.ext
    simp [Lib.join]

theorem joinB_snoc (sep : ByteArray) (z : ByteArray) : ∀ xs : List ByteArray, xs ≠ [] → joinB sep (xs ++ [z]) = joinB sep xs ++ sep ++ z
  | [], h => absurd rfl h
  | [x], _ => rfl
  | x :: y :: r, _ => by
    have h := joinB_snoc sep z (y :: r) (by simp)
    show x ++ sep ++ joinB sep ((y :: r) ++ [z]) = x ++ sep ++ joinB sep (y :: r) ++ sep ++ z
    rw [h]
    simp [ByteArray.append_assoc]

theorem joinB_size (sep : ByteArray) (N : Nat) : ∀ xs : List ByteArray, (∀ x ∈ xs, x.size ≤ N) → (joinB sep xs).size ≤ xs.length * (N + sep.size)
  | [], _ => Nat.zero_le _
  | [x], h => by
    have := h x (by simp)
    simp [joinB]
    omega
  | x :: y :: r, h => by
    have h1 := joinB_size sep N (y :: r) (fun z hz => h z (by simp at hz ⊢; right; exact hz))
    have h2 := h x (by simp)
    rw [joinB, ByteArray.size_append, ByteArray.size_append]
    simp only [List.length_cons] at h1 ⊢
    rw [Nat.succ_mul]
    omega

/-- a text, or a dash in place of the empty one -/
def orD (t : ByteArray) : ByteArray := if t.size = 0 then ⟨#[45]⟩ else t

/-- a setting's text -/
def setT (o l m : Int) : ByteArray := (if o = 1 then (⟨#[104, 105, 103, 104]⟩ : ByteArray) else ⟨#[108, 111, 119]⟩) ++ (⟨#[32]⟩ : ByteArray) ++ decB l ++ (⟨#[32]⟩ : ByteArray) ++ decB m

/-- the text of what is known -/
def knT (o l m : Int) (ps : List Pr) (b last : Int) : ByteArray := joinB ⟨#[59]⟩ [setT o l m, decB b, decB last, orD (joinB ⟨#[44]⟩ (ps.map prT))]

end Go.Proofs.YtmddcbebaijjkaaDoor

/- The reference's text of a number. -/
namespace Go.Proofs.YtmddcbebaijjkaaDoor
open Go.RowKit
set_option linter.unusedVariables false
set_option linter.unusedSimpArgs false

theorem one_dg (n : Nat) : one ((48 + n : Nat) : Int) = (⟨#[UInt8.ofNat (48 + n)]⟩ : ByteArray) := by
  unfold one
  rw [Int.toNat_natCast]

set_option maxRecDepth 100000 in
set_option maxHeartbeats 2000000 in
theorem l9Dec_nat (n : Nat) (w : World) (hn : n ≤ 9223372036854775807) : Calls Tryd.prog 22 #[.int .i64 n] w (Ret w (.string (decN n))) := by
  have v0 : decide ((n : Int) < -9223372036854775807) = false := decide_eq_false (by omega)
  have v1 : decide ((n : Int) < 0) = false := decide_eq_false (by omega)
  have HN := Lib.hid (decN_size 18 n (by omega))
  go_enter Tryd.func22, Tryd.ntmps22
  go_wp2
  go_loopw [0, 3] (fun q t wr => ∃ (m : Nat) (u : ByteArray), q = .int .i64 m ∧ t = .string u ∧ m ≤ n ∧ u.size ≤ 100 ∧ decN m ++ u = decN n ∧ More w wr) (fun q _ _ => (intOf q).toNat)
  case atStart => exact ⟨n, ⟨#[]⟩, rfl, rfl, Nat.le_refl _, by decide, by apply ByteArray.ext; simp, More.refl _⟩
  case round =>
    obtain ⟨m, u, rfl, rfl, hm, hu, hd, x, rfl⟩ := hrel
    have HD := Lib.hid hd
    clear hd
    rcases dec (9 < m) with ⟨hlt, v2⟩ | ⟨hlt, v2⟩
    · have v3 : decide ((9 : Int) < (m : Int)) = true := decide_eq_true (by omega)
      have hcv := run_one (P := Tryd.prog) (W := plus w x) Tryd.underlying78 Tryd.underlying5 Tryd.underlying9 (w.heap.size + x.n) (48 + (m : Int) % 10) (by omega) (by omega) (by simp)
      have z2 : (one (48 + (m : Int) % 10)).size ≤ 1 := Nat.le_refl _
      have HE := Lib.hid (show decN (m / 10) ++ (one (48 + (m : Int) % 10) ++ u) = decN n by
        rw [← HD.out, decN_step m hlt, ByteArray.append_assoc, show (48 + (m : Int) % 10) = ((48 + m % 10 : Nat) : Int) by omega, one_dg])
      have HZ := Lib.hid (show (one (48 + (m : Int) % 10) ++ u).size ≤ 100 by
        have h1 := congrArg ByteArray.size HE.out
        rw [ByteArray.size_append] at h1
        have := HN.out
        omega)
      have E3 := Lib.hid (show wrap64 ((m : Int) / 10) = ((m / 10 : Nat) : Int) from wrap64_of (by omega) (by omega))
      go_wp2
      go_roundw
      case rel => exact ⟨m / 10, _, int_val (by first | omega | (rw [E3.out])), by simp, by omega, HZ.out, HE.out, (by repeat (first | exact More.refl _ | apply More.plus | apply More.alloc | apply More.drew | apply More.drewN))⟩
      case measure => simp [intOf, E3.out]; omega
    · have v3 : decide ((9 : Int) < (m : Int)) = false := decide_eq_false (by omega)
      have hcv := run_one (P := Tryd.prog) (W := plus w x) Tryd.underlying78 Tryd.underlying5 Tryd.underlying9 (w.heap.size + x.n) (48 + (m : Int)) (by omega) (by omega) (by simp)
      have z2 : (one (48 + (m : Int))).size ≤ 1 := Nat.le_refl _
      have HE := Lib.hid (show one (48 + (m : Int)) ++ u = decN n by
        rw [← HD.out, decN_one m (by omega), show (48 + (m : Int)) = ((48 + m : Nat) : Int) by omega, one_dg])
      go_wp2
      go_ret
      exact ret_of (by rw [← HE.out]; simp) (by repeat (first | exact More.refl _ | apply More.plus | apply More.alloc | apply More.drew | apply More.drewN))

set_option maxRecDepth 100000 in
theorem l9Dec_any (n : Int) (w : World) (h0 : -9223372036854775807 ≤ n) (h1 : n ≤ 9223372036854775807) : Calls Tryd.prog 22 #[.int .i64 n] w (Ret w (.string (decB n))) := by
  by_cases hn : n < 0
  · obtain ⟨k, rfl⟩ : ∃ k : Nat, n = -(k : Int) := ⟨n.natAbs, by omega⟩
    have v0 : decide (-(k : Int) < -9223372036854775807) = false := decide_eq_false (by omega)
    have v1 : decide (-(k : Int) < 0) = true := decide_eq_true (by omega)
    have HB := Lib.hid (decB_neg k (by omega))
    have hz := decN_size 18 k (by omega)
    go_enter Tryd.func22, Tryd.ntmps22
    go_wp2_with fail
    refine (l9Dec_nat k _ (by omega)).mono ?_
    rintro e w' ⟨rfl, x, rfl⟩
    go_wp2
    go_ret
    exact ret_of (by rw [HB.out]; rfl) (by repeat (first | exact More.refl _ | apply More.plus | apply More.alloc | apply More.drew | apply More.drewN))
  · obtain ⟨k, rfl⟩ : ∃ k : Nat, n = (k : Int) := ⟨n.toNat, by omega⟩
    rw [decB_nat]
    exact l9Dec_nat k w (by omega)

end Go.Proofs.YtmddcbebaijjkaaDoor

/- Numbers, dashes and settings as texts: the program's and the reference's. -/
namespace Go.Proofs.YtmddcbebaijjkaaDoor
open Go.RowKit
set_option linter.unusedVariables false
set_option linter.unusedSimpArgs false

/-- the table of the powers of ten lies as laid -/
def Tb (W : World) : Prop := Lib.TabIs Tryd.prog W "internal/strconv.uint64pow10" .u64 Lib.pow10Tab

theorem tb_glob : ∃ g, Tryd.prog.globalNamed "internal/strconv.uint64pow10" = some g := Option.isSome_iff_exists.1 (by kernel_rfl)

theorem Tb.lt {W : World} (h : Tb W) : ∀ g, Tryd.prog.globalNamed "internal/strconv.uint64pow10" = some g → g < W.heap.size := by
  intro g hg
  have := Lib.TabIs.cell h hg 0 (by decide)
  exact World.block_lt_of_cell? _ _ this

theorem Tb.below {W W' : World} (h : Tb W) (hb : Below W.heap.size W W') : Tb W' := by
  obtain ⟨g, hg⟩ := tb_glob
  exact Joins.tab_stays hg h hb (Nat.le_refl _)

theorem Tb.plus {W : World} (h : Tb W) (x : Ext) : Tb (plus W x) := h.below (below_plus (Below.refl _ _) (Nat.le_refl _) x)

theorem Tb.alloc {W : World} (h : Tb W) (o : Obj) : Tb (W.alloc o) := h.below (Below.alloc (Below.refl _ _) (Nat.le_refl _) o)

theorem Tb.drew {W : World} (h : Tb W) : Tb W.drew := h.below (Below.drew (Below.refl _ _))

theorem Itoa_any (n : Int) (w : World) (h0 : -9223372036854775808 ≤ n) (h1 : n ≤ 9223372036854775807) (ht : Tb w) : Calls Tryd.prog 28 #[.int .i64 n] w (Ret w (.string (decB n))) := by
  refine (Tryd.strconv_Itoa n h0 h1 w ht).mono ?_
  rintro e w' ⟨rfl, k, os, rfl⟩
  exact ⟨rfl, ⟨os, (w.drewN k).drawn⟩, rfl⟩

theorem orD_nil {t : ByteArray} (h : t.size = 0) : orD t = ⟨#[45]⟩ := if_pos h

theorem orD_some {t : ByteArray} (h : t.size ≠ 0) : orD t = t := if_neg h

theorem l3Some_any (t : ByteArray) (w : World) : Calls Tryd.prog 24 #[.string t] w (Ret w (.string (orD t))) := by
  by_cases h : t.size = 0
  · have h2 : t = ⟨#[]⟩ := by
      obtain ⟨⟨l⟩⟩ := t
      cases l with
      | nil => rfl
      | cons a r => simp [ByteArray.size] at h
    rw [orD_nil h]
    subst h2
    go_enter Tryd.func24, Tryd.ntmps24
    go_wp2
    go_ret
    exact ret_of rfl (by repeat (first | exact More.refl _ | apply More.plus | apply More.alloc | apply More.drew | apply More.drewN))
  · have h2 : (t.toList == ([] : List UInt8)) = false := by
      obtain ⟨⟨l⟩⟩ := t
      cases l with
      | nil => simp [ByteArray.size] at h
      | cons a r => simp [ByteArray.toList_eq]
    rw [orD_some h]
    go_enter Tryd.func24, Tryd.ntmps24
    go_wp2
    go_ret
    exact ret_of rfl (by repeat (first | exact More.refl _ | apply More.plus | apply More.alloc | apply More.drew | apply More.drewN))

theorem setT_lo (l m : Int) : (⟨#[108, 111, 119, 32]⟩ : ByteArray) ++ decB l ++ (⟨#[32]⟩ : ByteArray) ++ decB m = setT 0 l m := rfl

theorem setT_hi (l m : Int) : (⟨#[104, 105, 103, 104, 32]⟩ : ByteArray) ++ decB l ++ (⟨#[32]⟩ : ByteArray) ++ decB m = setT 1 l m := rfl

/-- a number of few digits -/
def Sml (n : Int) : Prop := -1 ≤ n ∧ n < 100000

theorem Sml.size {n : Int} (h : Sml n) : (decB n).size ≤ 5 := decB_size h.1 h.2

theorem l9Dec_sml (n : Int) (w : World) (h : Sml n) : Calls Tryd.prog 22 #[.int .i64 n] w (Ret w (.string (decB n))) := l9Dec_any n w (by have := h.1; omega) (by have := h.2; omega)

set_option maxRecDepth 100000 in
set_option maxHeartbeats 2000000 in
theorem specFormatSetting_any (o l m : Int) (w : World) (hs : sv o l m = true) : Calls Tryd.prog 23 #[.agg #[.int .i64 o, .int .i64 l, .int .i64 m]] w (Ret w (.string (setT o l m))) := by
  obtain ⟨ho, l1, l2, l3, l4⟩ := sv_iff.1 hs
  have hl : Sml l := ⟨by omega, by omega⟩
  have hm : Sml m := ⟨by omega, by omega⟩
  have z1 := hl.size
  have z2 := hm.size
  have HS0 := Lib.hid (setT_lo l m)
  have HS1 := Lib.hid (setT_hi l m)
  rcases ho with rfl | rfl
  · go_enter Tryd.func23, Tryd.ntmps23
    go_wp2_with fail
    refine (specSettingValid_any _ _ _ _).mono ?_
    rintro e w' ⟨rfl, x1, rfl⟩
    rw [hs]
    go_wp2_with fail
    (refine wp_region_calm (by kernel_rfl) (by kernel_rfl) ?_
     repeat (first | go_big_quiet_skip | (go_big_quiet_want; go_big_quiet_op; first | go_big_quiet_on | (apply Exists.intro; refine ⟨fun _ => ?_, ?_⟩; (focus ((go_at_call 22; first | refine calm_of (l9Dec_sml _ _ (by assumption)) | refine calm_seq (l9Dec_sml _ _ (by assumption))))); go_big_quiet_on)))
     refine wpQuiet_nil ?_
     intro _ hw'
     obtain ⟨xq, hw''⟩ := hw'
     subst hw'')
    go_wp2
    go_ret
    exact ret_of (by rw [← HS0.out]; rfl) (by repeat (first | exact More.refl _ | apply More.plus | apply More.alloc | apply More.drew | apply More.drewN))
  · go_enter Tryd.func23, Tryd.ntmps23
    go_wp2_with fail
    refine (specSettingValid_any _ _ _ _).mono ?_
    rintro e w' ⟨rfl, x1, rfl⟩
    rw [hs]
    go_wp2_with fail
    (refine wp_region_calm (by kernel_rfl) (by kernel_rfl) ?_
     repeat (first | go_big_quiet_skip | (go_big_quiet_want; go_big_quiet_op; first | go_big_quiet_on | (apply Exists.intro; refine ⟨fun _ => ?_, ?_⟩; (focus ((go_at_call 22; first | refine calm_of (l9Dec_sml _ _ (by assumption)) | refine calm_seq (l9Dec_sml _ _ (by assumption))))); go_big_quiet_on)))
     refine wpQuiet_nil ?_
     intro _ hw'
     obtain ⟨xq, hw''⟩ := hw'
     subst hw'')
    go_wp2
    go_ret
    exact ret_of (by rw [← HS1.out]; rfl) (by repeat (first | exact More.refl _ | apply More.plus | apply More.alloc | apply More.drew | apply More.drewN))

end Go.Proofs.YtmddcbebaijjkaaDoor

/- The reference's text of what is known. -/
namespace Go.Proofs.YtmddcbebaijjkaaDoor
open Go.RowKit
set_option linter.unusedVariables false
set_option linter.unusedSimpArgs false

theorem KV.nums {o l m : Int} {ps : List Pr} {base last : Int} (h : KV o l m ps base last) : ps.length ≤ 1024 ∧ Sml base ∧ Sml last ∧ ∀ (i : Nat) (p : Pr), ps[i]? = some p → Sml p.p ∧ Sml p.b := by
  obtain ⟨_, l1, l2, l3, l4⟩ := sv_iff.1 h.s
  obtain ⟨t1, t2⟩ := two_lit l1 l2
  obtain ⟨t3, t4⟩ := two_bd (n := m) (by omega) (by omega)
  have hlen := h.len
  have hb0 := h.b0
  have hb1 := h.b1
  refine ⟨by omega, ⟨by omega, by omega⟩, ?_, fun i p hp => ?_⟩
  · rcases h.last with h1 | h1
    · exact ⟨by omega, by omega⟩
    · have := hw_iff.1 h1
      exact ⟨by omega, by omega⟩
  · obtain ⟨h1, h2, h3⟩ := h.ok i p hp
    have h4 := hw_iff.1 h1
    have h5 := (List.getElem?_eq_some_iff.1 hp).1
    exact ⟨⟨by omega, by omega⟩, ⟨by omega, by omega⟩⟩

/-- the text of the first k pairs -/
def prsT (ps : List Pr) (k : Nat) : ByteArray := joinB ⟨#[44]⟩ ((ps.take k).map prT)

theorem prsT_zero (ps : List Pr) : prsT ps 0 = ⟨#[]⟩ := by simp [prsT, joinB]

theorem prsT_all (ps : List Pr) {k : Nat} (h : ps.length ≤ k) : prsT ps k = joinB ⟨#[44]⟩ (ps.map prT) := by
  unfold prsT
  rw [List.take_of_length_le h]

theorem take_snoc {α : Type} {xs : List α} {k : Nat} {x : α} (h : xs[k]? = some x) : xs.take (k + 1) = xs.take k ++ [x] := by
  rw [List.take_add_one, h]; rfl

theorem prsT_one {ps : List Pr} {p : Pr} (h : ps[0]? = some p) : prsT ps 1 = (⟨#[]⟩ : ByteArray) ++ decB p.p ++ (⟨#[46]⟩ : ByteArray) ++ decB p.b := by
  unfold prsT
  rw [take_snoc h]
  have e : (⟨#[]⟩ : ByteArray) ++ decB p.p = decB p.p := by
    apply ByteArray.ext; simp
  rw [e]
  rfl

theorem prsT_succ {ps : List Pr} {p : Pr} {k : Nat} (h : ps[k]? = some p) (hk : 0 < k) : prsT ps (k + 1) = prsT ps k ++ (⟨#[44]⟩ : ByteArray) ++ decB p.p ++ (⟨#[46]⟩ : ByteArray) ++ decB p.b := by
  have hl := (List.getElem?_eq_some_iff.1 h).1
  unfold prsT
  rw [take_snoc h, List.map_append, List.map_cons, List.map_nil, joinB_snoc _ _ _ (by
    have h2 : ((ps.take k).map prT).length = k := by rw [List.length_map, List.length_take, Nat.min_eq_left (by omega)]
    intro e
    rw [e] at h2
    exact absurd h2.symm (by show k ≠ 0; omega))]
  unfold prT
  simp only [ByteArray.append_assoc]

theorem prsT_size {ps : List Pr} (hp : ∀ (i : Nat) (p : Pr), ps[i]? = some p → Sml p.p ∧ Sml p.b) (k : Nat) (hk : k ≤ ps.length) : (prsT ps k).size ≤ k * 12 := by
  have h := joinB_size ⟨#[44]⟩ 11 ((ps.take k).map prT) (fun x hx => by
    obtain ⟨p, hpm, rfl⟩ := List.mem_map.1 hx
    obtain ⟨i, hi⟩ := List.getElem?_of_mem (List.mem_of_mem_take hpm)
    obtain ⟨h1, h2⟩ := hp i p hi
    have := h1.size
    have := h2.size
    unfold prT
    rw [ByteArray.size_append, ByteArray.size_append]
    show _ + 1 + _ ≤ _
    omega)
  rw [List.length_map, List.length_take, Nat.min_eq_left hk] at h
  exact h

theorem setT_size {o l m : Int} (h : sv o l m = true) : (setT o l m).size ≤ 20 := by
  obtain ⟨_, l1, l2, l3, l4⟩ := sv_iff.1 h
  have h1 := decB_size (n := l) (by omega) (by omega)
  have h2 := decB_size (n := m) (by omega) (by omega)
  unfold setT
  rw [ByteArray.size_append, ByteArray.size_append, ByteArray.size_append, ByteArray.size_append]
  have h3 : (if o = 1 then (⟨#[104, 105, 103, 104]⟩ : ByteArray) else ⟨#[108, 111, 119]⟩).size ≤ 4 := by
    split <;> decide
  show _ + 1 + _ + 1 + _ ≤ _
  omega

theorem orD_size {t : ByteArray} {n : Nat} (h : t.size ≤ n) (h1 : 1 ≤ n) : (orD t).size ≤ n := by
  unfold orD
  split
  · exact h1
  · exact h

theorem joinB_four (s a b c d : ByteArray) : joinB s [a, b, c, d] = a ++ s ++ b ++ s ++ c ++ s ++ d := by
  show a ++ s ++ (b ++ s ++ (c ++ s ++ d)) = _
  simp only [ByteArray.append_assoc]

theorem specFormatKnown_no (o l m : Int) (a : Option Addr) (cap : Nat) (ps : List Pr) (base last : Int) (w : World) (hr : RdP w a cap ps) (hk : kvb o l m ps base last = false) :
    Calls Tryd.prog 7 #[.agg #[.int .i64 o, .int .i64 l, .int .i64 m, .slice a ps.length cap, .int .i64 base, .int .i64 last]] w (Ret w (.string ⟨#[]⟩)) := by
  have HR := Lib.hid (show Rd encP w a cap ps from hr)
  clear hr
  go_enter Tryd.func7, Tryd.ntmps7
  go_wp2_with fail
  refine (specKnownValid_any o l m a cap ps base last _ (by (try unfold RdP); repeat (first | (with_reducible exact HR.out) | (with_reducible apply rd_seq) | (with_reducible apply Rd.plus) | (with_reducible apply Rd.alloc) | (with_reducible apply Rd.drew) | (with_reducible apply Rd.drewN)))).mono ?_
  rintro e w' ⟨rfl, x1, rfl⟩
  rw [hk]
  go_wp2
  go_ret
  exact ret_of rfl (by repeat (first | exact More.refl _ | apply More.plus | apply More.alloc | apply More.drew | apply More.drewN))

set_option maxRecDepth 100000 in
set_option maxHeartbeats 4000000 in
theorem specFormatKnown_yes (o l m : Int) (a : Option Addr) (cap : Nat) (ps : List Pr) (base last : Int) (w : World) (hr : RdP w a cap ps) (hk : kvb o l m ps base last = true) :
    Calls Tryd.prog 7 #[.agg #[.int .i64 o, .int .i64 l, .int .i64 m, .slice a ps.length cap, .int .i64 base, .int .i64 last]] w (Ret w (.string (knT o l m ps base last))) := by
  have hkv := kvb_iff.1 hk
  obtain ⟨n1, hb, hla, hps⟩ := hkv.nums
  have hs := hkv.s
  have HR := Lib.hid (show Rd encP w a cap ps from hr)
  obtain ⟨r1, r2, r3⟩ := hr.open
  have hal := rd_lt hr
  clear hr
  go_enter Tryd.func7, Tryd.ntmps7
  go_wp2_with fail
  refine (specKnownValid_any o l m a cap ps base last _ (by (try unfold RdP); repeat (first | (with_reducible exact HR.out) | (with_reducible apply rd_seq) | (with_reducible apply Rd.plus) | (with_reducible apply Rd.alloc) | (with_reducible apply Rd.drew) | (with_reducible apply Rd.drewN)))).mono ?_
  rintro e w' ⟨rfl, x1, rfl⟩
  rw [hk]
  clear hk
  go_wp2
  go_loopw [3, 4] (fun t i wr => ∃ k : Nat, k ≤ ps.length ∧ i = .int .i64 k ∧ t = .string (prsT ps k) ∧ ∃ x, wr = plus (w.alloc (.cells #[.int .i64 o, .int .i64 l, .int .i64 m, .slice a ps.length cap, .int .i64 base, .int .i64 last] 32)) x) (fun _ i _ => ps.length - (intOf i).toNat)
  case atStart => exact ⟨0, Nat.zero_le _, rfl, by rw [prsT_zero], x1, rfl⟩
  case round =>
    obtain ⟨k, hk, rfl, rfl, x, rfl⟩ := hrel
    have zT := prsT_size hps k hk
    rcases dec (k < ps.length) with ⟨hlt, blt⟩ | ⟨hlt, blt⟩
    · have hex : ∃ p, ps[k]? = some p := ⟨ps[k], List.getElem?_eq_getElem hlt⟩
      obtain ⟨p, hp⟩ := hex
      rcases r3 with rfl | ⟨b, off, rfl, hb', hc⟩
      · exact absurd hlt (by omega)
      · obtain ⟨c1, c2⟩ := hc k p hp
        have hb2 : b < w.heap.size + 1 := by omega
        obtain ⟨hpp, hpb⟩ := hps k p hp
        have z1 := hpp.size
        have z2 := hpb.size
        have HP := Lib.hid hp
        clear hp hc
        have k2 : (k : Int) ≤ 1000000 := by omega
        have k0 : 0 ≤ (k : Int) := by omega
        rcases Nat.eq_zero_or_pos k with rfl | hk0
        · simp only [Nat.zero_mul, Nat.add_zero, Nat.zero_add] at c1 c2
          have v6 : decide ((0 : Int) < (ps.length : Int)) = true := decide_eq_true (by omega)
          have HE := Lib.hid (prsT_one HP.out)
          rw [prsT_zero]
          go_wp2_with fail
          (refine wp_region_calm (by kernel_rfl) (by kernel_rfl) ?_
           repeat (first | go_big_quiet_skip | (go_big_quiet_want; go_big_quiet_op; first | go_big_quiet_on | (apply Exists.intro; refine ⟨fun _ => ?_, ?_⟩; (focus ((go_at_call 22; first | refine calm_of (l9Dec_sml _ _ (by assumption)) | refine calm_seq (l9Dec_sml _ _ (by assumption))))); go_big_quiet_on)))
           refine wpQuiet_nil ?_
           intro _ hw'
           obtain ⟨xq, hw''⟩ := hw'
           subst hw'')
          go_wp2
          go_roundw
          case rel => exact ⟨1, by omega, by go_num, by rw [HE.out], (by repeat (first | exact More.refl _ | apply More.plus | apply More.alloc | apply More.drew | apply More.drewN))⟩
          case measure => simp [intOf]; omega
        · have v5 : decide ((0 : Int) < (k : Int)) = true := decide_eq_true (by omega)
          have HE := Lib.hid (prsT_succ HP.out hk0)
          go_wp2_with fail
          (refine wp_region_calm (by kernel_rfl) (by kernel_rfl) ?_
           repeat (first | go_big_quiet_skip | (go_big_quiet_want; go_big_quiet_op; first | go_big_quiet_on | (apply Exists.intro; refine ⟨fun _ => ?_, ?_⟩; (focus ((go_at_call 22; first | refine calm_of (l9Dec_sml _ _ (by assumption)) | refine calm_seq (l9Dec_sml _ _ (by assumption))))); go_big_quiet_on)))
           refine wpQuiet_nil ?_
           intro _ hw'
           obtain ⟨xq, hw''⟩ := hw'
           subst hw'')
          go_wp2
          go_roundw
          case rel => exact ⟨k + 1, by omega, by go_num, by rw [HE.out], (by repeat (first | exact More.refl _ | apply More.plus | apply More.alloc | apply More.drew | apply More.drewN))⟩
          case measure => simp [intOf]; omega
    · obtain rfl : k = ps.length := by omega
      have zS := setT_size hs
      have zb := hb.size
      have zl := hla.size
      have zO := orD_size (n := ps.length * 12 + 1) (by omega : (prsT ps ps.length).size ≤ _) (by omega)
      have HE := Lib.hid (show setT o l m ++ (⟨#[59]⟩ : ByteArray) ++ decB base ++ (⟨#[59]⟩ : ByteArray) ++ decB last ++ (⟨#[59]⟩ : ByteArray) ++ orD (prsT ps ps.length) = knT o l m ps base last by
        rw [prsT_all ps (Nat.le_refl _)]
        unfold knT
        rw [joinB_four])
      go_wp2_with fail
      (refine wp_region_calm (by kernel_rfl) (by kernel_rfl) ?_
       repeat (first | go_big_quiet_skip | (go_big_quiet_want; go_big_quiet_op; first | go_big_quiet_on | (apply Exists.intro; refine ⟨fun _ => ?_, ?_⟩; (focus ((first | (go_at_call 23; first | refine calm_of (specFormatSetting_any _ _ _ _ (by assumption)) | refine calm_seq (specFormatSetting_any _ _ _ _ (by assumption))) | (go_at_call 22; first | refine calm_of (l9Dec_sml _ _ (by assumption)) | refine calm_seq (l9Dec_sml _ _ (by assumption))) | (go_at_call 24; first | refine calm_of (l3Some_any _ _) | refine calm_seq (l3Some_any _ _))))); go_big_quiet_on)))
       refine wpQuiet_nil ?_
       intro _ hw'
       obtain ⟨xq, hw''⟩ := hw'
       subst hw'')
      go_wp2
      go_ret
      exact ret_of (by rw [← HE.out]; rfl) (by repeat (first | exact More.refl _ | apply More.plus | apply More.alloc | apply More.drew | apply More.drewN))

end Go.Proofs.YtmddcbebaijjkaaDoor

/- The program's text of what is known. -/
namespace Go.Proofs.YtmddcbebaijjkaaDoor
open Go.RowKit
set_option linter.unusedVariables false
set_option linter.unusedSimpArgs false

theorem pushF (w : World) (o : Obj) (n : Nat) (h : n = w.heap.size) : (w.alloc o).heap[n]? = some o := by
  subst h
  exact Array.getElem?_push_size

theorem plusF {w : World} {n : Nat} {o : Obj} (h : w.heap[n]? = some o) (x : Ext) : (plus w x).heap[n]? = some o := by
  rw [plus_block _ _ (Array.getElem?_eq_some_iff.1 h).1]; exact h

theorem allocF {w : World} {n : Nat} {o : Obj} (h : w.heap[n]? = some o) (o2 : Obj) : (w.alloc o2).heap[n]? = some o := by
  rw [alloc_plus]; exact plusF h _

theorem drewF {w : World} {n : Nat} {o : Obj} (h : w.heap[n]? = some o) : w.drew.heap[n]? = some o := h

theorem blk_mo {W W' : World} {b : Nat} {ob : Obj} (h : W.heap[b]? = some ob) (hm : More W W') : W'.heap[b]? = some ob :=
  by rw [(more_below hm).block b (Array.getElem?_eq_some_iff.1 h).1]; exact h

theorem Tb.more {W W' : World} (h : Tb W) (hm : More W W') : Tb W' := h.below (more_below hm)

theorem cells_str {w : World} {b : Nat} {xs : List ByteArray} {e : TypeId} (hb : w.heap[b]? = some (.cells (xs.map Value.string).toArray e (0, 0))) : ∀ (j : Nat) (x : ByteArray), xs[j]? = some x → w.cell? ⟨b, j, none⟩ = some (.string x) := by
  intro j x h
  rw [cell_of hb, List.getElem?_toArray, List.getElem?_map, h]
  rfl

/-- what is known in a block, and texts in block C -/
structure FW (w wr : World) (C : Nat) (ob : Obj) (cur : Array Value) : Prop where
  kn : wr.heap[w.heap.size]? = some ob
  blk : wr.heap[C]? = some (.cells cur 9 (0, 0))
  bel : Below w.heap.size w wr
  low : w.heap.size < C

theorem FW.lt {w wr : World} {C : Nat} {ob : Obj} {cur : Array Value} (h : FW w wr C ob cur) : C < wr.heap.size := (Array.getElem?_eq_some_iff.1 h.blk).1

theorem FW.more {w wr wr' : World} {C : Nat} {ob : Obj} {cur : Array Value} (h : FW w wr C ob cur) (hm : More wr wr') : FW w wr' C ob cur :=
  ⟨blk_mo h.kn hm, blk_mo h.blk hm, h.bel.trans ((more_below hm).mono (by have := h.bel.size; omega)), h.low⟩

theorem FW.patch {w wr : World} {C : Nat} {ob : Obj} {cur cur2 : Array Value} (h : FW w wr C ob cur) : FW w (Go.Proofs.YtmddcbebaijjkaaDoor.patch wr C (.cells cur2 9 (0, 0))) C ob cur2 :=
  ⟨(patch_other _ _ _ (by have := h.low; omega)).trans h.kn, patch_at _ _ _ h.lt, below_patch h.bel (by have := h.low; omega) _, h.low⟩

end Go.Proofs.YtmddcbebaijjkaaDoor

/- A reader's text: the reference's and the program's. -/
namespace Go.Proofs.YtmddcbebaijjkaaDoor
open Go.RowKit
set_option linter.unusedVariables false
set_option linter.unusedSimpArgs false

theorem RV.nums {l m n last : Int} {s : ByteArray} {z c e : Int} (h : RV l m n last s z c e) : Sml z ∧ Sml c ∧ Sml e := by
  have h1 := h.z0
  have h2 := h.z1
  have h3 := h.c0
  have h4 := h.c1
  refine ⟨⟨by omega, by omega⟩, ⟨by omega, by omega⟩, ?_⟩
  rcases RV.e h with h5 | h5
  · exact ⟨by omega, by omega⟩
  · exact ⟨by omega, by omega⟩

end Go.Proofs.YtmddcbebaijjkaaDoor
