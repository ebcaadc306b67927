/- Lemmas and walks, part Gn. -/
import Derived.Test.YtmddcbebaijjkaaDoorGm

/- The reference's cutting of texts. -/
namespace Go.Proofs.YtmddcbebaijjkaaDoor
open Go.RowKit
set_option linter.unusedVariables false
set_option linter.unusedSimpArgs false

theorem ba_get (s : ByteArray) (k : Nat) (h : k < s.size) : s.data.toList[k]? = some s[k] := by
  rw [List.getElem?_eq_getElem (by rw [show s.data.toList.length = s.size from Array.length_toList]; exact h)]
  rfl

/-- no byte c from f on, ahead of i -/
def NoC (c : UInt8) (s : ByteArray) (f i : Nat) : Prop := ∀ j, f ≤ j → j < i → s.data.toList[j]? ≠ some c

theorem NoC.nx {c : UInt8} {s : ByteArray} {f i : Nat} (h : NoC c s f i) (hi : s.data.toList[i]? ≠ some c) : NoC c s f (i + 1) := by
  intro j h1 h2
  by_cases e : j = i
  · subst e; exact hi
  · exact h j h1 (by omega)

theorem ext_list (s : ByteArray) (f i : Nat) : (s.extract f i).data.toList = (s.data.toList.drop f).take (i - f) := by
  rw [Lib.extract_eq]

theorem ext_noc {c : UInt8} {s : ByteArray} {f i : Nat} (h : NoC c s f i) : ∀ x ∈ (s.extract f i).data.toList, x ≠ c := by
  intro x hx e
  subst e
  rw [ext_list] at hx
  obtain ⟨j, hj⟩ := List.getElem?_of_mem hx
  rw [List.getElem?_take] at hj
  split at hj
  · rw [List.getElem?_drop] at hj
    exact h (f + j) (by omega) (by omega) hj
  · cases hj

theorem len_list (s : ByteArray) : s.data.toList.length = s.size := Array.length_toList

theorem ext_at {c : UInt8} {s : ByteArray} {f i : Nat} (h1 : f ≤ i) (h2 : i < s.size) (h3 : s.data.toList[i]? = some c) : s.extract f s.size = s.extract f i ++ (⟨#[c]⟩ : ByteArray) ++ s.extract (i + 1) s.size := by
  apply ba_ext
  simp only [ByteArray.data_append, Array.toList_append, ext_list]
  have hl := len_list s
  have e1 : (s.data.toList.drop (i + 1)).take (s.size - (i + 1)) = s.data.toList.drop (i + 1) := List.take_of_length_le (by rw [List.length_drop]; omega)
  have e2 : (s.data.toList.drop f).take (s.size - f) = s.data.toList.drop f := List.take_of_length_le (by rw [List.length_drop]; omega)
  rw [e1, e2]
  have e3 : s.data.toList.drop f = (s.data.toList.drop f).take (i - f) ++ (s.data.toList.drop f).drop (i - f) := (List.take_append_drop _ _).symm
  have e4 : (s.data.toList.drop f).drop (i - f) = c :: s.data.toList.drop (i + 1) := by
    rw [List.drop_drop, show f + (i - f) = i by omega, List.drop_eq_getElem_cons (by omega)]
    congr 1
    rw [List.getElem?_eq_getElem (by omega)] at h3
    injection h3
  rw [e4] at e3
  refine e3.trans ?_
  simp

theorem cut_at {c : UInt8} {s : ByteArray} {f i : Nat} (h1 : f ≤ i) (h2 : i < s.size) (h3 : s.data.toList[i]? = some c) (h4 : NoC c s f i) : cutB c (s.extract f s.size) = s.extract f i :: cutB c (s.extract (i + 1) s.size) := by
  rw [ext_at h1 h2 h3, cutB_hit (ext_noc h4)]

theorem cut_fin {c : UInt8} {s : ByteArray} {f : Nat} (h4 : NoC c s f s.size) : cutB c (s.extract f s.size) = [s.extract f s.size] := cutB_none (ext_noc h4)

theorem ext_all (s : ByteArray) : s.extract 0 s.size = s := by
  apply ba_ext
  rw [ext_list, List.drop_zero, List.take_of_length_le (by rw [len_list]; omega)]

theorem byte_is {a c : UInt8} (h : a = c) : (((a.toNat : Nat) : Int) == ((c.toNat : Nat) : Int)) = true := by rw [h]; simp

theorem byte_no {a c : UInt8} (h : a ≠ c) : (((a.toNat : Nat) : Int) == ((c.toNat : Nat) : Int)) = false := by
  rw [beq_eq_false_iff_ne]
  intro e
  exact h (UInt8.toNat_inj.1 (by omega))

/-- where a byte first stands -/
def RetFd (w : World) (s : ByteArray) (c : UInt8) (e : Ending) (w' : World) : Prop := ∃ n : Int, e = .returned (.int .i64 n) ∧ More w w' ∧ ((n = -1 ∧ NoC c s 0 s.size) ∨ ∃ k : Nat, n = k ∧ k < s.size ∧ s.data.toList[k]? = some c ∧ NoC c s 0 k)

set_option maxRecDepth 100000 in
set_option maxHeartbeats 2000000 in
theorem l9Find_any (s : ByteArray) (c : UInt8) (w : World) (hs : s.size ≤ 1048576) : Calls Tryd.prog 64 #[.string s, .int .u8 c.toNat] w (RetFd w s c) := by
  have hc : (c.toNat : Int) ≤ 255 := by have := c.toNat_lt; omega
  go_enter Tryd.func64, Tryd.ntmps64
  go_wp2
  go_loopw [5] (fun i wr => ∃ (k : Nat), i = .int .i64 k ∧ k ≤ s.size ∧ NoC c s 0 k ∧ More w wr) (fun i _ => s.size - (intOf i).toNat)
  case atStart => exact ⟨0, rfl, Nat.zero_le _, fun j h1 h2 => absurd h2 (by omega), More.refl _⟩
  case round =>
    obtain ⟨k, rfl, hk, hn, x, rfl⟩ := hrel
    have HN := Lib.hid hn
    clear hn
    rcases dec (k < s.size) with ⟨hlt, v1⟩ | ⟨hlt, v1⟩
    · have hg := ba_get s k hlt
      by_cases he : s[k] = c
      · have q := byte_is he
        have HG := Lib.hid (show s.data.toList[k]? = some c by rw [hg, he])
        clear hg he
        go_wp2
        go_ret
        exact ⟨k, rfl, (by repeat (first | exact More.refl _ | apply More.plus | apply More.alloc | apply More.drew | apply More.drewN)), .inr ⟨k, rfl, hlt, HG.out, HN.out⟩⟩
      · have q := byte_no he
        have HG := Lib.hid (show s.data.toList[k]? ≠ some c by rw [hg]; intro h; injection h with h; exact he h)
        clear hg he
        go_wp2
        go_roundw
        case rel => exact ⟨k + 1, by go_num, by omega, HN.out.nx HG.out, (by repeat (first | exact More.refl _ | apply More.plus | apply More.alloc | apply More.drew | apply More.drewN))⟩
        case measure => simp [intOf]; omega
    · obtain rfl : k = s.size := by omega
      go_wp2
      go_ret
      exact ⟨_, rfl, (by repeat (first | exact More.refl _ | apply More.plus | apply More.alloc | apply More.drew | apply More.drewN)), .inl ⟨rfl, HN.out⟩⟩

/-- a text, cut: a slice of the call's own -/
def RetCuts (w : World) (xs : List ByteArray) (e : Ending) (w' : World) : Prop := ∃ (A : Option Addr) (c : Nat), e = .returned (.slice A xs.length c) ∧ Own encS 9 w' A c xs w.heap.size ∧ More w w'

/-- what is cut so far -/
def CutI (c : UInt8) (s : ByteArray) (xs : List ByteArray) (f i : Nat) : Prop := (i ≤ s.size ∧ f ≤ i ∧ cutB c s = xs ++ cutB c (s.extract f s.size) ∧ NoC c s f i) ∨ (i = s.size + 1 ∧ cutB c s = xs)

set_option maxRecDepth 100000 in
set_option maxHeartbeats 4000000 in
theorem l9Cut_any (s : ByteArray) (c : UInt8) (w : World) (hs : s.size ≤ 1048576) : Calls Tryd.prog 34 #[.string s, .int .u8 c.toNat] w (RetCuts w (cutB c s)) := by
  have hc : (c.toNat : Int) ≤ 255 := by have := c.toNat_lt; omega
  obtain ⟨i0, hi, hz0, hz1, hz2⟩ := info_parts infoString
  have hlim := cutB_lim c s
  go_enter Tryd.func34, Tryd.ntmps34
  go_wp2
  go_loopw [5, 6, 7] (fun t f i wr => ∃ (A : Option Addr) (cp : Nat) (xs : List ByteArray) (fr k : Nat), t = .slice A xs.length cp ∧ f = .int .i64 fr ∧ i = .int .i64 k ∧ CutI c s xs fr k ∧ Own encS 9 wr A cp xs w.heap.size ∧ Below w.heap.size w wr) (fun _ _ i _ => s.size + 1 - (intOf i).toNat)
  case atStart =>
    refine ⟨_, 0, [], 0, 0, rfl, rfl, rfl, .inl ⟨Nat.zero_le _, Nat.le_refl _, by rw [ext_all]; rfl, fun j h1 h2 => absurd h2 (by omega)⟩, .inr ⟨_, #[], rfl, Nat.le_refl _, pushF _ _ _ rfl, rfl, fun j u h => by (simp [flat] at h), Nat.le_refl _, by omega⟩, (by repeat (first | exact Below.refl _ _ | refine below_plus ?_ (by first | omega | (simp <;> omega)) _ | refine Below.alloc ?_ (by first | omega | (simp <;> omega)) _ | refine below_patch ?_ (by omega) _ | refine Below.drew ?_))⟩
  case round =>
    obtain ⟨A, cp, xs, fr, k, rfl, rfl, rfl, hci, hown, hbel⟩ := hrel
    have HO := Lib.hid hown
    have HB := Lib.hid hbel
    have hw := hbel.size
    have hxl : xs.length ≤ s.size + 1 := by
      rcases hci with ⟨_, _, h, _⟩ | ⟨_, h⟩
      · have := congrArg List.length h
        rw [List.length_append] at this
        omega
      · rw [← h]; exact hlim
    clear hown hbel
    rcases hci with ⟨hk, hfr, hcut, hno⟩ | ⟨rfl, hcut⟩
    · have v0 : decide ((k : Int) ≤ (s.size : Int)) = true := decide_eq_true (by omega)
      have HC := Lib.hid hcut
      have HN := Lib.hid hno
      clear hcut hno
      by_cases hlt : k = s.size
      · have HK := Lib.hid hlt
        have v1 : ((k : Int) == (s.size : Int)) = true := by rw [hlt]; simp
        have hks : (k : Int) ≤ (s.size : Int) := by omega
        have hks2 : (s.size : Int) ≤ (k : Int) := by omega
        clear hlt
        go_wp2_with (at_builtin; refine wpList_append_at encS _ _ _ _ i0 _ 16 rfl rfl Tryd.underlying58 hi hz0 hz1 hz2 rfl (by decide) xs A cp w.heap.size (by repeat (first | (with_reducible exact HO.out) | (with_reducible apply own_seq) | (with_reducible apply own_draw) | (with_reducible apply Own.plus) | (with_reducible apply Own.alloc) | (with_reducible apply Own.drew) | (with_reducible apply Own.drewN))) rfl [s.extract fr k] _ 0 1 (new_cells encS (s.extract fr k) _ _ (by simp <;> omega)) rfl (by first | omega | rfl | (simp <;> omega) | (simp only [List.length_cons, List.length_nil, plus_size, World.size_alloc]; omega)) (by first | omega | rfl | (simp <;> omega) | (simp only [List.length_cons, List.length_nil, plus_size, World.size_alloc]; omega)) (by simp <;> omega) ?_; intro A6 c6 w6 hw6 hg6 hx6; have HO6 := Lib.hid hw6; have HB6 := Lib.hid (HB.out.trans (Below.trans (b := _) (by repeat (first | exact Below.refl _ _ | refine below_plus ?_ (by first | omega | (simp <;> omega)) _ | refine Below.alloc ?_ (by first | omega | (simp <;> omega)) _ | refine below_patch ?_ (by omega) _ | refine Below.drew ?_)) (hg6.below (by simp <;> omega) fun X hX => (own_lt HO.out X hX).1))); clear hw6 hg6 hx6)
        go_roundw
        case rel => exact ⟨A6, c6, xs ++ [s.extract fr k], k + 1, k + 1, by simp, by go_num, by go_num, .inr ⟨by rw [HK.out], by rw [HC.out, HK.out, cut_fin (by have := HN.out; rwa [HK.out] at this)]⟩, HO6.out, HB6.out⟩
        case measure => simp [intOf]; omega
      · have hlt2 : k < s.size := by omega
        have v1 : ((k : Int) == (s.size : Int)) = false := by rw [beq_eq_false_iff_ne]; omega
        have hg := ba_get s k hlt2
        clear hlt
        by_cases he : s[k] = c
        · have q := byte_is he
          have HG := Lib.hid (show s.data.toList[k]? = some c by rw [hg, he])
          clear hg he
          go_wp2_with (at_builtin; refine wpList_append_at encS _ _ _ _ i0 _ 16 rfl rfl Tryd.underlying58 hi hz0 hz1 hz2 rfl (by decide) xs A cp w.heap.size (by repeat (first | (with_reducible exact HO.out) | (with_reducible apply own_seq) | (with_reducible apply own_draw) | (with_reducible apply Own.plus) | (with_reducible apply Own.alloc) | (with_reducible apply Own.drew) | (with_reducible apply Own.drewN))) rfl [s.extract fr k] _ 0 1 (new_cells encS (s.extract fr k) _ _ (by simp <;> omega)) rfl (by first | omega | rfl | (simp <;> omega) | (simp only [List.length_cons, List.length_nil, plus_size, World.size_alloc]; omega)) (by first | omega | rfl | (simp <;> omega) | (simp only [List.length_cons, List.length_nil, plus_size, World.size_alloc]; omega)) (by simp <;> omega) ?_; intro A6 c6 w6 hw6 hg6 hx6; have HO6 := Lib.hid hw6; have HB6 := Lib.hid (HB.out.trans (Below.trans (b := _) (by repeat (first | exact Below.refl _ _ | refine below_plus ?_ (by first | omega | (simp <;> omega)) _ | refine Below.alloc ?_ (by first | omega | (simp <;> omega)) _ | refine below_patch ?_ (by omega) _ | refine Below.drew ?_)) (hg6.below (by simp <;> omega) fun X hX => (own_lt HO.out X hX).1))); clear hw6 hg6 hx6)
          go_roundw
          case rel => exact ⟨A6, c6, xs ++ [s.extract fr k], k + 1, k + 1, by simp, by go_num, by go_num, .inl ⟨by omega, Nat.le_refl _, by rw [HC.out, cut_at hfr hlt2 HG.out HN.out, List.append_assoc]; rfl, fun j h1 h2 => absurd h2 (by omega)⟩, HO6.out, HB6.out⟩
          case measure => simp [intOf]; omega
        · have q := byte_no he
          have HG := Lib.hid (show s.data.toList[k]? ≠ some c by rw [hg]; intro h; injection h with h; exact he h)
          clear hg he
          go_wp2_with fail
          go_roundw
          case rel => exact ⟨A, cp, xs, fr, k + 1, rfl, rfl, by go_num, .inl ⟨by omega, by omega, HC.out, HN.out.nx HG.out⟩, HO.out, HB.out⟩
          case measure => simp [intOf]; omega
    · have v0 : decide (((s.size + 1 : Nat) : Int) ≤ (s.size : Int)) = false := decide_eq_false (by omega)
      have HC := Lib.hid hcut
      clear hcut
      go_wp2_with fail
      go_ret
      rw [HC.out]
      exact ⟨A, cp, rfl, HO.out, below_more HB.out⟩

end Go.Proofs.YtmddcbebaijjkaaDoor

/- The reference's reading of numbers. -/
namespace Go.Proofs.YtmddcbebaijjkaaDoor
open Go.RowKit
set_option linter.unusedVariables false
set_option linter.unusedSimpArgs false

theorem dig_lead : ∀ (n : Nat), 1 ≤ n → ∃ x r, Lib.decDigits n = x :: r ∧ x.toNat ≠ 48 := by
  intro n
  induction n using Nat.strongRecOn with
  | ind n ih =>
    intro h1
    rw [Lib.decDigits]
    split
    · rename_i h
      refine ⟨_, [], rfl, ?_⟩
      rw [UInt8.toNat_ofNat']
      omega
    · rename_i h
      obtain ⟨x, r, h2, h3⟩ := ih (n / 10) (by omega) (by omega)
      exact ⟨x, r ++ [UInt8.ofNat (48 + n % 10)], by rw [h2]; rfl, h3⟩

/-- the digits of a small number -/
structure Dgs (D : ByteArray) (m : Nat) : Prop where
  lst : D.data.toList = Lib.decDigits m
  few : m < 100000

theorem Dgs.size {D : ByteArray} {m : Nat} (h : Dgs D m) : 1 ≤ D.size ∧ D.size ≤ 5 := by
  have h1 := decN_size 4 m h.few
  have h2 : D.size = (decN m).size := by
    rw [← len_list, h.lst]
    exact (len_list (decN m)).symm
  have h3 : 1 ≤ D.size := by
    rw [← len_list, h.lst]
    have := dig_ne m
    cases hd : Lib.decDigits m with
    | nil => exact absurd hd this
    | cons a r => simp
  omega

theorem Dgs.byte {D : ByteArray} {m : Nat} (h : Dgs D m) (k : Nat) (hk : k < D.size) : 48 ≤ D[k].toNat ∧ D[k].toNat ≤ 57 := by
  have h1 := ba_get D k hk
  rw [h.lst] at h1
  exact dig_all m _ (List.mem_of_getElem? h1)

theorem Dgs.lead {D : ByteArray} {m : Nat} (h : Dgs D m) (h0 : 0 < D.size) (hz : D[0].toNat = 48) : m = 0 ∧ D.size = 1 := by
  have h1 := ba_get D 0 h0
  rw [h.lst] at h1
  rcases Nat.eq_zero_or_pos m with hm | hm
  · subst hm
    refine ⟨rfl, ?_⟩
    rw [← len_list, h.lst, Lib.decDigits, dif_pos (by omega)]
    rfl
  · obtain ⟨x, r, h2, h3⟩ := dig_lead m hm
    rw [h2] at h1
    injection h1 with h1
    rw [h1] at h3
    exact absurd hz h3

/-- what the reference's reading of a number gives -/
def RetNr (w : World) (s : ByteArray) (e : Ending) (w' : World) : Prop := ∃ (n : Int) (ok : Bool), e = .returned (.tuple #[.int .i64 n, .bool ok]) ∧ More w w' ∧ ∀ k, Sml k → s = decB k → n = k ∧ ok = true

theorem par_one {v : Nat} {x : UInt8} (h1 : 48 ≤ x.toNat) (h2 : x.toNat ≤ 57) (hv : v < 10000000000000000) : Lib.parseUint10 v [x] = .ok (v * 10 + (x.toNat - 48)) := by
  simp only [Lib.parseUint10]
  rw [if_pos ⟨h1, h2⟩, if_neg (by omega), if_neg (by omega)]

theorem pow_lt {v k : Nat} (h : v < 10 ^ k) (hk : k ≤ 16) : v < 10000000000000000 :=
  Nat.lt_of_lt_of_le h (Nat.pow_le_pow_right (by omega) hk)




set_option maxRecDepth 100000 in
set_option maxHeartbeats 8000000 in
theorem l9Num_any (s : ByteArray) (w : World) (hs : s.size ≤ 1048576) : Calls Tryd.prog 36 #[.string s] w (RetNr w s) := by
  rcases Nat.eq_zero_or_pos s.size with h0 | h0
  · have v0 : decide ((0 : Int) < (s.size : Int)) = false := decide_eq_false (by omega)
    have v1 : ((s.size : Int) == 0) = true := by rw [h0]; rfl
    have HZ := Lib.hid h0
    clear h0
    go_enter Tryd.func36, Tryd.ntmps36
    go_wp2_with fail
    exact bodyPost_ret (v := .tuple #[.int .i64 0, .bool false]) (by simp [results, Tryd.results36, go_sem]) rfl ⟨0, false, rfl, (by repeat (first | exact More.refl _ | apply More.plus | apply More.alloc | apply More.drew | apply More.drewN)), fun k hk he => by have := decB_pos k; rw [← he, HZ.out] at this; omega⟩
  · have v0 : decide ((0 : Int) < (s.size : Int)) = true := decide_eq_true (by omega)
    have hg := ba_get s 0 h0
    have hdec : ∀ k, Sml k → s = decB k → (k < 0 ∧ s.data.toList = 45 :: Lib.decDigits k.natAbs) ∨ (0 ≤ k ∧ s.data.toList = Lib.decDigits k.natAbs) := by
      intro k hk he
      subst he
      unfold decB Lib.itoa
      split
      · exact .inl ⟨by assumption, rfl⟩
      · exact .inr ⟨by omega, by rw [show k.toNat = k.natAbs by omega]⟩
    by_cases hm : s[0].toNat = 45
    · have v1 : ((s[0].toNat : Int) == 45) = true := by rw [hm]; rfl
      obtain ⟨D, hD⟩ : ∃ D, s.extract 1 s.size = D := ⟨_, rfl⟩
      have HP := Lib.hid (show ∀ k, Sml k → s = decB k → Dgs D k.natAbs ∧ true = decide (k < 0) from fun k hk he => by
        rcases hdec k hk he with ⟨h1, h2⟩ | ⟨h1, h2⟩
        · refine ⟨⟨?_, by have := hk.1; have := hk.2; omega⟩, by simp [h1]⟩
          rw [← hD, ext_list, h2]
          have hl := len_list s
          rw [h2] at hl
          simp at hl
          rw [List.drop_succ_cons, List.drop_zero, List.take_of_length_le (by omega)]
        · rw [h2] at hg
          have := dig_all k.natAbs _ (List.mem_of_getElem? hg)
          omega)
      have hDs : D.size ≤ 1048576 := by rw [← hD, ByteArray.size_extract]; omega
      clear hg hdec hm
      go_enter Tryd.func36, Tryd.ntmps36
      rcases Nat.eq_zero_or_pos D.size with hz | hz
      · have q0 : ((D.size : Int) == 0) = true := by rw [hz]; rfl
        have HZ := Lib.hid hz
        clear hz
        go_wp2_with fail
        exact bodyPost_ret (v := .tuple #[.int .i64 0, .bool false]) (by simp [results, Tryd.results36, go_sem]) rfl ⟨0, false, rfl, (by repeat (first | exact More.refl _ | apply More.plus | apply More.alloc | apply More.drew | apply More.drewN)), fun kk hk he => absurd (HP.out kk hk he).1 (fun hd => (by have := hd.size; have := HZ.out; omega))⟩
      have q0 : ((D.size : Int) == 0) = false := by rw [beq_eq_false_iff_ne]; omega
      rcases dec (17 < D.size) with ⟨hgt, q1'⟩ | ⟨hgt, q1'⟩
      · have q1 : decide ((17 : Int) < (D.size : Int)) = true := decide_eq_true (by omega)
        go_wp2_with fail
        exact bodyPost_ret (v := .tuple #[.int .i64 0, .bool false]) (by simp [results, Tryd.results36, go_sem]) rfl ⟨0, false, rfl, (by repeat (first | exact More.refl _ | apply More.plus | apply More.alloc | apply More.drew | apply More.drewN)), fun kk hk he => absurd (HP.out kk hk he).1 (fun hd => (by have := hd.size; omega))⟩
      have q1 : decide ((17 : Int) < (D.size : Int)) = false := decide_eq_false (by omega)
      by_cases hl : D[0].toNat = 48 ∧ (true = true ∨ 1 < D.size)
      · have q2 : ((D[0].toNat : Int) == 48) = true := by rw [hl.1]; rfl
        have HLd := Lib.hid hl
        clear hl
        rcases dec (1 < D.size) with ⟨h1, q3'⟩ | ⟨h1, q3'⟩
        · have q3 : decide ((1 : Int) < (D.size : Int)) = true := decide_eq_true (by omega)
          go_wp2_with fail
          exact bodyPost_ret (v := .tuple #[.int .i64 0, .bool false]) (by simp [results, Tryd.results36, go_sem]) rfl ⟨0, false, rfl, (by repeat (first | exact More.refl _ | apply More.plus | apply More.alloc | apply More.drew | apply More.drewN)), fun kk hk he => absurd (HP.out kk hk he).1 (fun hd => (by have := (hd.lead hz HLd.out.1).2; omega))⟩
        · have q3 : decide ((1 : Int) < (D.size : Int)) = false := decide_eq_false (by omega)
          have hneg : true = true := by rcases HLd.out.2 with h | h <;> first | exact h | omega
          first | (exact absurd hneg (by decide)) | skip
          all_goals
            go_wp2_with fail
            exact bodyPost_ret (v := .tuple #[.int .i64 0, .bool false]) (by simp [results, Tryd.results36, go_sem]) rfl ⟨0, false, rfl, (by repeat (first | exact More.refl _ | apply More.plus | apply More.alloc | apply More.drew | apply More.drewN)), fun k hk he => absurd (HP.out k hk he).1 (fun hd => by have h5 := (hd.lead hz HLd.out.1).1; have h6 := (HP.out k hk he).2; simp at h6; omega)⟩
      have HNl := Lib.hid hl
      have hgo : (D[0].toNat = 48 ∧ true = false ∧ D.size = 1) ∨ D[0].toNat ≠ 48 := by
        by_cases h : D[0].toNat = 48
        · refine .inl ⟨h, ?_, ?_⟩
          · cases hb : true with
            | false => rfl
            | true => exact absurd ⟨h, .inl hb⟩ hl
          · have : ¬ 1 < D.size := fun h2 => hl ⟨h, .inr h2⟩
            omega
        · exact .inr h
      clear hl
      have hbig : D.size ≤ 17 := by omega
      have HST := Lib.hid (show ∃ b : Bool, (((D[0].toNat : Int) == 48) && (decide ((1 : Int) < (D.size : Int)) || true)) = b from ⟨_, rfl⟩)
      rcases hgo with ⟨g1, g2, g3⟩ | g1
      · (try (exact absurd g2 (by decide)))
        all_goals
          have q2 : ((D[0].toNat : Int) == 48) = true := by rw [g1]; rfl
          have q3 : decide ((1 : Int) < (D.size : Int)) = false := decide_eq_false (by omega)
          clear g1 g2 g3 HNl HST
          go_wp2
          go_loopw [5, 6] (fun n i wr => ∃ (v k : Nat), n = .int .i64 v ∧ i = .int .i64 k ∧ k ≤ D.size ∧ v < 10 ^ k ∧ Lib.parseUint10 0 (D.data.toList.take k) = .ok v ∧ More w wr) (fun _ i _ => D.size - (intOf i).toNat)
          case atStart => exact ⟨0, 0, rfl, rfl, Nat.zero_le _, by decide, rfl, More.refl _⟩
          case round =>
            obtain ⟨v, k, rfl, rfl, hk, hv, hp, x, rfl⟩ := hrel
            have HPa := Lib.hid hp
            have HPw := Lib.hid hv
            clear hp
            rcases dec (k < D.size) with ⟨hlt, v1⟩ | ⟨hlt, v1⟩
            · have hv16 := pow_lt hv (by omega)
              clear hv
              rcases (by omega : D[k].toNat < 48 ∨ 57 < D[k].toNat ∨ (48 ≤ D[k].toNat ∧ D[k].toNat ≤ 57)) with hb | hb | ⟨hb1, hb2⟩
              · have q8 : decide ((D[k].toNat : Int) < 48) = true := decide_eq_true (by omega)
                go_wp2_with fail
                exact bodyPost_ret (v := .tuple #[.int .i64 0, .bool false]) (by simp [results, Tryd.results36, go_sem]) rfl ⟨0, false, rfl, (by repeat (first | exact More.refl _ | apply More.plus | apply More.alloc | apply More.drew | apply More.drewN)), fun kk hk he => absurd (HP.out kk hk he).1 (fun hd => (by have := hd.byte k hlt; omega))⟩
              · have q8 : decide ((D[k].toNat : Int) < 48) = false := decide_eq_false (by omega)
                have q9 : decide ((57 : Int) < (D[k].toNat : Int)) = true := decide_eq_true (by omega)
                go_wp2_with fail
                exact bodyPost_ret (v := .tuple #[.int .i64 0, .bool false]) (by simp [results, Tryd.results36, go_sem]) rfl ⟨0, false, rfl, (by repeat (first | exact More.refl _ | apply More.plus | apply More.alloc | apply More.drew | apply More.drewN)), fun kk hk he => absurd (HP.out kk hk he).1 (fun hd => (by have := hd.byte k hlt; omega))⟩
              · have q8 : decide ((D[k].toNat : Int) < 48) = false := decide_eq_false (by omega)
                have q9 : decide ((57 : Int) < (D[k].toNat : Int)) = false := decide_eq_false (by omega)
                have HPn := Lib.hid (show Lib.parseUint10 0 (D.data.toList.take (k + 1)) = .ok (v * 10 + (D[k].toNat - 48)) by rw [take_snoc (ba_get D k hlt), par_app _ _ _ _ HPa.out, par_one hb1 hb2 hv16])
                have HPx := Lib.hid (show v * 10 + (D[k].toNat - 48) < 10 ^ (k + 1) by have := HPw.out; rw [Nat.pow_succ]; omega)
                go_wp2_with fail
                go_roundw
                case rel => exact ⟨v * 10 + (D[k].toNat - 48), k + 1, int_val (by omega), by go_num, by omega, HPx.out, HPn.out, (by repeat (first | exact More.refl _ | apply More.plus | apply More.alloc | apply More.drew | apply More.drewN))⟩
                case measure => simp [intOf]; omega
            · obtain rfl : k = D.size := by omega
              have hv17 : v < 1000000000000000000 := Nat.lt_of_lt_of_le hv (Nat.pow_le_pow_right (by omega) (by omega : D.size ≤ 18))
              clear hv
              have HV := Lib.hid (show Lib.parseUint10 0 D.data.toList = .ok v by have := HPa.out; rwa [← len_list, List.take_length] at this)
              go_wp2_with fail
              exact bodyPost_ret (v := .tuple #[.int .i64 (-(v : Int)), .bool true]) (by simp [results, Tryd.results36, go_sem]) rfl ⟨(-(v : Int)), true, rfl, (by repeat (first | exact More.refl _ | apply More.plus | apply More.alloc | apply More.drew | apply More.drewN)), fun k hk he => ⟨by
                obtain ⟨hd, hn⟩ := HP.out k hk he
                have h1 := par_dig k.natAbs (by have := hd.few; omega)
                rw [← hd.lst, HV.out] at h1
                injection h1 with h1
                simp at hn
                omega, rfl⟩⟩
      · have q2 : ((D[0].toNat : Int) == 48) = false := by rw [beq_eq_false_iff_ne]; omega
        clear g1 HNl HST
        go_wp2
        go_loopw [5, 6] (fun n i wr => ∃ (v k : Nat), n = .int .i64 v ∧ i = .int .i64 k ∧ k ≤ D.size ∧ v < 10 ^ k ∧ Lib.parseUint10 0 (D.data.toList.take k) = .ok v ∧ More w wr) (fun _ i _ => D.size - (intOf i).toNat)
        case atStart => exact ⟨0, 0, rfl, rfl, Nat.zero_le _, by decide, rfl, More.refl _⟩
        case round =>
          obtain ⟨v, k, rfl, rfl, hk, hv, hp, x, rfl⟩ := hrel
          have HPa := Lib.hid hp
          have HPw := Lib.hid hv
          clear hp
          rcases dec (k < D.size) with ⟨hlt, v1⟩ | ⟨hlt, v1⟩
          · have hv16 := pow_lt hv (by omega)
            clear hv
            rcases (by omega : D[k].toNat < 48 ∨ 57 < D[k].toNat ∨ (48 ≤ D[k].toNat ∧ D[k].toNat ≤ 57)) with hb | hb | ⟨hb1, hb2⟩
            · have q8 : decide ((D[k].toNat : Int) < 48) = true := decide_eq_true (by omega)
              go_wp2_with fail
              exact bodyPost_ret (v := .tuple #[.int .i64 0, .bool false]) (by simp [results, Tryd.results36, go_sem]) rfl ⟨0, false, rfl, (by repeat (first | exact More.refl _ | apply More.plus | apply More.alloc | apply More.drew | apply More.drewN)), fun kk hk he => absurd (HP.out kk hk he).1 (fun hd => (by have := hd.byte k hlt; omega))⟩
            · have q8 : decide ((D[k].toNat : Int) < 48) = false := decide_eq_false (by omega)
              have q9 : decide ((57 : Int) < (D[k].toNat : Int)) = true := decide_eq_true (by omega)
              go_wp2_with fail
              exact bodyPost_ret (v := .tuple #[.int .i64 0, .bool false]) (by simp [results, Tryd.results36, go_sem]) rfl ⟨0, false, rfl, (by repeat (first | exact More.refl _ | apply More.plus | apply More.alloc | apply More.drew | apply More.drewN)), fun kk hk he => absurd (HP.out kk hk he).1 (fun hd => (by have := hd.byte k hlt; omega))⟩
            · have q8 : decide ((D[k].toNat : Int) < 48) = false := decide_eq_false (by omega)
              have q9 : decide ((57 : Int) < (D[k].toNat : Int)) = false := decide_eq_false (by omega)
              have HPn := Lib.hid (show Lib.parseUint10 0 (D.data.toList.take (k + 1)) = .ok (v * 10 + (D[k].toNat - 48)) by rw [take_snoc (ba_get D k hlt), par_app _ _ _ _ HPa.out, par_one hb1 hb2 hv16])
              have HPx := Lib.hid (show v * 10 + (D[k].toNat - 48) < 10 ^ (k + 1) by have := HPw.out; rw [Nat.pow_succ]; omega)
              go_wp2_with fail
              go_roundw
              case rel => exact ⟨v * 10 + (D[k].toNat - 48), k + 1, int_val (by omega), by go_num, by omega, HPx.out, HPn.out, (by repeat (first | exact More.refl _ | apply More.plus | apply More.alloc | apply More.drew | apply More.drewN))⟩
              case measure => simp [intOf]; omega
          · obtain rfl : k = D.size := by omega
            have hv17 : v < 1000000000000000000 := Nat.lt_of_lt_of_le hv (Nat.pow_le_pow_right (by omega) (by omega : D.size ≤ 18))
            clear hv
            have HV := Lib.hid (show Lib.parseUint10 0 D.data.toList = .ok v by have := HPa.out; rwa [← len_list, List.take_length] at this)
            go_wp2_with fail
            exact bodyPost_ret (v := .tuple #[.int .i64 (-(v : Int)), .bool true]) (by simp [results, Tryd.results36, go_sem]) rfl ⟨(-(v : Int)), true, rfl, (by repeat (first | exact More.refl _ | apply More.plus | apply More.alloc | apply More.drew | apply More.drewN)), fun k hk he => ⟨by
              obtain ⟨hd, hn⟩ := HP.out k hk he
              have h1 := par_dig k.natAbs (by have := hd.few; omega)
              rw [← hd.lst, HV.out] at h1
              injection h1 with h1
              simp at hn
              omega, rfl⟩⟩
    · have v1 : ((s[0].toNat : Int) == 45) = false := by rw [beq_eq_false_iff_ne]; omega
      have HP := Lib.hid (show ∀ k, Sml k → s = decB k → Dgs s k.natAbs ∧ false = decide (k < 0) from fun k hk he => by
        rcases hdec k hk he with ⟨h1, h2⟩ | ⟨h1, h2⟩
        · rw [h2] at hg
          injection hg with hg
          exact absurd (by rw [← hg]; rfl) hm
        · exact ⟨⟨h2, by have := hk.1; have := hk.2; omega⟩, by simp; omega⟩)
      clear hg hdec hm v0
      have v0 : decide ((0 : Int) < (s.size : Int)) = true := decide_eq_true (by omega)
      obtain ⟨D, rfl⟩ : ∃ D, D = s := ⟨s, rfl⟩
      go_enter Tryd.func36, Tryd.ntmps36
      rcases Nat.eq_zero_or_pos D.size with hz | hz
      · have q0 : ((D.size : Int) == 0) = true := by rw [hz]; rfl
        have HZ := Lib.hid hz
        clear hz
        go_wp2_with fail
        exact bodyPost_ret (v := .tuple #[.int .i64 0, .bool false]) (by simp [results, Tryd.results36, go_sem]) rfl ⟨0, false, rfl, (by repeat (first | exact More.refl _ | apply More.plus | apply More.alloc | apply More.drew | apply More.drewN)), fun kk hk he => absurd (HP.out kk hk he).1 (fun hd => (by have := hd.size; have := HZ.out; omega))⟩
      have q0 : ((D.size : Int) == 0) = false := by rw [beq_eq_false_iff_ne]; omega
      rcases dec (17 < D.size) with ⟨hgt, q1'⟩ | ⟨hgt, q1'⟩
      · have q1 : decide ((17 : Int) < (D.size : Int)) = true := decide_eq_true (by omega)
        go_wp2_with fail
        exact bodyPost_ret (v := .tuple #[.int .i64 0, .bool false]) (by simp [results, Tryd.results36, go_sem]) rfl ⟨0, false, rfl, (by repeat (first | exact More.refl _ | apply More.plus | apply More.alloc | apply More.drew | apply More.drewN)), fun kk hk he => absurd (HP.out kk hk he).1 (fun hd => (by have := hd.size; omega))⟩
      have q1 : decide ((17 : Int) < (D.size : Int)) = false := decide_eq_false (by omega)
      by_cases hl : D[0].toNat = 48 ∧ (false = true ∨ 1 < D.size)
      · have q2 : ((D[0].toNat : Int) == 48) = true := by rw [hl.1]; rfl
        have HLd := Lib.hid hl
        clear hl
        rcases dec (1 < D.size) with ⟨h1, q3'⟩ | ⟨h1, q3'⟩
        · have q3 : decide ((1 : Int) < (D.size : Int)) = true := decide_eq_true (by omega)
          go_wp2_with fail
          exact bodyPost_ret (v := .tuple #[.int .i64 0, .bool false]) (by simp [results, Tryd.results36, go_sem]) rfl ⟨0, false, rfl, (by repeat (first | exact More.refl _ | apply More.plus | apply More.alloc | apply More.drew | apply More.drewN)), fun kk hk he => absurd (HP.out kk hk he).1 (fun hd => (by have := (hd.lead hz HLd.out.1).2; omega))⟩
        · have q3 : decide ((1 : Int) < (D.size : Int)) = false := decide_eq_false (by omega)
          have hneg : false = true := by rcases HLd.out.2 with h | h <;> first | exact h | omega
          first | (exact absurd hneg (by decide)) | skip
          all_goals
            go_wp2_with fail
            exact bodyPost_ret (v := .tuple #[.int .i64 0, .bool false]) (by simp [results, Tryd.results36, go_sem]) rfl ⟨0, false, rfl, (by repeat (first | exact More.refl _ | apply More.plus | apply More.alloc | apply More.drew | apply More.drewN)), fun k hk he => absurd (HP.out k hk he).1 (fun hd => by have h5 := (hd.lead hz HLd.out.1).1; have h6 := (HP.out k hk he).2; simp at h6; omega)⟩
      have HNl := Lib.hid hl
      have hgo : (D[0].toNat = 48 ∧ false = false ∧ D.size = 1) ∨ D[0].toNat ≠ 48 := by
        by_cases h : D[0].toNat = 48
        · refine .inl ⟨h, ?_, ?_⟩
          · cases hb : false with
            | false => rfl
            | true => exact absurd ⟨h, .inl hb⟩ hl
          · have : ¬ 1 < D.size := fun h2 => hl ⟨h, .inr h2⟩
            omega
        · exact .inr h
      clear hl
      have hbig : D.size ≤ 17 := by omega
      have HST := Lib.hid (show ∃ b : Bool, (((D[0].toNat : Int) == 48) && (decide ((1 : Int) < (D.size : Int)) || false)) = b from ⟨_, rfl⟩)
      rcases hgo with ⟨g1, g2, g3⟩ | g1
      · (try (exact absurd g2 (by decide)))
        all_goals
          have q2 : ((D[0].toNat : Int) == 48) = true := by rw [g1]; rfl
          have q3 : decide ((1 : Int) < (D.size : Int)) = false := decide_eq_false (by omega)
          clear g1 g2 g3 HNl HST
          go_wp2
          go_loopw [5, 6] (fun n i wr => ∃ (v k : Nat), n = .int .i64 v ∧ i = .int .i64 k ∧ k ≤ D.size ∧ v < 10 ^ k ∧ Lib.parseUint10 0 (D.data.toList.take k) = .ok v ∧ More w wr) (fun _ i _ => D.size - (intOf i).toNat)
          case atStart => exact ⟨0, 0, rfl, rfl, Nat.zero_le _, by decide, rfl, More.refl _⟩
          case round =>
            obtain ⟨v, k, rfl, rfl, hk, hv, hp, x, rfl⟩ := hrel
            have HPa := Lib.hid hp
            have HPw := Lib.hid hv
            clear hp
            rcases dec (k < D.size) with ⟨hlt, v1⟩ | ⟨hlt, v1⟩
            · have hv16 := pow_lt hv (by omega)
              clear hv
              rcases (by omega : D[k].toNat < 48 ∨ 57 < D[k].toNat ∨ (48 ≤ D[k].toNat ∧ D[k].toNat ≤ 57)) with hb | hb | ⟨hb1, hb2⟩
              · have q8 : decide ((D[k].toNat : Int) < 48) = true := decide_eq_true (by omega)
                go_wp2_with fail
                exact bodyPost_ret (v := .tuple #[.int .i64 0, .bool false]) (by simp [results, Tryd.results36, go_sem]) rfl ⟨0, false, rfl, (by repeat (first | exact More.refl _ | apply More.plus | apply More.alloc | apply More.drew | apply More.drewN)), fun kk hk he => absurd (HP.out kk hk he).1 (fun hd => (by have := hd.byte k hlt; omega))⟩
              · have q8 : decide ((D[k].toNat : Int) < 48) = false := decide_eq_false (by omega)
                have q9 : decide ((57 : Int) < (D[k].toNat : Int)) = true := decide_eq_true (by omega)
                go_wp2_with fail
                exact bodyPost_ret (v := .tuple #[.int .i64 0, .bool false]) (by simp [results, Tryd.results36, go_sem]) rfl ⟨0, false, rfl, (by repeat (first | exact More.refl _ | apply More.plus | apply More.alloc | apply More.drew | apply More.drewN)), fun kk hk he => absurd (HP.out kk hk he).1 (fun hd => (by have := hd.byte k hlt; omega))⟩
              · have q8 : decide ((D[k].toNat : Int) < 48) = false := decide_eq_false (by omega)
                have q9 : decide ((57 : Int) < (D[k].toNat : Int)) = false := decide_eq_false (by omega)
                have HPn := Lib.hid (show Lib.parseUint10 0 (D.data.toList.take (k + 1)) = .ok (v * 10 + (D[k].toNat - 48)) by rw [take_snoc (ba_get D k hlt), par_app _ _ _ _ HPa.out, par_one hb1 hb2 hv16])
                have HPx := Lib.hid (show v * 10 + (D[k].toNat - 48) < 10 ^ (k + 1) by have := HPw.out; rw [Nat.pow_succ]; omega)
                go_wp2_with fail
                go_roundw
                case rel => exact ⟨v * 10 + (D[k].toNat - 48), k + 1, int_val (by omega), by go_num, by omega, HPx.out, HPn.out, (by repeat (first | exact More.refl _ | apply More.plus | apply More.alloc | apply More.drew | apply More.drewN))⟩
                case measure => simp [intOf]; omega
            · obtain rfl : k = D.size := by omega
              have hv17 : v < 1000000000000000000 := Nat.lt_of_lt_of_le hv (Nat.pow_le_pow_right (by omega) (by omega : D.size ≤ 18))
              clear hv
              have HV := Lib.hid (show Lib.parseUint10 0 D.data.toList = .ok v by have := HPa.out; rwa [← len_list, List.take_length] at this)
              go_wp2_with fail
              exact bodyPost_ret (v := .tuple #[.int .i64 (v : Int), .bool true]) (by simp [results, Tryd.results36, go_sem]) rfl ⟨(v : Int), true, rfl, (by repeat (first | exact More.refl _ | apply More.plus | apply More.alloc | apply More.drew | apply More.drewN)), fun k hk he => ⟨by
                obtain ⟨hd, hn⟩ := HP.out k hk he
                have h1 := par_dig k.natAbs (by have := hd.few; omega)
                rw [← hd.lst, HV.out] at h1
                injection h1 with h1
                simp at hn
                omega, rfl⟩⟩
      · have q2 : ((D[0].toNat : Int) == 48) = false := by rw [beq_eq_false_iff_ne]; omega
        clear g1 HNl HST
        go_wp2
        go_loopw [5, 6] (fun n i wr => ∃ (v k : Nat), n = .int .i64 v ∧ i = .int .i64 k ∧ k ≤ D.size ∧ v < 10 ^ k ∧ Lib.parseUint10 0 (D.data.toList.take k) = .ok v ∧ More w wr) (fun _ i _ => D.size - (intOf i).toNat)
        case atStart => exact ⟨0, 0, rfl, rfl, Nat.zero_le _, by decide, rfl, More.refl _⟩
        case round =>
          obtain ⟨v, k, rfl, rfl, hk, hv, hp, x, rfl⟩ := hrel
          have HPa := Lib.hid hp
          have HPw := Lib.hid hv
          clear hp
          rcases dec (k < D.size) with ⟨hlt, v1⟩ | ⟨hlt, v1⟩
          · have hv16 := pow_lt hv (by omega)
            clear hv
            rcases (by omega : D[k].toNat < 48 ∨ 57 < D[k].toNat ∨ (48 ≤ D[k].toNat ∧ D[k].toNat ≤ 57)) with hb | hb | ⟨hb1, hb2⟩
            · have q8 : decide ((D[k].toNat : Int) < 48) = true := decide_eq_true (by omega)
              go_wp2_with fail
              exact bodyPost_ret (v := .tuple #[.int .i64 0, .bool false]) (by simp [results, Tryd.results36, go_sem]) rfl ⟨0, false, rfl, (by repeat (first | exact More.refl _ | apply More.plus | apply More.alloc | apply More.drew | apply More.drewN)), fun kk hk he => absurd (HP.out kk hk he).1 (fun hd => (by have := hd.byte k hlt; omega))⟩
            · have q8 : decide ((D[k].toNat : Int) < 48) = false := decide_eq_false (by omega)
              have q9 : decide ((57 : Int) < (D[k].toNat : Int)) = true := decide_eq_true (by omega)
              go_wp2_with fail
              exact bodyPost_ret (v := .tuple #[.int .i64 0, .bool false]) (by simp [results, Tryd.results36, go_sem]) rfl ⟨0, false, rfl, (by repeat (first | exact More.refl _ | apply More.plus | apply More.alloc | apply More.drew | apply More.drewN)), fun kk hk he => absurd (HP.out kk hk he).1 (fun hd => (by have := hd.byte k hlt; omega))⟩
            · have q8 : decide ((D[k].toNat : Int) < 48) = false := decide_eq_false (by omega)
              have q9 : decide ((57 : Int) < (D[k].toNat : Int)) = false := decide_eq_false (by omega)
              have HPn := Lib.hid (show Lib.parseUint10 0 (D.data.toList.take (k + 1)) = .ok (v * 10 + (D[k].toNat - 48)) by rw [take_snoc (ba_get D k hlt), par_app _ _ _ _ HPa.out, par_one hb1 hb2 hv16])
              have HPx := Lib.hid (show v * 10 + (D[k].toNat - 48) < 10 ^ (k + 1) by have := HPw.out; rw [Nat.pow_succ]; omega)
              go_wp2_with fail
              go_roundw
              case rel => exact ⟨v * 10 + (D[k].toNat - 48), k + 1, int_val (by omega), by go_num, by omega, HPx.out, HPn.out, (by repeat (first | exact More.refl _ | apply More.plus | apply More.alloc | apply More.drew | apply More.drewN))⟩
              case measure => simp [intOf]; omega
          · obtain rfl : k = D.size := by omega
            have hv17 : v < 1000000000000000000 := Nat.lt_of_lt_of_le hv (Nat.pow_le_pow_right (by omega) (by omega : D.size ≤ 18))
            clear hv
            have HV := Lib.hid (show Lib.parseUint10 0 D.data.toList = .ok v by have := HPa.out; rwa [← len_list, List.take_length] at this)
            go_wp2_with fail
            exact bodyPost_ret (v := .tuple #[.int .i64 (v : Int), .bool true]) (by simp [results, Tryd.results36, go_sem]) rfl ⟨(v : Int), true, rfl, (by repeat (first | exact More.refl _ | apply More.plus | apply More.alloc | apply More.drew | apply More.drewN)), fun k hk he => ⟨by
              obtain ⟨hd, hn⟩ := HP.out k hk he
              have h1 := par_dig k.natAbs (by have := hd.few; omega)
              rw [← hd.lst, HV.out] at h1
              injection h1 with h1
              simp at hn
              omega, rfl⟩⟩

end Go.Proofs.YtmddcbebaijjkaaDoor

/- The reference's reading of pairs and settings. -/
namespace Go.Proofs.YtmddcbebaijjkaaDoor
open Go.RowKit
set_option linter.unusedVariables false
set_option linter.unusedSimpArgs false

/-- what the reference's reading of a pair gives -/
def RetPq (w : World) (t : ByteArray) (e : Ending) (w' : World) : Prop := ∃ (n1 n2 : Int), e = .returned (.agg #[.int .i64 n1, .int .i64 n2]) ∧ More w w' ∧ ∀ q : Pr, Sml q.p → Sml q.b → t = prT q → n1 = q.p ∧ n2 = q.b

theorem prT_dot (q : Pr) : (prT q).data.toList = (decB q.p).data.toList ++ 46 :: (decB q.b).data.toList := by
  unfold prT
  simp

set_option maxRecDepth 100000 in
set_option maxHeartbeats 4000000 in
theorem l3Pair_any (t : ByteArray) (w : World) (hs : t.size ≤ 1048576) : Calls Tryd.prog 37 #[.string t] w (RetPq w t) := by
  go_enter Tryd.func37, Tryd.ntmps37
  go_wp2_with fail
  refine (l9Find_any t 46 _ hs).mono ?_
  rintro e w' ⟨n, rfl, ⟨x0, rfl⟩, hn⟩
  rcases hn with ⟨rfl, hno⟩ | ⟨k, rfl, hk, hg, hno⟩
  · have HN := Lib.hid hno
    clear hno
    go_wp2_with fail
    refine bodyPost_ret (v := .agg #[.int .i64 (-1), .int .i64 0]) (by simp [results, Tryd.results37, go_sem, ↓IntWalk.iteOmega]) rfl ⟨-1, 0, rfl, below_more (by repeat (first | exact Below.refl _ _ | refine below_plus ?_ (by first | omega | (simp <;> omega)) _ | refine Below.alloc ?_ (by first | omega | (simp <;> omega)) _ | refine below_patch ?_ (by omega) _ | refine Below.drew ?_)), fun q hp hb ht => ?_⟩
    have h1 : (46 : UInt8) ∈ t.data.toList := by rw [ht, prT_dot]; simp
    obtain ⟨j, hj⟩ := List.getElem?_of_mem h1
    have h2 := (List.getElem?_eq_some_iff.1 hj).1
    rw [len_list] at h2
    exact absurd hj (HN.out j (Nat.zero_le _) h2)
  · have hx := ext_at (Nat.zero_le k) hk hg
    rw [ext_all] at hx
    have hnc := ext_noc hno
    have HU := Lib.hid (show ∀ q : Pr, t = prT q → t.extract 0 k = decB q.p ∧ t.extract (k + 1) t.size = decB q.b from fun q ht => by
      have h1 : t.data.toList = (t.extract 0 k ++ (⟨#[46]⟩ : ByteArray) ++ t.extract (k + 1) t.size).data.toList := congrArg (fun z : ByteArray => z.data.toList) hx
      have h5 := (congrArg (fun z : ByteArray => z.data.toList) ht).symm.trans h1
      have h6 := (prT_dot q).symm.trans h5
      have h2 : (decB q.p).data.toList ++ 46 :: (decB q.b).data.toList = (t.extract 0 k).data.toList ++ 46 :: (t.extract (k + 1) t.size).data.toList := by
        rw [h6]
        simp only [ByteArray.data_append, Array.toList_append]
        exact List.append_assoc _ [46] _
      obtain ⟨h3, h4⟩ := cut_uniq (decB_ne (by decide) (by decide)) hnc h2
      exact ⟨ba_ext h3.symm, ba_ext h4.symm⟩)
    obtain ⟨s1, hs1⟩ : ∃ y, t.extract 0 k = y := ⟨_, rfl⟩
    obtain ⟨s2, hs2⟩ : ∃ y, t.extract (k + 1) t.size = y := ⟨_, rfl⟩
    have hz1 : s1.size ≤ 1048576 := by rw [← hs1, ByteArray.size_extract]; omega
    have hz2 : s2.size ≤ 1048576 := by rw [← hs2, ByteArray.size_extract]; omega
    rw [hs1, hs2] at HU
    clear hx hnc hg hno
    go_wp2_with fail
    refine (l9Num_any s1 _ hz1).mono ?_
    rintro e w' ⟨n1, ok1, rfl, ⟨x1, rfl⟩, h1⟩
    have H1 := Lib.hid h1
    clear h1
    go_wp2_with fail
    refine (l9Num_any s2 _ hz2).mono ?_
    rintro e w' ⟨n2, ok2, rfl, ⟨x2, rfl⟩, h2⟩
    have HQ := Lib.hid (show ∀ q : Pr, Sml q.p → Sml q.b → t = prT q → n1 = q.p ∧ n2 = q.b ∧ ok1 = true ∧ ok2 = true from fun q hp hb ht => by
      obtain ⟨e1, e2⟩ := HU.out q ht
      obtain ⟨a1, a2⟩ := H1.out q.p hp e1
      obtain ⟨b1, b2⟩ := h2 q.b hb e2
      exact ⟨a1, b1, a2, b2⟩)
    clear h2 H1 HU hs1 hs2
    cases ok1
    · go_wp2_with fail
      exact bodyPost_ret (v := .agg #[.int .i64 (-1), .int .i64 0]) (by simp [results, Tryd.results37, go_sem, ↓IntWalk.iteOmega]) rfl ⟨-1, 0, rfl, below_more (by repeat (first | exact Below.refl _ _ | refine below_plus ?_ (by first | omega | (simp <;> omega)) _ | refine Below.alloc ?_ (by first | omega | (simp <;> omega)) _ | refine below_patch ?_ (by omega) _ | refine Below.drew ?_)), fun q hp hb ht => by obtain ⟨_, _, h9, _⟩ := HQ.out q hp hb ht; cases h9⟩
    cases ok2
    · go_wp2_with fail
      exact bodyPost_ret (v := .agg #[.int .i64 (-1), .int .i64 0]) (by simp [results, Tryd.results37, go_sem, ↓IntWalk.iteOmega]) rfl ⟨-1, 0, rfl, below_more (by repeat (first | exact Below.refl _ _ | refine below_plus ?_ (by first | omega | (simp <;> omega)) _ | refine Below.alloc ?_ (by first | omega | (simp <;> omega)) _ | refine below_patch ?_ (by omega) _ | refine Below.drew ?_)), fun q hp hb ht => by obtain ⟨_, _, _, h9⟩ := HQ.out q hp hb ht; cases h9⟩
    go_wp2_with fail
    exact bodyPost_ret (v := .agg #[.int .i64 n1, .int .i64 n2]) (by simp [results, Tryd.results37, go_sem, ↓IntWalk.iteOmega]) rfl ⟨n1, n2, rfl, below_more (by repeat (first | exact Below.refl _ _ | refine below_plus ?_ (by first | omega | (simp <;> omega)) _ | refine Below.alloc ?_ (by first | omega | (simp <;> omega)) _ | refine below_patch ?_ (by omega) _ | refine Below.drew ?_)), fun q hp hb ht => by obtain ⟨h8, h9, _⟩ := HQ.out q hp hb ht; exact ⟨h8, h9⟩⟩

/-- what the reference's reading of a setting gives -/
def RetPz (w : World) (t : ByteArray) (e : Ending) (w' : World) : Prop := ∃ (o l m : Int) (ok : Bool), e = .returned (.tuple #[.agg #[.int .i64 o, .int .i64 l, .int .i64 m], .bool ok]) ∧ More w w' ∧ ∀ o' l' m', sv o' l' m' = true → t = setT o' l' m' → o = o' ∧ l = l' ∧ m = m'

theorem setT_inj {o l m o' l' m' : Int} (h : sv o l m = true) (h' : sv o' l' m' = true) (e : setT o l m = setT o' l' m') : o = o' ∧ l = l' ∧ m = m' := by
  have h1 := setT_cut o l m
  rw [e, setT_cut] at h1
  injection h1 with h1 h2
  injection h2 with h2 h3
  injection h3 with h3 h4
  obtain ⟨i1, i2⟩ := sv_i64 h
  obtain ⟨i3, i4⟩ := sv_i64 h'
  refine ⟨?_, decB_inj i1.1 i1.2 i3.1 i3.2 h2.symm, decB_inj i2.1 i2.2 i4.1 i4.2 h3.symm⟩
  have ho := (sv_iff.1 h).1
  have ho' := (sv_iff.1 h').1
  unfold ordT at h1
  rcases ho with rfl | rfl <;> rcases ho' with rfl | rfl <;> first | rfl | (exfalso; exact absurd h1 (by decide))

set_option maxRecDepth 100000 in
set_option maxHeartbeats 8000000 in
theorem specParseSetting_any (t : ByteArray) (w : World) (hs : t.size ≤ 1048576) : Calls Tryd.prog 35 #[.string t] w (RetPz w t) := by
  go_enter Tryd.func35, Tryd.ntmps35
  go_wp2
  go_loopw [4] (fun i wr => ∃ (a : Nat), i = .int .i64 a ∧ a ≤ 2 ∧ (∀ o' l' m', sv o' l' m' = true → t = setT o' l' m' → (a : Int) ≤ o') ∧ ∃ x, wr = plus (w.alloc (.cells #[.int .i64 0, .int .i64 0, .int .i64 0] 29)) x) (fun i _ => 2 - (intOf i).toNat)
  case atStart => exact ⟨0, rfl, by omega, fun o' l' m' h _ => by have := (sv_iff.1 h).1; omega, ⟨⟨#[], _⟩, (plus_self _).symm⟩⟩
  case round =>
    obtain ⟨a, rfl, ha, hT, x, rfl⟩ := hrel
    have HT := Lib.hid hT
    clear hT
    rcases dec (a < 2) with ⟨hlt, v1'⟩ | ⟨hlt, v1'⟩
    · have v1 : decide ((a : Int) ≤ 1) = true := decide_eq_true (by omega)
      clear v1'
      go_wp2
      go_loopw [5] (fun i wr => ∃ (b : Nat), i = .int .i64 b ∧ 1 ≤ b ∧ b ≤ 9 ∧ (∀ o' l' m', sv o' l' m' = true → t = setT o' l' m' → (a : Int) < o' ∨ ((a : Int) = o' ∧ (b : Int) ≤ l')) ∧ ∃ x, wr = plus (w.alloc (.cells #[.int .i64 0, .int .i64 0, .int .i64 0] 29)) x) (fun i _ => 9 - (intOf i).toNat)
      case atStart => exact ⟨1, rfl, by omega, by omega, fun o' l' m' h ht => by have := HT.out o' l' m' h ht; have := (sv_iff.1 h).2.1; omega, ⟨_, rfl⟩⟩
      case round =>
        obtain ⟨b, rfl, hb1, hb, hT2, x2, rfl⟩ := hrel
        have HT2 := Lib.hid hT2
        clear hT2
        rcases dec (b < 9) with ⟨hlt2, v2'⟩ | ⟨hlt2, v2'⟩
        · have v2 : decide ((b : Int) ≤ 8) = true := decide_eq_true (by omega)
          clear v2'
          go_wp2
          go_loopw [6] (fun i wr => ∃ (c : Nat), i = .int .i64 c ∧ 1 ≤ c ∧ c ≤ 11 ∧ (∀ o' l' m', sv o' l' m' = true → t = setT o' l' m' → (a : Int) < o' ∨ ((a : Int) = o' ∧ ((b : Int) < l' ∨ ((b : Int) = l' ∧ (c : Int) ≤ m')))) ∧ ∃ x, wr = plus (w.alloc (.cells #[.int .i64 0, .int .i64 0, .int .i64 0] 29)) x) (fun i _ => 11 - (intOf i).toNat)
          case atStart => exact ⟨1, rfl, by omega, by omega, fun o' l' m' h ht => by have := HT2.out o' l' m' h ht; have h9 := sv_iff.1 h; omega, ⟨_, rfl⟩⟩
          case round =>
            obtain ⟨c, rfl, hc1, hc, hT3, x3, rfl⟩ := hrel
            have HT3 := Lib.hid hT3
            clear hT3
            rcases dec (c < 11) with ⟨hlt3, v3'⟩ | ⟨hlt3, v3'⟩
            · have v3 : decide ((c : Int) ≤ 10) = true := decide_eq_true (by omega)
              clear v3'
              go_wp2_with fail
              refine (specSettingValid_any a b c _).mono ?_
              rintro e w' ⟨rfl, x4, rfl⟩
              cases hsv : sv (a : Int) (b : Int) (c : Int)
              · have HN := Lib.hid (show ∀ o' l' m', sv o' l' m' = true → t = setT o' l' m' → (a : Int) < o' ∨ ((a : Int) = o' ∧ ((b : Int) < l' ∨ ((b : Int) = l' ∧ ((c + 1 : Nat) : Int) ≤ m'))) from fun o' l' m' h ht => by
                  have h9 := HT3.out o' l' m' h ht
                  by_cases he : (a : Int) = o' ∧ (b : Int) = l' ∧ (c : Int) = m'
                  · obtain ⟨rfl, rfl, rfl⟩ := he
                    rw [hsv] at h
                    cases h
                  · omega)
                clear hsv
                go_wp2_with fail
                go_roundw
                case rel => exact ⟨c + 1, by go_num, by omega, by omega, HN.out, (by repeat (first | exact More.refl _ | apply More.plus | apply More.alloc | apply More.drew | apply More.drewN))⟩
                case measure => simp [intOf]; omega
              · have HSV := Lib.hid hsv
                clear hsv
                go_wp2_with fail
                refine (specFormatSetting_any a b c _ HSV.out).mono ?_
                rintro e w' ⟨rfl, x5, rfl⟩
                by_cases he : setT a b c = t
                · have q : ((setT a b c).toList == t.toList) = true := by rw [he]; simp
                  have HE := Lib.hid he
                  clear he
                  go_wp2_with fail
                  exact bodyPost_ret (v := .tuple #[.agg #[.int .i64 a, .int .i64 b, .int .i64 c], .bool true]) (by simp [results, Tryd.results35, go_sem, ↓IntWalk.iteOmega]) rfl ⟨a, b, c, true, rfl, below_more (by repeat (first | exact Below.refl _ _ | refine below_plus ?_ (by first | omega | (simp <;> omega)) _ | refine Below.alloc ?_ (by first | omega | (simp <;> omega)) _ | refine below_patch ?_ (by omega) _ | refine Below.drew ?_)), fun o' l' m' h ht => setT_inj HSV.out h (HE.out.trans ht)⟩
                · have q := ne_lists he
                  have HN := Lib.hid (show ∀ o' l' m', sv o' l' m' = true → t = setT o' l' m' → (a : Int) < o' ∨ ((a : Int) = o' ∧ ((b : Int) < l' ∨ ((b : Int) = l' ∧ ((c + 1 : Nat) : Int) ≤ m'))) from fun o' l' m' h ht => by
                    have h9 := HT3.out o' l' m' h ht
                    by_cases hq : (a : Int) = o' ∧ (b : Int) = l' ∧ (c : Int) = m'
                    · obtain ⟨rfl, rfl, rfl⟩ := hq
                      exact absurd ht.symm he
                    · omega)
                  clear he
                  go_wp2_with fail
                  go_roundw
                  case rel => exact ⟨c + 1, by go_num, by omega, by omega, HN.out, (by repeat (first | exact More.refl _ | apply More.plus | apply More.alloc | apply More.drew | apply More.drewN))⟩
                  case measure => simp [intOf]; omega
            · have v3 : decide ((c : Int) ≤ 10) = false := decide_eq_false (by omega)
              clear v3'
              have HN := Lib.hid (show ∀ o' l' m', sv o' l' m' = true → t = setT o' l' m' → (a : Int) < o' ∨ ((a : Int) = o' ∧ ((b + 1 : Nat) : Int) ≤ l') from fun o' l' m' h ht => by
                have h9 := HT3.out o' l' m' h ht
                have h8 := sv_iff.1 h
                omega)
              go_wp2_with fail
              go_roundw
              case rel => exact ⟨b + 1, by go_num, by omega, by omega, HN.out, ⟨_, rfl⟩⟩
              case measure => simp [intOf]; omega
        · have v2 : decide ((b : Int) ≤ 8) = false := decide_eq_false (by omega)
          clear v2'
          have HN := Lib.hid (show ∀ o' l' m', sv o' l' m' = true → t = setT o' l' m' → ((a + 1 : Nat) : Int) ≤ o' from fun o' l' m' h ht => by
            have h9 := HT2.out o' l' m' h ht
            have h8 := sv_iff.1 h
            omega)
          go_wp2_with fail
          go_roundw
          case rel => exact ⟨a + 1, by go_num, by omega, HN.out, ⟨_, rfl⟩⟩
          case measure => simp [intOf]; omega
    · have v1 : decide ((a : Int) ≤ 1) = false := decide_eq_false (by omega)
      clear v1'
      go_wp2_with fail
      exact bodyPost_ret (v := .tuple #[.agg #[.int .i64 0, .int .i64 0, .int .i64 0], .bool false]) (by simp [results, Tryd.results35, go_sem, ↓IntWalk.iteOmega]) rfl ⟨0, 0, 0, false, rfl, below_more (by repeat (first | exact Below.refl _ _ | refine below_plus ?_ (by first | omega | (simp <;> omega)) _ | refine Below.alloc ?_ (by first | omega | (simp <;> omega)) _ | refine below_patch ?_ (by omega) _ | refine Below.drew ?_)), fun o' l' m' h ht => by have h9 := HT.out o' l' m' h ht; have h8 := sv_iff.1 h; omega⟩

end Go.Proofs.YtmddcbebaijjkaaDoor

/- The program's reading of what is known. -/
namespace Go.Proofs.YtmddcbebaijjkaaDoor
open Go.RowKit
set_option linter.unusedVariables false
set_option linter.unusedSimpArgs false

theorem grewF {A : Option Addr} {w w' : World} {k : Nat} {ob : Obj} (hg : Grew A w w') (h : w.heap[k]? = some ob) (ho : ∀ X, A = some X → X.block ≠ k) : w'.heap[k]? = some ob := by
  rw [hg.block k (Array.getElem?_eq_some_iff.1 h).1 ho]; exact h

/-- what is known, being read from texts tx in block bt -/
structure PkS (w wr : World) (bt B L : Nat) (tx : Array Value) (o l m b la : Int) (A : Option Addr) (c : Nat) (ys : List Pr) : Prop where
  z : wr.heap[w.heap.size]? = some (.cells #[.int .i64 0, .int .i64 0, .int .i64 0, .slice none 0 0, .int .i64 0, .int .i64 0] 32 (0, 0))
  k : wr.heap[B]? = some (.cells #[.int .i64 o, .int .i64 l, .int .i64 m, .slice A ys.length c, .int .i64 b, .int .i64 la] 32 (0, 0))
  t : wr.heap[bt]? = some (.cells tx 9 (0, 0))
  own : Own encP 53 wr A c ys L
  bel : Below w.heap.size w wr
  low : w.heap.size < B ∧ B < L ∧ bt < L ∧ w.heap.size < bt ∧ bt ≠ B ∧ L ≤ wr.heap.size

theorem own_ptF {α : Type} {E : Enc α} {e : TypeId} {w : World} {a : Option Addr} {cap : Nat} {xs : List α} {lo b : Nat} {ob : Obj} (h : Own E e w a cap xs lo) (ho : ∀ X, a = some X → X.block ≠ b) : Own E e (patch w b ob) a cap xs lo := by
  rcases h with h | ⟨b', cur, h0, h1, hb, h2⟩
  · exact .inl h
  · exact .inr ⟨b', cur, h0, h1, (patch_other _ _ _ (ho _ h0)).trans hb, h2⟩

theorem calls_nmF {P : Program} {f : FuncId} {args : Array Value} {Q : Ending → World → Prop} {W : World} (F : World → Prop) (hF : F W) (h : ∀ X, F X → Calls P f args X Q) : Calls P f args W Q := h W hF

theorem own_mo {α : Type} {E : Enc α} {e : TypeId} {w w' : World} {a : Option Addr} {cap : Nat} {xs : List α} {lo : Nat} (h : Own E e w a cap xs lo) (hm : More w w') : Own E e w' a cap xs lo := by
  obtain ⟨x, rfl⟩ := hm
  exact h.plus x

theorem PkS.more {w wr wr' : World} {bt B L : Nat} {tx : Array Value} {o l m b la : Int} {A : Option Addr} {c : Nat} {ys : List Pr} (h : PkS w wr bt B L tx o l m b la A c ys) (hm : More wr wr') : PkS w wr' bt B L tx o l m b la A c ys :=
  ⟨blk_mo h.z hm, blk_mo h.k hm, blk_mo h.t hm, own_mo h.own hm, h.bel.trans ((more_below hm).mono h.bel.size), by have := h.low; have := (more_below hm).size; omega⟩

/-- what the walk knows of a world with what is known -/
theorem PkS.facts {w wr : World} {bt B L : Nat} {tx : Array Value} {o l m b la : Int} {A : Option Addr} {c : Nat} {ys : List Pr} (h : PkS w wr bt B L tx o l m b la A c ys) : w.heap.size < wr.heap.size ∧ B < wr.heap.size ∧ bt < wr.heap.size ∧ w.heap.size < B := by
  have := h.low; omega

theorem PkS.off {w wr : World} {bt B L : Nat} {tx : Array Value} {o l m b la : Int} {A : Option Addr} {c : Nat} {ys : List Pr} (h : PkS w wr bt B L tx o l m b la A c ys) : ∀ X, A = some X → L ≤ X.block := fun X hX => (own_lt h.own X hX).1

theorem wpList_appP {P : Program} {ops : Array Oper} {rest : List Oper} {o : Oper} {a : Act} {w1 W : World} {Q : Exit → Act → World → Prop} {w : World} {bt B L : Nat} {tx : Array Value} {ko kl km b la : Int} {A : Option Addr} {c : Nat} {ys : List Pr} (p : Pr) (s x : Operand) (i : TypeInfo) (z : Value) (hgd : o.guard = none)
    (ho : o.op = .call { callee := .builtin .append, args := #[s, x], argTypes := #[30, 30] }) (ht : P.underlying 30 = some (.slice 53)) (hi : P.info? 53 = some i) (hz : i.zero = some z) (hsz : i.size = 2) (hby : i.bytes = 16)
    (hzs : z.cells.size = 2) (hS : PkS w w1 bt B L tx ko kl km b la A c ys) (hm : More w1 W) (hs : a.eval s = .slice A ys.length c) (bb cc : Nat) (hr : ∀ j u, (flat encP [p])[j]? = some u → W.cell? ⟨bb, 0 + j, none⟩ = some u) (hx : a.eval x = .slice (some ⟨bb, 0, none⟩) 1 cc) (hl : ys.length ≤ 2000000)
    (h : ∀ (A' : Option Addr) (c' : Nat) (w' : World), w'.heap[w.heap.size]? = some (.cells #[.int .i64 0, .int .i64 0, .int .i64 0, .slice none 0 0, .int .i64 0, .int .i64 0] 32 (0, 0)) →
      w'.heap[B]? = some (.cells #[.int .i64 ko, .int .i64 kl, .int .i64 km, .slice A ys.length c, .int .i64 b, .int .i64 la] 32 (0, 0)) →
      PkS w (patch w' B (.cells #[.int .i64 ko, .int .i64 kl, .int .i64 km, .slice A' (ys ++ [p]).length c', .int .i64 b, .int .i64 la] 32 (0, 0))) bt B L tx ko kl km b la A' c' (ys ++ [p]) → wpList P ops Q rest (a.put o.dst (.slice A' (ys ++ [p]).length c')) w') :
    wpList P ops Q (o :: rest) a W := by
  have hS2 := hS.more hm
  refine wpList_append_at encP s x _ _ i z 16 hgd ho ht hi hz hsz hby hzs (by decide) ys A c L hS2.own hs [p] bb 0 cc hr hx (by show _ + 1 ≤ _; omega) (by show (_ + 1) * 16 ≤ _; omega) (by have := hS2.low; omega) ?_
  intro A' c' w' h1 h2 h3
  have hlo := hS2.low
  have hoff := hS2.off
  have hk := grewF h2 hS2.k (fun X hX e => by have := hoff X hX; omega)
  have hzz := grewF h2 hS2.z (fun X hX e => by have := hoff X hX; omega)
  have htt := grewF h2 hS2.t (fun X hX e => by have := hoff X hX; omega)
  have hsz' := h2.size
  have hA' : ∀ X, A' = some X → L ≤ X.block := fun X hX => (own_lt h1 X hX).1
  have hbl := hS2.bel.trans (h2.below (B := w.heap.size) (by omega) (fun X hX => by have := hoff X hX; omega))
  refine h A' c' w' hzz hk ⟨(patch_other _ _ _ (by omega)).trans hzz, patch_at _ _ _ (Array.getElem?_eq_some_iff.1 hk).1, (patch_other _ _ _ (by omega)).trans htt, own_ptF h1 (fun X hX e => by have := hA' X hX; omega), below_patch hbl (by omega) _, ?_⟩
  rw [patch_size]
  omega




set_option maxRecDepth 100000 in
set_option maxHeartbeats 8000000 in
theorem ParseKnown_any (t : ByteArray) (w : World) (hs : t.size ≤ 1048576) (hl : Lw w) : Calls Tryd.prog 12 #[.string t] w (RetPk w t) := by
  obtain ⟨i0, hi, hz0, hz1, hz2⟩ := info_parts infoPair
  have HL := Lib.hid hl
  clear hl
  have hlim := cutB_lim 59 t
  have hmem := fun x => cutB_mem (c := 59) (s := t) (x := x)
  obtain ⟨xs, hxs⟩ : ∃ xs, cutB 59 t = xs := ⟨_, rfl⟩
  rw [hxs] at hlim hmem
  have HX := Lib.hid hxs
  have HSP := Lib.hid (Split_any t 59)
  rw [hxs] at HSP
  clear hxs
  go_enter Tryd.func12, Tryd.ntmps12
  go_wp2_with fail
  refine (HSP.out _ hs).mono ?_
  rintro e X ⟨bt, rfl, hb0, hb, hm⟩
  have hm : More _ X := hm
  simp at hb0
  have HZ := Lib.hid (blk_mo (pushF w _ _ rfl) hm)
  have HB := Lib.hid (((Below.refl w.heap.size w).alloc (Nat.le_refl _) _).trans ((more_below hm).mono (by simp)))
  have rz := cell_of HZ.out
  have fz := free_of HZ.out
  have sz := fun i v => setCell_patch HZ.out i v
  have hX1 : w.heap.size < X.heap.size := (Array.getElem?_eq_some_iff.1 HZ.out).1
  have rb := cell_of hb
  have HBT := Lib.hid hb
  have hX2 : bt < X.heap.size := (Array.getElem?_eq_some_iff.1 hb).1
  clear hm hb
  by_cases h4 : xs.length = 4
  case neg =>
    have v3 : ((xs.length : Int) == 4) = false := by rw [beq_eq_false_iff_ne]; omega
    have HN := Lib.hid (kn_miss (t := t) (by rw [HX.out]; exact h4))
    go_wp2_with fail
    exact bodyPost_ret (v := .tuple #[.agg #[.int .i64 0, .int .i64 0, .int .i64 0, .slice none 0 0, .int .i64 0, .int .i64 0], .bool false]) (by simp [results, Tryd.results12, go_sem, ↓IntWalk.iteOmega]) rfl ⟨0, 0, 0, [], 0, 0, false, ⟨none, 0, rfl, .inl ⟨rfl, rfl, rfl⟩, below_more (by repeat (first | (with_reducible exact HB.out) | refine below_plus ?_ (by first | omega | (simp <;> omega)) _ | refine Below.alloc ?_ (by first | omega | (simp <;> omega)) _ | refine below_patch ?_ (by omega) _ | refine Below.drew ?_))⟩, fun h => by (cases h), fun _ => ⟨rfl, rfl, rfl, rfl, rfl, rfl⟩, fun o' l' m' ps' b' la' hk' ht' => absurd ht' (HN.out _ _ _ _ _ _)⟩
  obtain ⟨f0, f1, f2, f3, rfl⟩ := four_of h4
  have hf0 := hmem f0 (by simp)
  have hf1 := hmem f1 (by simp)
  have hf2 := hmem f2 (by simp)
  have hf3 := hmem f3 (by simp)
  have HPT := Lib.hid (fun o l m ps b la => kn_parts HX.out (o := o) (l := l) (m := m) (ps := ps) (b := b) (la := la))
  clear hmem HSP h4
  simp only [List.map_cons, List.map_nil] at rb
  have hi0 : f0.size ≤ 1048576 := by omega
  have hi1 : f1.size ≤ 1048576 := by omega
  have hi2 : f2.size ≤ 1048576 := by omega
  have hi3 : f3.size ≤ 1048576 := by omega
  go_wp2_with fail
  refine (ParseSetting_any f0 _ hi0 (HL.out.below (by repeat (first | (with_reducible exact HB.out) | refine below_plus ?_ (by first | omega | (simp <;> omega)) _ | refine Below.alloc ?_ (by first | omega | (simp <;> omega)) _ | refine below_patch ?_ (by omega) _ | refine Below.drew ?_)))).mono ?_
  rintro e w' ⟨o, l, m, ok0, rfl, ⟨x1, rfl⟩, ha0, hg0⟩
  have HA0 := Lib.hid ha0
  have HG0 := Lib.hid hg0
  clear ha0 hg0
  go_wp2_with fail
  refine (parseNumber_any f1 _ hi1 (HL.out.below (by repeat (first | (with_reducible exact HB.out) | refine below_plus ?_ (by first | omega | (simp <;> omega)) _ | refine Below.alloc ?_ (by first | omega | (simp <;> omega)) _ | refine below_patch ?_ (by omega) _ | refine Below.drew ?_)))).mono ?_
  rintro e w' ⟨b, ok1, rfl, ⟨x2, rfl⟩, ha1, hg1⟩
  have HA1 := Lib.hid ha1
  have HG1 := Lib.hid hg1
  clear ha1 hg1
  go_wp2_with fail
  refine (parseNumber_any f2 _ hi2 (HL.out.below (by repeat (first | (with_reducible exact HB.out) | refine below_plus ?_ (by first | omega | (simp <;> omega)) _ | refine Below.alloc ?_ (by first | omega | (simp <;> omega)) _ | refine below_patch ?_ (by omega) _ | refine Below.drew ?_)))).mono ?_
  rintro e w' ⟨la, ok2, rfl, ⟨x3, rfl⟩, ha2, hg2⟩
  have HA2 := Lib.hid ha2
  have HG2 := Lib.hid hg2
  clear ha2 hg2
  cases ok0
  · go_wp2_with fail
    exact bodyPost_ret (v := .tuple #[.agg #[.int .i64 0, .int .i64 0, .int .i64 0, .slice none 0 0, .int .i64 0, .int .i64 0], .bool false]) (by simp [results, Tryd.results12, go_sem, ↓IntWalk.iteOmega]) rfl ⟨0, 0, 0, [], 0, 0, false, ⟨none, 0, rfl, .inl ⟨rfl, rfl, rfl⟩, below_more (by repeat (first | (with_reducible exact HB.out) | refine below_plus ?_ (by first | omega | (simp <;> omega)) _ | refine Below.alloc ?_ (by first | omega | (simp <;> omega)) _ | refine below_patch ?_ (by omega) _ | refine Below.drew ?_))⟩, fun h => by (cases h), fun _ => ⟨rfl, rfl, rfl, rfl, rfl, rfl⟩, fun o' l' m' ps' b' la' hk' ht' => (by obtain ⟨e0, _⟩ := HPT.out _ _ _ _ _ _ ht'; obtain ⟨_, _, _, h9⟩ := HG0.out o' l' m' (kvb_iff.1 hk').s e0; cases h9)⟩
  cases ok1
  · go_wp2_with fail
    exact bodyPost_ret (v := .tuple #[.agg #[.int .i64 0, .int .i64 0, .int .i64 0, .slice none 0 0, .int .i64 0, .int .i64 0], .bool false]) (by simp [results, Tryd.results12, go_sem, ↓IntWalk.iteOmega]) rfl ⟨0, 0, 0, [], 0, 0, false, ⟨none, 0, rfl, .inl ⟨rfl, rfl, rfl⟩, below_more (by repeat (first | (with_reducible exact HB.out) | refine below_plus ?_ (by first | omega | (simp <;> omega)) _ | refine Below.alloc ?_ (by first | omega | (simp <;> omega)) _ | refine below_patch ?_ (by omega) _ | refine Below.drew ?_))⟩, fun h => by (cases h), fun _ => ⟨rfl, rfl, rfl, rfl, rfl, rfl⟩, fun o' l' m' ps' b' la' hk' ht' => (by obtain ⟨_, e1, _⟩ := HPT.out _ _ _ _ _ _ ht'; obtain ⟨_, h9⟩ := HG1.out b' (kvb_iff.1 hk').all64.1 e1; cases h9)⟩
  cases ok2
  · go_wp2_with fail
    exact bodyPost_ret (v := .tuple #[.agg #[.int .i64 0, .int .i64 0, .int .i64 0, .slice none 0 0, .int .i64 0, .int .i64 0], .bool false]) (by simp [results, Tryd.results12, go_sem, ↓IntWalk.iteOmega]) rfl ⟨0, 0, 0, [], 0, 0, false, ⟨none, 0, rfl, .inl ⟨rfl, rfl, rfl⟩, below_more (by repeat (first | (with_reducible exact HB.out) | refine below_plus ?_ (by first | omega | (simp <;> omega)) _ | refine Below.alloc ?_ (by first | omega | (simp <;> omega)) _ | refine below_patch ?_ (by omega) _ | refine Below.drew ?_))⟩, fun h => by (cases h), fun _ => ⟨rfl, rfl, rfl, rfl, rfl, rfl⟩, fun o' l' m' ps' b' la' hk' ht' => (by obtain ⟨_, _, e2, _⟩ := HPT.out _ _ _ _ _ _ ht'; obtain ⟨_, h9⟩ := HG2.out la' (kvb_iff.1 hk').all64.2.1 e2; cases h9)⟩
  have HH := Lib.hid (show sv o l m = true ∧ f0 = setT o l m ∧ f1 = decB b ∧ f2 = decB la from ⟨(HA0.out rfl).1, (HA0.out rfl).2, (HA1.out rfl).1, (HA2.out rfl).1⟩)
  have HU := Lib.hid (show ∀ o' l' m' ps' b' la', kvb o' l' m' ps' b' la' = true → t = knT o' l' m' ps' b' la' → o = o' ∧ l = l' ∧ m = m' ∧ b = b' ∧ la = la' from fun o' l' m' ps' b' la' hk' ht' => by
    obtain ⟨e0, e1, e2, _⟩ := HPT.out _ _ _ _ _ _ ht'
    obtain ⟨h1, h2, h3, _⟩ := HG0.out o' l' m' (kvb_iff.1 hk').s e0
    obtain ⟨h4, _⟩ := HG1.out b' (kvb_iff.1 hk').all64.1 e1
    obtain ⟨h5, _⟩ := HG2.out la' (kvb_iff.1 hk').all64.2.1 e2
    exact ⟨h1, h2, h3, h4, h5⟩)
  clear HA0 HA1 HA2 HG0 HG1 HG2 HPT
  by_cases h45 : f3 = ⟨#[45]⟩
  · have q45 : (f3.toList == [45]) = true := by rw [h45, ByteArray.toList_eq]; rfl
    have HW := Lib.hid (fun _ : kvb o l m [] b la = true => kn_whole HX.out HH.out.2.1 HH.out.2.2.1 HH.out.2.2.2 (show f3 = orD (prsJ []) by rw [h45]; exact ((orD_prs []).1 rfl).symm))
    have HQ := Lib.hid (show ∀ o' l' m' ps' b' la', kvb o' l' m' ps' b' la' = true → t = knT o' l' m' ps' b' la' → o = o' ∧ l = l' ∧ m = m' ∧ ([] : List Pr) = ps' ∧ b = b' ∧ la = la' from fun o' l' m' ps' b' la' hk' ht' => by
      obtain ⟨h1, h2, h3, h4, h5⟩ := HU.out o' l' m' ps' b' la' hk' ht'
      exact ⟨h1, h2, h3, (ptx_none HX.out h45 ht').symm, h4, h5⟩)
    clear h45 HU
    go_wp2_with fail
    refine calls_nmF (fun V => PkS w V bt X.heap.size (X.heap.size + 1) ([f0, f1, f2, f3].map Value.string).toArray o l m b la none 0 []) ⟨(by repeat (first | (with_reducible exact HZ.out) | (with_reducible apply plusF) | (with_reducible apply allocF) | (with_reducible apply drewF))), (by repeat (first | exact pushF _ _ _ rfl | apply plusF)), (by repeat (first | (with_reducible exact HBT.out) | (with_reducible apply plusF) | (with_reducible apply allocF) | (with_reducible apply drewF))), .inl ⟨rfl, rfl, rfl⟩, (by repeat (first | (with_reducible exact HB.out) | refine below_plus ?_ (by first | omega | (simp <;> omega)) _ | refine Below.alloc ?_ (by first | omega | (simp <;> omega)) _ | refine below_patch ?_ (by omega) _ | refine Below.drew ?_)), by simp; omega⟩ ?_
    intro V hV
    clear rz fz sz rb HBT
    have HS := Lib.hid hV
    clear hV HB HZ
    have HB := Lib.hid (HS.out).bel
    have hfx := (HS.out).facts
    have rz := cell_of (HS.out).z
    have fz := free_of (HS.out).z
    have sz := fun i v => setCell_patch (HS.out).z i v
    have rk := cell_of (HS.out).k
    have fk := free_of (HS.out).k
    have sk := fun i v => setCell_patch (HS.out).k i v
    have hf1 := hfx.1
    have hf2 := hfx.2.1
    have hf3 := hfx.2.2.1
    have hf4 := hfx.2.2.2
    clear hfx
    have HRd := Lib.hid (show Rd encP V none 0 [] from HS.out.own.rd)
    have hyl : ([] : List Pr).length ≤ 2000000 := by simp
    refine (KnownValid_any o l m none 0 [] b la _ (by (try unfold RdP); repeat (first | (with_reducible exact HRd.out) | (with_reducible apply rd_seq) | (with_reducible apply Rd.plus) | (with_reducible apply Rd.alloc) | (with_reducible apply Rd.drew) | (with_reducible apply Rd.drewN)))).mono ?_
    rintro e w' ⟨rfl, x5, rfl⟩
    cases hk : kvb o l m [] b la
    · go_wp2_with fail
      exact bodyPost_ret (v := .tuple #[.agg #[.int .i64 0, .int .i64 0, .int .i64 0, .slice none 0 0, .int .i64 0, .int .i64 0], .bool false]) (by simp [results, Tryd.results12, go_sem, ↓IntWalk.iteOmega]) rfl ⟨0, 0, 0, [], 0, 0, false, ⟨none, 0, rfl, .inl ⟨rfl, rfl, rfl⟩, below_more (by repeat (first | (with_reducible exact HB.out) | refine below_plus ?_ (by first | omega | (simp <;> omega)) _ | refine Below.alloc ?_ (by first | omega | (simp <;> omega)) _ | refine below_patch ?_ (by omega) _ | refine Below.drew ?_))⟩, fun h => by (cases h), fun _ => ⟨rfl, rfl, rfl, rfl, rfl, rfl⟩, fun o' l' m' ps' b' la' hk' ht' => (by obtain ⟨rfl, rfl, rfl, rfl, rfl, rfl⟩ := HQ.out o' l' m' ps' b' la' hk' ht'; rw [hk] at hk'; cases hk')⟩
    · have HK := Lib.hid hk
      clear hk
      go_wp2_with fail
      refine (copyKnown_any o l m none 0 [] b la _ (by (try unfold RdP); repeat (first | (with_reducible exact HRd.out) | (with_reducible apply rd_seq) | (with_reducible apply Rd.plus) | (with_reducible apply Rd.alloc) | (with_reducible apply Rd.drew) | (with_reducible apply Rd.drewN))) (by omega)).mono ?_
      rintro e w' ⟨pa, pc, rfl, hown, x6, rfl⟩
      (try simp only [plus_plus] at hown)
      have HOp := Lib.hid hown
      clear hown
      go_wp2_with fail
      exact bodyPost_ret (v := .tuple #[.agg #[.int .i64 o, .int .i64 l, .int .i64 m, .slice pa ([]).length pc, .int .i64 b, .int .i64 la], .bool true]) (by simp [results, Tryd.results12, go_sem, ↓IntWalk.iteOmega]) rfl ⟨o, l, m, [], b, la, true, ⟨pa, pc, rfl, ((own_swap HOp.out (by simp <;> omega) (by simp <;> omega)).lower (by simp <;> omega)), below_more (by repeat (first | (with_reducible exact HB.out) | refine below_plus ?_ (by first | omega | (simp <;> omega)) _ | refine Below.alloc ?_ (by first | omega | (simp <;> omega)) _ | refine below_patch ?_ (by omega) _ | refine Below.drew ?_))⟩, fun _ => ⟨HK.out, HW.out HK.out⟩, fun h => by (cases h), fun o' l' m' ps' b' la' hk' ht' => ⟨rfl, HQ.out o' l' m' ps' b' la' hk' ht'⟩⟩
  · have q45 : (f3.toList == [45]) = false := by have := ne_lists h45; rwa [ByteArray.toList_eq ⟨#[45]⟩] at this
    have HP3 := Lib.hid (fun o l m ps b la => ptx_of HX.out h45 (o := o) (l := l) (m := m) (ps := ps) (b := b) (la := la))
    have hlim3 := cutB_lim 44 f3
    have hmem3 := fun x => cutB_mem (c := 44) (s := f3) (x := x)
    obtain ⟨tx, htx⟩ : ∃ tx, cutB 44 f3 = tx := ⟨_, rfl⟩
    have HSP3 := Lib.hid (Split_any f3 44)
    rw [htx] at hlim3 hmem3 HP3 HSP3
    have HTX := Lib.hid htx
    have HM3 := Lib.hid hmem3
    clear htx h45 hmem3
    go_wp2_with fail
    refine calls_nmF (fun V => PkS w V bt X.heap.size (X.heap.size + 1) ([f0, f1, f2, f3].map Value.string).toArray o l m b la none 0 []) ⟨(by repeat (first | (with_reducible exact HZ.out) | (with_reducible apply plusF) | (with_reducible apply allocF) | (with_reducible apply drewF))), (by repeat (first | exact pushF _ _ _ rfl | apply plusF)), (by repeat (first | (with_reducible exact HBT.out) | (with_reducible apply plusF) | (with_reducible apply allocF) | (with_reducible apply drewF))), .inl ⟨rfl, rfl, rfl⟩, (by repeat (first | (with_reducible exact HB.out) | refine below_plus ?_ (by first | omega | (simp <;> omega)) _ | refine Below.alloc ?_ (by first | omega | (simp <;> omega)) _ | refine below_patch ?_ (by omega) _ | refine Below.drew ?_)), by simp; omega⟩ ?_
    intro V hV
    clear rz fz sz rb HBT
    have hVz := hV.facts
    have hVl := hV.low
    have HS0 := Lib.hid hV
    clear hV HB HZ
    refine (HSP3.out V hi3).mono ?_
    rintro e w3 ⟨b3, rfl, hb3, hc3, hm3⟩
    have hm3 : More V w3 := hm3
    have hz3 := (more_below hm3).size
    have hz4 := (Array.getElem?_eq_some_iff.1 hc3).1
    have hS3 : PkS w w3 b3 X.heap.size w3.heap.size (tx.map Value.string).toArray o l m b la none 0 [] := ⟨(HS0.out.more hm3).z, (HS0.out.more hm3).k, hc3, .inl ⟨rfl, rfl, rfl⟩, (HS0.out.more hm3).bel, by omega⟩
    generalize X.heap.size = B at *
    generalize w3.heap.size = L at *
    clear HS0 hc3 hm3 HSP3
    go_wp2
    go_loopw [63] (fun i wr => ∃ (k : Nat) (A : Option Addr) (c : Nat) (ys : List Pr), k ≤ tx.length ∧ i = .int .i64 k ∧ Ptx tx ys k ∧ PkS w wr b3 B L (tx.map Value.string).toArray o l m b la A c ys) (fun i _ => tx.length - (intOf i).toNat)
    case atStart => exact ⟨0, none, 0, [], Nat.zero_le _, rfl, Ptx.zero _, hS3⟩
    case round =>
      obtain ⟨k, A, c, ys, hk, rfl, hpt, hst⟩ := hrel
      clear hS3
      have hyl : ys.length ≤ 2000000 := by have := hpt.len; omega
      have HPX := Lib.hid hpt
      have HS := Lib.hid hst
      clear hpt hst
      rcases dec (k < tx.length) with ⟨hlt, blt⟩ | ⟨hlt, blt⟩
      · obtain ⟨u, hu⟩ : ∃ u, tx[k]? = some u := ⟨tx[k], List.getElem?_eq_getElem hlt⟩
        have husz := HM3.out u (List.mem_of_getElem? hu)
        have HUu := Lib.hid hu
        have c1 := cells_str HS.out.t k u hu
        have hf3' := HS.out.facts.2.2.1
        have HLr := Lib.hid (HL.out.below HS.out.bel)
        clear hu
        go_wp2_with fail
        refine (parsePair_any u wr (by omega) HLr.out).mono ?_
        rintro e w1 ⟨n1, n2, ok, rfl, hm1, h1, h2⟩
        have hm1 : More wr w1 := hm1
        have HS1 := Lib.hid (HS.out.more hm1)
        have H1 := Lib.hid h1
        have H2 := Lib.hid h2
        clear hm1 h1 h2 c1 hf3'
        have HB := Lib.hid (HS1.out).bel
        have hfx := (HS1.out).facts
        have rz := cell_of (HS1.out).z
        have fz := free_of (HS1.out).z
        have sz := fun i v => setCell_patch (HS1.out).z i v
        have rk := cell_of (HS1.out).k
        have fk := free_of (HS1.out).k
        have sk := fun i v => setCell_patch (HS1.out).k i v
        have hf1 := hfx.1
        have hf2 := hfx.2.1
        have hf3 := hfx.2.2.1
        have hf4 := hfx.2.2.2
        clear hfx
        cases ok
        · have HBad := Lib.hid (ptx_bad HUu.out (fun q h1 h2 h3 => by obtain ⟨_, _, h9⟩ := H2.out q h1 h2 h3; cases h9))
          go_wp2_with fail
          exact bodyPost_ret (v := .tuple #[.agg #[.int .i64 0, .int .i64 0, .int .i64 0, .slice none 0 0, .int .i64 0, .int .i64 0], .bool false]) (by simp [results, Tryd.results12, go_sem, ↓IntWalk.iteOmega]) rfl ⟨0, 0, 0, [], 0, 0, false, ⟨none, 0, rfl, .inl ⟨rfl, rfl, rfl⟩, below_more (by repeat (first | (with_reducible exact HB.out) | refine below_plus ?_ (by first | omega | (simp <;> omega)) _ | refine Below.alloc ?_ (by first | omega | (simp <;> omega)) _ | refine below_patch ?_ (by omega) _ | refine Below.drew ?_))⟩, fun h => by (cases h), fun _ => ⟨rfl, rfl, rfl, rfl, rfl, rfl⟩, fun o' l' m' ps' b' la' hk' ht' => absurd (HP3.out _ _ _ _ _ _ ht') (HBad.out ps' (kvb_iff.1 hk').all64.2.2)⟩
        · have HPN := Lib.hid (HPX.out.nx HUu.out (H1.out rfl) (fun q h1 h2 h3 => ⟨(H2.out q h1 h2 h3).1, (H2.out q h1 h2 h3).2.1⟩))
          clear H1 H2
          go_wp2_with (at_builtin; refine wpList_appP ⟨n1, n2⟩ _ _ i0 _ rfl rfl Tryd.underlying30 hi hz0 hz1 hz2 rfl HS1.out (by repeat (first | exact More.refl _ | apply More.plus | apply More.alloc | apply More.drew | apply More.drewN)) rfl _ 1 (new_cells encP ⟨n1, n2⟩ _ _ (by simp <;> omega)) rfl hyl ?_; intro A6 c6 w6 hz6 hk6 hs6; have HS6 := Lib.hid hs6; have r6 := cell_of hk6; have f6 := free_of hk6; have s6 := fun i v => setCell_patch hk6 i v; have y6 : B < w6.heap.size := (Array.getElem?_eq_some_iff.1 hk6).1; clear hz6 hk6 hs6)
          go_roundw
          case rel => exact ⟨k + 1, A6, c6, ys ++ [⟨n1, n2⟩], by omega, by go_num, HPN.out, (by have h := HS6.out; rw [List.length_append] at h; exact h)⟩
          case measure => simp [intOf]; omega
      · obtain rfl : k = tx.length := by omega
        have HW := Lib.hid (fun _ : kvb o l m ys b la = true => kn_whole HX.out HH.out.2.1 HH.out.2.2.1 HH.out.2.2.2 (f3_of (ys := ys) (by rw [HTX.out, ← HPX.out.txt, List.take_length])))
        have HQ := Lib.hid (show ∀ o' l' m' ps' b' la', kvb o' l' m' ps' b' la' = true → t = knT o' l' m' ps' b' la' → o = o' ∧ l = l' ∧ m = m' ∧ ys = ps' ∧ b = b' ∧ la = la' from fun o' l' m' ps' b' la' hk' ht' => by
          obtain ⟨h1, h2, h3, h4, h5⟩ := HU.out o' l' m' ps' b' la' hk' ht'
          have h6 := HP3.out _ _ _ _ _ _ ht'
          have h7 := HPX.out.uni ps' (kvb_iff.1 hk').all64.2.2 h6
          rw [h6, List.length_map, List.take_length] at h7
          exact ⟨h1, h2, h3, h7, h4, h5⟩)
        have HB := Lib.hid (HS.out).bel
        have hfx := (HS.out).facts
        have rz := cell_of (HS.out).z
        have fz := free_of (HS.out).z
        have sz := fun i v => setCell_patch (HS.out).z i v
        have rk := cell_of (HS.out).k
        have fk := free_of (HS.out).k
        have sk := fun i v => setCell_patch (HS.out).k i v
        have hf1 := hfx.1
        have hf2 := hfx.2.1
        have hf3 := hfx.2.2.1
        have hf4 := hfx.2.2.2
        clear hfx
        have HRd := Lib.hid (show Rd encP wr A c ys from HS.out.own.rd)
        go_wp2_with fail
        refine (KnownValid_any o l m A c ys b la _ (by (try unfold RdP); repeat (first | (with_reducible exact HRd.out) | (with_reducible apply rd_seq) | (with_reducible apply Rd.plus) | (with_reducible apply Rd.alloc) | (with_reducible apply Rd.drew) | (with_reducible apply Rd.drewN)))).mono ?_
        rintro e w' ⟨rfl, x5, rfl⟩
        cases hk : kvb o l m ys b la
        · go_wp2_with fail
          exact bodyPost_ret (v := .tuple #[.agg #[.int .i64 0, .int .i64 0, .int .i64 0, .slice none 0 0, .int .i64 0, .int .i64 0], .bool false]) (by simp [results, Tryd.results12, go_sem, ↓IntWalk.iteOmega]) rfl ⟨0, 0, 0, [], 0, 0, false, ⟨none, 0, rfl, .inl ⟨rfl, rfl, rfl⟩, below_more (by repeat (first | (with_reducible exact HB.out) | refine below_plus ?_ (by first | omega | (simp <;> omega)) _ | refine Below.alloc ?_ (by first | omega | (simp <;> omega)) _ | refine below_patch ?_ (by omega) _ | refine Below.drew ?_))⟩, fun h => by (cases h), fun _ => ⟨rfl, rfl, rfl, rfl, rfl, rfl⟩, fun o' l' m' ps' b' la' hk' ht' => (by obtain ⟨rfl, rfl, rfl, rfl, rfl, rfl⟩ := HQ.out o' l' m' ps' b' la' hk' ht'; rw [hk] at hk'; cases hk')⟩
        · have HK := Lib.hid hk
          clear hk
          go_wp2_with fail
          refine (copyKnown_any o l m A c ys b la _ (by (try unfold RdP); repeat (first | (with_reducible exact HRd.out) | (with_reducible apply rd_seq) | (with_reducible apply Rd.plus) | (with_reducible apply Rd.alloc) | (with_reducible apply Rd.drew) | (with_reducible apply Rd.drewN))) (by omega)).mono ?_
          rintro e w' ⟨pa, pc, rfl, hown, x6, rfl⟩
          (try simp only [plus_plus] at hown)
          have HOp := Lib.hid hown
          clear hown
          go_wp2_with fail
          exact bodyPost_ret (v := .tuple #[.agg #[.int .i64 o, .int .i64 l, .int .i64 m, .slice pa (ys).length pc, .int .i64 b, .int .i64 la], .bool true]) (by simp [results, Tryd.results12, go_sem, ↓IntWalk.iteOmega]) rfl ⟨o, l, m, ys, b, la, true, ⟨pa, pc, rfl, ((own_swap HOp.out (by simp <;> omega) (by simp <;> omega)).lower (by simp <;> omega)), below_more (by repeat (first | (with_reducible exact HB.out) | refine below_plus ?_ (by first | omega | (simp <;> omega)) _ | refine Below.alloc ?_ (by first | omega | (simp <;> omega)) _ | refine below_patch ?_ (by omega) _ | refine Below.drew ?_))⟩, fun _ => ⟨HK.out, HW.out HK.out⟩, fun h => by (cases h), fun o' l' m' ps' b' la' hk' ht' => ⟨rfl, HQ.out o' l' m' ps' b' la' hk' ht'⟩⟩

end Go.Proofs.YtmddcbebaijjkaaDoor

/- The reference's reading of what is known. -/
namespace Go.Proofs.YtmddcbebaijjkaaDoor
open Go.RowKit
set_option linter.unusedVariables false
set_option linter.unusedSimpArgs false

/-- what cutting gives, by its block -/
def RetCblk (w : World) (xs : List ByteArray) (e : Ending) (w' : World) : Prop := ∃ (b c : Nat) (cur : Array Value), e = .returned (.slice (some ⟨b, 0, none⟩) xs.length c) ∧ w.heap.size ≤ b ∧ w'.heap[b]? = some (.cells cur 9 (0, 0)) ∧ (∀ (j : Nat) (x : ByteArray), xs[j]? = some x → cur[j]? = some (.string x)) ∧ More w w'

theorem cutB_ne (c : UInt8) (s : ByteArray) : cutB c s ≠ [] := by
  intro h
  have := cutB_len c s
  rw [h] at this
  simp at this

theorem l9Cut_blk (s : ByteArray) (c : UInt8) (w : World) (hs : s.size ≤ 1048576) : Calls Tryd.prog 34 #[.string s, .int .u8 c.toNat] w (RetCblk w (cutB c s)) := by
  refine (l9Cut_any s c w hs).mono ?_
  rintro e w' ⟨A, cp, rfl, hown, hm⟩
  rcases hown with ⟨_, _, h⟩ | ⟨b, cur, rfl, hlo, hb, _, hrow, _, _⟩
  · exact absurd h (cutB_ne c s)
  · refine ⟨b, cp, cur, rfl, hlo, hb, fun j x hx => ?_, hm⟩
    have h1 := flat_get encS (cutB c s) j x hx 0 (by decide)
    have h2 := hrow (j * 1 + 0) (.string x) h1
    simpa using h2

theorem oper_appP {P : Program} {o : Oper} {a : Act} {w1 W : World} {K : Act → World → Prop} {Q : Exit → Act → World → Prop} {w : World} {bt B L : Nat} {tx : Array Value} {ko kl km b la : Int} {A : Option Addr} {c : Nat} {ys : List Pr} (p : Pr) (s x : Operand) (i : TypeInfo) (z : Value)
    (ho : o.op = .call { callee := .builtin .append, args := #[s, x], argTypes := #[30, 30] }) (ht : P.underlying 30 = some (.slice 53)) (hi : P.info? 53 = some i) (hz : i.zero = some z) (hsz : i.size = 2) (hby : i.bytes = 16)
    (hzs : z.cells.size = 2) (hS : PkS w w1 bt B L tx ko kl km b la A c ys) (hm : More w1 W) (hs : a.eval s = .slice A ys.length c) (bb cc : Nat) (hr : ∀ j u, (flat encP [p])[j]? = some u → W.cell? ⟨bb, 0 + j, none⟩ = some u) (hx : a.eval x = .slice (some ⟨bb, 0, none⟩) 1 cc) (hl : ys.length ≤ 2000000)
    (h : ∀ (A' : Option Addr) (c' : Nat) (w' : World), w'.heap[bt]? = some (.cells tx 9 (0, 0)) →
      w'.heap[B]? = some (.cells #[.int .i64 ko, .int .i64 kl, .int .i64 km, .slice A ys.length c, .int .i64 b, .int .i64 la] 32 (0, 0)) →
      PkS w (patch w' B (.cells #[.int .i64 ko, .int .i64 kl, .int .i64 km, .slice A' (ys ++ [p]).length c', .int .i64 b, .int .i64 la] 32 (0, 0))) bt B L tx ko kl km b la A' c' (ys ++ [p]) → K (a.put o.dst (.slice A' (ys ++ [p]).length c')) w') :
    o.wp P a W K Q := by
  have hS2 := hS.more hm
  refine oper_append_at encP s x _ _ i z 16 ho ht hi hz hsz hby hzs (by decide) ys A c L hS2.own hs [p] bb 0 cc hr hx (by show _ + 1 ≤ _; omega) (by show (_ + 1) * 16 ≤ _; omega) (by have := hS2.low; omega) ?_
  intro A' c' w' h1 h2 h3
  have hlo := hS2.low
  have hoff := hS2.off
  have hk := grewF h2 hS2.k (fun X hX e => by have := hoff X hX; omega)
  have hzz := grewF h2 hS2.z (fun X hX e => by have := hoff X hX; omega)
  have htt := grewF h2 hS2.t (fun X hX e => by have := hoff X hX; omega)
  have hsz' := h2.size
  have hA' : ∀ X, A' = some X → L ≤ X.block := fun X hX => (own_lt h1 X hX).1
  have hbl := hS2.bel.trans (h2.below (B := w.heap.size) (by omega) (fun X hX => by have := hoff X hX; omega))
  refine h A' c' w' htt hk ⟨(patch_other _ _ _ (by omega)).trans hzz, patch_at _ _ _ (Array.getElem?_eq_some_iff.1 hk).1, (patch_other _ _ _ (by omega)).trans htt, own_ptF h1 (fun X hX e => by have := hA' X hX; omega), below_patch hbl (by omega) _, ?_⟩
  rw [patch_size]
  omega

theorem nil_ne {t : ByteArray} (h : t.size ≠ 0) : (([] : List UInt8) == t.toList) = false := by
  rw [beq_eq_false_iff_ne]
  intro e
  rw [ByteArray.toList_eq] at e
  have := congrArg List.length e
  rw [len_list] at this
  exact h this.symm

/-- texts read as pairs by the reference -/
structure Ptz (tx : List ByteArray) (ys : List Pr) (k : Nat) : Prop where
  len : ys.length = k
  uni : ∀ ps' : List Pr, (∀ (i : Nat) (p : Pr), ps'[i]? = some p → Sml p.p ∧ Sml p.b) → tx = ps'.map prT → ys = ps'.take k

theorem Ptz.nx {tx : List ByteArray} {ys : List Pr} {k : Nat} (h : Ptz tx ys k) {u : ByteArray} (hu : tx[k]? = some u) {n1 n2 : Int} (h2 : ∀ q : Pr, Sml q.p → Sml q.b → u = prT q → n1 = q.p ∧ n2 = q.b) : Ptz tx (ys ++ [⟨n1, n2⟩]) (k + 1) := by
  refine ⟨by rw [List.length_append, h.len]; rfl, fun ps' hp ht => ?_⟩
  have h3 := h.uni ps' hp ht
  rw [ht, List.getElem?_map] at hu
  cases hq : ps'[k]? with
  | none => rw [hq] at hu; cases hu
  | some q =>
    rw [hq] at hu
    injection hu with hu
    obtain ⟨h4, h5⟩ := hp k q hq
    obtain ⟨h6, h7⟩ := h2 q h4 h5 hu.symm
    rw [take_snoc hq, h3, h6, h7]



set_option maxRecDepth 100000 in
set_option maxHeartbeats 8000000 in
theorem specParseKnown_any (t : ByteArray) (w : World) (hs : t.size ≤ 1048576) : Calls Tryd.prog 11 #[.string t] w (RetPk w t) := by
  obtain ⟨i0, hi, hz0, hz1, hz2⟩ := info_parts infoPair
  have hlim := cutB_lim 59 t
  have hmem := fun x => cutB_mem (c := 59) (s := t) (x := x)
  obtain ⟨xs, hxs⟩ : ∃ xs, cutB 59 t = xs := ⟨_, rfl⟩
  rw [hxs] at hlim hmem
  have HX := Lib.hid hxs
  have HSP := Lib.hid (l9Cut_blk t 59)
  rw [hxs] at HSP
  clear hxs
  go_enter Tryd.func11, Tryd.ntmps11
  go_wp2_with fail
  refine (HSP.out _ hs).mono ?_
  rintro e X ⟨bt, cp, cur, rfl, hb0, hb, hcur, hm⟩
  have hm : More _ X := hm
  simp at hb0
  have HZ := Lib.hid (blk_mo (pushF w _ _ rfl) hm)
  have HB := Lib.hid (((Below.refl w.heap.size w).alloc (Nat.le_refl _) _).trans ((more_below hm).mono (by simp)))
  have rz := cell_of HZ.out
  have fz := free_of HZ.out
  have sz := fun i v => setCell_patch HZ.out i v
  have hX1 : w.heap.size < X.heap.size := (Array.getElem?_eq_some_iff.1 HZ.out).1
  have HBT := Lib.hid hb
  have hX2 : bt < X.heap.size := (Array.getElem?_eq_some_iff.1 hb).1
  clear hm
  by_cases h4 : xs.length = 4
  case neg =>
    have v3 : ((xs.length : Int) == 4) = false := by rw [beq_eq_false_iff_ne]; omega
    have HN := Lib.hid (kn_miss (t := t) (by rw [HX.out]; exact h4))
    clear hb hcur
    go_wp2_with fail
    exact bodyPost_ret (v := .tuple #[.agg #[.int .i64 0, .int .i64 0, .int .i64 0, .slice none 0 0, .int .i64 0, .int .i64 0], .bool false]) (by simp [results, Tryd.results11, go_sem, ↓IntWalk.iteOmega]) rfl ⟨0, 0, 0, [], 0, 0, false, ⟨none, 0, rfl, .inl ⟨rfl, rfl, rfl⟩, below_more (by repeat (first | (with_reducible exact HB.out) | refine below_plus ?_ (by first | omega | (simp <;> omega)) _ | refine Below.alloc ?_ (by first | omega | (simp <;> omega)) _ | refine below_patch ?_ (by omega) _ | refine Below.drew ?_))⟩, fun h => by (cases h), fun _ => ⟨rfl, rfl, rfl, rfl, rfl, rfl⟩, fun o' l' m' ps' b' la' hk' ht' => absurd ht' (HN.out _ _ _ _ _ _)⟩
  obtain ⟨f0, f1, f2, f3, rfl⟩ := four_of h4
  have hf0 := hmem f0 (by simp)
  have hf1 := hmem f1 (by simp)
  have hf2 := hmem f2 (by simp)
  have hf3 := hmem f3 (by simp)
  have rb0 : X.cell? ⟨bt, 0, none⟩ = some (.string f0) := (cell_of hb 0).trans (hcur 0 f0 rfl)
  have rb1 : X.cell? ⟨bt, 1, none⟩ = some (.string f1) := (cell_of hb 1).trans (hcur 1 f1 rfl)
  have rb2 : X.cell? ⟨bt, 2, none⟩ = some (.string f2) := (cell_of hb 2).trans (hcur 2 f2 rfl)
  have rb3 : X.cell? ⟨bt, 3, none⟩ = some (.string f3) := (cell_of hb 3).trans (hcur 3 f3 rfl)
  have hte : t.size ≠ 0 := fun h => by
    have h1 := cutB_len 59 t
    rw [HX.out] at h1
    have h2 := List.count_le_length (a := (59 : UInt8)) (l := t.data.toList)
    rw [len_list] at h2
    simp at h1
    omega
  have HPT := Lib.hid (fun o l m ps b la => kn_parts HX.out (o := o) (l := l) (m := m) (ps := ps) (b := b) (la := la))
  clear hmem HSP h4 hb hcur
  have hi0 : f0.size ≤ 1048576 := by omega
  have hi1 : f1.size ≤ 1048576 := by omega
  have hi2 : f2.size ≤ 1048576 := by omega
  have hi3 : f3.size ≤ 1048576 := by omega
  go_wp2_with fail
  refine (specParseSetting_any f0 _ hi0).mono ?_
  rintro e w' ⟨o, l, m, ok0, rfl, ⟨x1, rfl⟩, hg0⟩
  have HG0 := Lib.hid hg0
  clear hg0
  go_wp2_with fail
  refine (l9Num_any f1 _ hi1).mono ?_
  rintro e w' ⟨b, ok1, rfl, ⟨x2, rfl⟩, hg1⟩
  have HG1 := Lib.hid hg1
  clear hg1
  go_wp2_with fail
  refine (l9Num_any f2 _ hi2).mono ?_
  rintro e w' ⟨la, ok2, rfl, ⟨x3, rfl⟩, hg2⟩
  have HU := Lib.hid (show ∀ o' l' m' ps' b' la', kvb o' l' m' ps' b' la' = true → t = knT o' l' m' ps' b' la' → o = o' ∧ l = l' ∧ m = m' ∧ b = b' ∧ la = la' from fun o' l' m' ps' b' la' hk' ht' => by
    obtain ⟨e0, e1, e2, _⟩ := HPT.out _ _ _ _ _ _ ht'
    obtain ⟨h1, h2, h3⟩ := HG0.out o' l' m' (kvb_iff.1 hk').s e0
    obtain ⟨h4, _⟩ := HG1.out b' (kvb_iff.1 hk').nums.2.1 e1
    obtain ⟨h5, _⟩ := hg2 la' (kvb_iff.1 hk').nums.2.2.1 e2
    exact ⟨h1, h2, h3, h4, h5⟩)
  clear HG0 HG1 hg2 HPT
  by_cases h45 : f3 = ⟨#[45]⟩
  · have q45 : (f3.toList == [45]) = true := by rw [h45, ByteArray.toList_eq]; rfl
    have HQ := Lib.hid (show ∀ o' l' m' ps' b' la', kvb o' l' m' ps' b' la' = true → t = knT o' l' m' ps' b' la' → o = o' ∧ l = l' ∧ m = m' ∧ ([] : List Pr) = ps' ∧ b = b' ∧ la = la' from fun o' l' m' ps' b' la' hk' ht' => by
      obtain ⟨h1, h2, h3, h4, h5⟩ := HU.out o' l' m' ps' b' la' hk' ht'
      exact ⟨h1, h2, h3, (ptx_none HX.out h45 ht').symm, h4, h5⟩)
    clear h45 HU
    have hq0 : (([] : List UInt8) == t.toList) = false := nil_ne hte
    go_wp2_with fail
    refine calls_nmF (fun V => PkS w V bt (X.heap.size + x1.n + 1 + (x2.n + x3.n)) (X.heap.size + x1.n + 1 + (x2.n + x3.n) + 1) cur o l m b la none 0 []) ⟨(by repeat (first | (with_reducible exact HZ.out) | (with_reducible apply plusF) | (with_reducible apply allocF) | (with_reducible apply drewF))), pushF _ _ _ (by simp <;> omega), (by repeat (first | (with_reducible exact HBT.out) | (with_reducible apply plusF) | (with_reducible apply allocF) | (with_reducible apply drewF))), .inl ⟨rfl, rfl, rfl⟩, (by repeat (first | (with_reducible exact HB.out) | refine below_plus ?_ (by first | omega | (simp <;> omega)) _ | refine Below.alloc ?_ (by first | omega | (simp <;> omega)) _ | refine below_patch ?_ (by omega) _ | refine Below.drew ?_)), by simp; omega⟩ ?_
    generalize X.heap.size + x1.n + 1 + (x2.n + x3.n) = B
    intro V hV
    clear rz fz sz rb0 rb1 rb2 rb3 HBT
    have HS := Lib.hid hV
    clear hV HB HZ
    have HB := Lib.hid (HS.out).bel
    have hfx := (HS.out).facts
    have rz := cell_of (HS.out).z
    have fz := free_of (HS.out).z
    have sz := fun i v => setCell_patch (HS.out).z i v
    have rk := cell_of (HS.out).k
    have fk := free_of (HS.out).k
    have sk := fun i v => setCell_patch (HS.out).k i v
    have hf1 := hfx.1
    have hf2 := hfx.2.1
    have hf3 := hfx.2.2.1
    have hf4 := hfx.2.2.2
    clear hfx
    have HRd := Lib.hid (show Rd encP V none 0 [] from HS.out.own.rd)
    have HOw := Lib.hid (show Own encP 53 V none 0 [] w.heap.size from .inl ⟨rfl, rfl, rfl⟩)
    have HOf := Lib.hid (show ∀ X, (none : Option Addr) = some X → X.block ≠ w.heap.size from fun X h => by cases h)
    cases hk : kvb o l m [] b la
    · refine (specFormatKnown_no o l m none 0 [] b la _ (by (try unfold RdP); repeat (first | (with_reducible exact HRd.out) | (with_reducible apply rd_seq) | (with_reducible apply Rd.plus) | (with_reducible apply Rd.alloc) | (with_reducible apply Rd.drew) | (with_reducible apply Rd.drewN))) hk).mono ?_
      rintro e w' ⟨rfl, x5, rfl⟩
      have HK := Lib.hid hk
      clear hk
      go_wp2_with fail
      exact bodyPost_ret (v := .tuple #[.agg #[.int .i64 0, .int .i64 0, .int .i64 0, .slice none 0 0, .int .i64 0, .int .i64 0], .bool false]) (by simp [results, Tryd.results11, go_sem, ↓IntWalk.iteOmega]) rfl ⟨0, 0, 0, [], 0, 0, false, ⟨none, 0, rfl, .inl ⟨rfl, rfl, rfl⟩, below_more (by repeat (first | (with_reducible exact HB.out) | refine below_plus ?_ (by first | omega | (simp <;> omega)) _ | refine Below.alloc ?_ (by first | omega | (simp <;> omega)) _ | refine below_patch ?_ (by omega) _ | refine Below.drew ?_))⟩, fun h => by (cases h), fun _ => ⟨rfl, rfl, rfl, rfl, rfl, rfl⟩, fun o' l' m' ps' b' la' hk' ht' => (by obtain ⟨rfl, rfl, rfl, rfl, rfl, rfl⟩ := HQ.out o' l' m' ps' b' la' hk' ht'; rw [HK.out] at hk'; cases hk')⟩
    · refine (specFormatKnown_yes o l m none 0 [] b la _ (by (try unfold RdP); repeat (first | (with_reducible exact HRd.out) | (with_reducible apply rd_seq) | (with_reducible apply Rd.plus) | (with_reducible apply Rd.alloc) | (with_reducible apply Rd.drew) | (with_reducible apply Rd.drewN))) hk).mono ?_
      rintro e w' ⟨rfl, x5, rfl⟩
      have HK := Lib.hid hk
      clear hk
      by_cases he : knT o l m [] b la = t
      · have q9 : ((knT o l m [] b la).toList == t.toList) = true := by rw [he]; simp
        have HE := Lib.hid he
        clear he
        go_wp2_with fail
        exact bodyPost_ret (v := .tuple #[.agg #[.int .i64 o, .int .i64 l, .int .i64 m, .slice none ([]).length 0, .int .i64 b, .int .i64 la], .bool true]) (by simp [results, Tryd.results11, go_sem, ↓IntWalk.iteOmega]) rfl ⟨o, l, m, [], b, la, true, ⟨none, 0, rfl, (by repeat (first | (with_reducible exact HOw.out) | (with_reducible apply own_seq) | (with_reducible apply Own.plus) | (with_reducible refine own_ptF ?_ HOf.out))), below_more (by repeat (first | (with_reducible exact HB.out) | refine below_plus ?_ (by first | omega | (simp <;> omega)) _ | refine Below.alloc ?_ (by first | omega | (simp <;> omega)) _ | refine below_patch ?_ (by omega) _ | refine Below.drew ?_))⟩, fun _ => ⟨HK.out, HE.out.symm⟩, fun h => by (cases h), fun o' l' m' ps' b' la' hk' ht' => ⟨rfl, HQ.out o' l' m' ps' b' la' hk' ht'⟩⟩
      · have q9 := ne_lists he
        have HE := Lib.hid he
        clear he
        go_wp2_with fail
        exact bodyPost_ret (v := .tuple #[.agg #[.int .i64 0, .int .i64 0, .int .i64 0, .slice none 0 0, .int .i64 0, .int .i64 0], .bool false]) (by simp [results, Tryd.results11, go_sem, ↓IntWalk.iteOmega]) rfl ⟨0, 0, 0, [], 0, 0, false, ⟨none, 0, rfl, .inl ⟨rfl, rfl, rfl⟩, below_more (by repeat (first | (with_reducible exact HB.out) | refine below_plus ?_ (by first | omega | (simp <;> omega)) _ | refine Below.alloc ?_ (by first | omega | (simp <;> omega)) _ | refine below_patch ?_ (by omega) _ | refine Below.drew ?_))⟩, fun h => by (cases h), fun _ => ⟨rfl, rfl, rfl, rfl, rfl, rfl⟩, fun o' l' m' ps' b' la' hk' ht' => (by obtain ⟨rfl, rfl, rfl, rfl, rfl, rfl⟩ := HQ.out o' l' m' ps' b' la' hk' ht'; exact absurd ht'.symm HE.out)⟩
  · have q45 : (f3.toList == [45]) = false := by have := ne_lists h45; rwa [ByteArray.toList_eq ⟨#[45]⟩] at this
    have hq0 : (([] : List UInt8) == t.toList) = false := nil_ne hte
    have HP3 := Lib.hid (fun o l m ps b la => ptx_of HX.out h45 (o := o) (l := l) (m := m) (ps := ps) (b := b) (la := la))
    have hlim3 := cutB_lim 44 f3
    have hmem3 := fun x => cutB_mem (c := 44) (s := f3) (x := x)
    obtain ⟨tx, htx⟩ : ∃ tx, cutB 44 f3 = tx := ⟨_, rfl⟩
    have HSP3 := Lib.hid (l9Cut_blk f3 44)
    rw [htx] at hlim3 hmem3 HP3 HSP3
    have HM3 := Lib.hid hmem3
    clear htx h45 hmem3
    go_wp2_with fail
    refine calls_nmF (fun V => PkS w V bt (X.heap.size + x1.n + 1 + (x2.n + x3.n)) (X.heap.size + x1.n + 1 + (x2.n + x3.n) + 1) cur o l m b la none 0 []) ⟨(by repeat (first | (with_reducible exact HZ.out) | (with_reducible apply plusF) | (with_reducible apply allocF) | (with_reducible apply drewF))), pushF _ _ _ (by simp <;> omega), (by repeat (first | (with_reducible exact HBT.out) | (with_reducible apply plusF) | (with_reducible apply allocF) | (with_reducible apply drewF))), .inl ⟨rfl, rfl, rfl⟩, (by repeat (first | (with_reducible exact HB.out) | refine below_plus ?_ (by first | omega | (simp <;> omega)) _ | refine Below.alloc ?_ (by first | omega | (simp <;> omega)) _ | refine below_patch ?_ (by omega) _ | refine Below.drew ?_)), by simp; omega⟩ ?_
    generalize X.heap.size + x1.n + 1 + (x2.n + x3.n) = B
    intro V hV
    clear rz fz sz rb0 rb1 rb2 rb3 HBT
    have hVz := hV.facts
    have hVl := hV.low
    have HS0 := Lib.hid hV
    clear hV HB HZ
    refine (HSP3.out V hi3).mono ?_
    rintro e w3 ⟨b3, cp3, cur3, rfl, hb3, hc3, hcur3, hm3⟩
    have hm3 : More V w3 := hm3
    have hz3 := (more_below hm3).size
    have hz4 := (Array.getElem?_eq_some_iff.1 hc3).1
    have hS3 : PkS w w3 b3 B w3.heap.size cur3 o l m b la none 0 [] := ⟨(HS0.out.more hm3).z, (HS0.out.more hm3).k, hc3, .inl ⟨rfl, rfl, rfl⟩, (HS0.out.more hm3).bel, by omega⟩
    have HC3 := Lib.hid hcur3
    generalize w3.heap.size = L at *
    clear HS0 hc3 hm3 HSP3 hcur3
    go_wp2
    go_loopw [13] (fun i wr => ∃ (k : Nat) (A : Option Addr) (c : Nat) (ys : List Pr), k ≤ tx.length ∧ i = .int .i64 k ∧ Ptz tx ys k ∧ PkS w wr b3 B L cur3 o l m b la A c ys) (fun i _ => tx.length - (intOf i).toNat)
    case atStart => exact ⟨0, none, 0, [], Nat.zero_le _, rfl, ⟨rfl, fun _ _ _ => by simp⟩, hS3⟩
    case round =>
      obtain ⟨k, A, c, ys, hk, rfl, hpt, hst⟩ := hrel
      clear hS3
      have hyl : ys.length ≤ 2000000 := by have := hpt.len; omega
      have HPX := Lib.hid hpt
      have HS := Lib.hid hst
      clear hpt hst
      rcases dec (k < tx.length) with ⟨hlt, blt⟩ | ⟨hlt, blt⟩
      · obtain ⟨u, hu⟩ : ∃ u, tx[k]? = some u := ⟨tx[k], List.getElem?_eq_getElem hlt⟩
        have husz := HM3.out u (List.mem_of_getElem? hu)
        have hck := HC3.out k u hu
        have HUu := Lib.hid hu
        clear hu
        go_wp2_with fail
        refine wp_region_pt 9 (fun w' => w'.heap[B]? = some (.cells #[.int .i64 o, .int .i64 l, .int .i64 m, .slice A ys.length c, .int .i64 b, .int .i64 la] 32 (0, 0)) ∧ w'.heap[b3]? = some (.cells cur3 9 (0, 0))) (Plan.quiet 0 (Plan.quiet 1 (Plan.quiet 2 (Plan.quiet 3 (Plan.quiet 4 (Plan.quiet 5 (Plan.one 6 (Plan.one 7 (Plan.one 8 (Plan.one 9 (Plan.one 10 Plan.done))))))))))) (by kernel_rfl) (by kernel_rfl) (⟨drewF HS.out.k, drewF HS.out.t⟩) ?_
        refine wpPt_val rfl rfl ?_
        apply Exists.intro
        refine ⟨fun w' hS => ?_, ?_⟩
        focus (have rK := cell_of hS.1; have rT := cell_of hS.2; simp [go_sem, ↓IntWalk.iteOmega, rK, rT, hck] <;> first | done | exact rfl | (rw [IntWalk.i64_in _ (by omega)]; exact rfl) | trace_state)
        refine wpPt_val rfl rfl ?_
        apply Exists.intro
        refine ⟨fun w' hS => ?_, ?_⟩
        focus (have rK := cell_of hS.1; have rT := cell_of hS.2; simp [go_sem, ↓IntWalk.iteOmega, rK, rT, hck] <;> first | done | exact rfl | (rw [IntWalk.i64_in _ (by omega)]; exact rfl) | trace_state)
        refine wpPt_val rfl rfl ?_
        apply Exists.intro
        refine ⟨fun w' hS => ?_, ?_⟩
        focus (have rK := cell_of hS.1; have rT := cell_of hS.2; simp [go_sem, ↓IntWalk.iteOmega, rK, rT, hck] <;> first | done | exact rfl | (rw [IntWalk.i64_in _ (by omega)]; exact rfl) | trace_state)
        refine wpPt_val rfl rfl ?_
        apply Exists.intro
        refine ⟨fun w' hS => ?_, ?_⟩
        focus (have rK := cell_of hS.1; have rT := cell_of hS.2; simp [go_sem, ↓IntWalk.iteOmega, rK, rT, hck] <;> first | done | exact rfl | (rw [IntWalk.i64_in _ (by omega)]; exact rfl) | trace_state)
        refine wpPt_val rfl rfl ?_
        apply Exists.intro
        refine ⟨fun w' hS => ?_, ?_⟩
        focus (have rK := cell_of hS.1; have rT := cell_of hS.2; simp [go_sem, ↓IntWalk.iteOmega, rK, rT, hck] <;> first | done | exact rfl | (rw [IntWalk.i64_in _ (by omega)]; exact rfl) | trace_state)
        refine wpPt_val rfl rfl ?_
        apply Exists.intro
        refine ⟨fun w' hS => ?_, ?_⟩
        focus (have rK := cell_of hS.1; have rT := cell_of hS.2; simp [go_sem, ↓IntWalk.iteOmega, rK, rT, hck] <;> first | done | exact rfl | (rw [IntWalk.i64_in _ (by omega)]; exact rfl) | trace_state)
        refine wpPt_one rfl rfl (fun K hK => ?_)
        go_simp
        refine (l3Pair_any u _ (by omega)).mono ?_
        rintro e w1 ⟨n1, n2, rfl, hm1, hq1⟩
        have hm1 : More _ w1 := hm1
        have HS1 := Lib.hid ((HS.out.more ((by repeat (first | exact More.refl _ | apply More.plus | apply More.alloc | apply More.drew | apply More.drewN)))).more hm1)
        have HPN := Lib.hid (HPX.out.nx HUu.out hq1)
        clear hm1 hq1
        refine hK _ _ (fun hkn => ⟨HS1.out.k, HS1.out.t⟩) ?_
        clear hK K
        refine wpPt_one rfl rfl (fun K hK => ?_)
        go_simp
        refine hK _ _ (fun hkn => ⟨allocF HS1.out.k _, allocF HS1.out.t _⟩) ?_
        clear hK K
        refine wpPt_one rfl rfl (fun K hK => ?_)
        refine oper_appP ⟨n1, n2⟩ _ _ i0 _ rfl Tryd.underlying30 hi hz0 hz1 hz2 rfl HS1.out ((by repeat (first | exact More.refl _ | apply More.plus | apply More.alloc | apply More.drew | apply More.drewN))) rfl _ 1 (new_cells encP ⟨n1, n2⟩ _ _ (by simp <;> omega)) rfl hyl ?_
        intro A6 c6 w6 ht6 hk6 hs6
        have HT6 := Lib.hid ht6
        have HK6 := Lib.hid hk6
        have HS6 := Lib.hid hs6
        have r6 := cell_of hk6
        have f6 := free_of hk6
        have s6 := fun i v => setCell_patch hk6 i v
        have y6 : B < w6.heap.size := (Array.getElem?_eq_some_iff.1 hk6).1
        clear ht6 hk6 hs6
        refine hK _ _ (fun hkn => ⟨HK6.out, HT6.out⟩) ?_
        clear hK K
        refine wpPt_one rfl rfl (fun K hK => ?_)
        go_simp
        refine hK _ _ (fun hkn => absurd hkn (by decide)) ?_
        clear hK K
        refine wpPt_one rfl rfl (fun K hK => ?_)
        go_simp
        refine hK _ _ (fun hkn => absurd hkn (by decide)) ?_
        clear hK K
        refine NoPanic.normal ?_
        go_wp2_with fail
        go_roundw
        case rel => exact ⟨k + 1, A6, c6, ys ++ [⟨n1, n2⟩], by omega, by go_num, HPN.out, (by have h := HS6.out; rw [List.length_append] at h; exact h)⟩
        case measure => simp [intOf]; omega
      · obtain rfl : k = tx.length := by omega
        have HQ := Lib.hid (show ∀ o' l' m' ps' b' la', kvb o' l' m' ps' b' la' = true → t = knT o' l' m' ps' b' la' → o = o' ∧ l = l' ∧ m = m' ∧ ys = ps' ∧ b = b' ∧ la = la' from fun o' l' m' ps' b' la' hk' ht' => by
          obtain ⟨h1, h2, h3, h4, h5⟩ := HU.out o' l' m' ps' b' la' hk' ht'
          have h6 := HP3.out _ _ _ _ _ _ ht'
          have h7 := HPX.out.uni ps' (fun i p hp => (kvb_iff.1 hk').nums.2.2.2 i p hp) h6
          rw [h6, List.length_map, List.take_length] at h7
          exact ⟨h1, h2, h3, h7, h4, h5⟩)
        have HB := Lib.hid (HS.out).bel
        have hfx := (HS.out).facts
        have rz := cell_of (HS.out).z
        have fz := free_of (HS.out).z
        have sz := fun i v => setCell_patch (HS.out).z i v
        have rk := cell_of (HS.out).k
        have fk := free_of (HS.out).k
        have sk := fun i v => setCell_patch (HS.out).k i v
        have hf1 := hfx.1
        have hf2 := hfx.2.1
        have hf3 := hfx.2.2.1
        have hf4 := hfx.2.2.2
        clear hfx
        have HRd := Lib.hid (show Rd encP wr A c ys from HS.out.own.rd)
        have hlw := HS.out.low
        have hof := HS.out.off
        have HOw := Lib.hid (show Own encP 53 wr A c ys w.heap.size from HS.out.own.lower (by omega))
        have HOf := Lib.hid (show ∀ X, A = some X → X.block ≠ w.heap.size from fun X h => by have := hof X h; omega)
        clear hlw hof
        go_wp2_with fail
        cases hk : kvb o l m ys b la
        · refine (specFormatKnown_no o l m A c ys b la _ (by (try unfold RdP); repeat (first | (with_reducible exact HRd.out) | (with_reducible apply rd_seq) | (with_reducible apply Rd.plus) | (with_reducible apply Rd.alloc) | (with_reducible apply Rd.drew) | (with_reducible apply Rd.drewN))) hk).mono ?_
          rintro e w' ⟨rfl, x5, rfl⟩
          have HK := Lib.hid hk
          clear hk
          go_wp2_with fail
          exact bodyPost_ret (v := .tuple #[.agg #[.int .i64 0, .int .i64 0, .int .i64 0, .slice none 0 0, .int .i64 0, .int .i64 0], .bool false]) (by simp [results, Tryd.results11, go_sem, ↓IntWalk.iteOmega]) rfl ⟨0, 0, 0, [], 0, 0, false, ⟨none, 0, rfl, .inl ⟨rfl, rfl, rfl⟩, below_more (by repeat (first | (with_reducible exact HB.out) | refine below_plus ?_ (by first | omega | (simp <;> omega)) _ | refine Below.alloc ?_ (by first | omega | (simp <;> omega)) _ | refine below_patch ?_ (by omega) _ | refine Below.drew ?_))⟩, fun h => by (cases h), fun _ => ⟨rfl, rfl, rfl, rfl, rfl, rfl⟩, fun o' l' m' ps' b' la' hk' ht' => (by obtain ⟨rfl, rfl, rfl, rfl, rfl, rfl⟩ := HQ.out o' l' m' ps' b' la' hk' ht'; rw [HK.out] at hk'; cases hk')⟩
        · refine (specFormatKnown_yes o l m A c ys b la _ (by (try unfold RdP); repeat (first | (with_reducible exact HRd.out) | (with_reducible apply rd_seq) | (with_reducible apply Rd.plus) | (with_reducible apply Rd.alloc) | (with_reducible apply Rd.drew) | (with_reducible apply Rd.drewN))) hk).mono ?_
          rintro e w' ⟨rfl, x5, rfl⟩
          have HK := Lib.hid hk
          clear hk
          by_cases he : knT o l m ys b la = t
          · have q9 : ((knT o l m ys b la).toList == t.toList) = true := by rw [he]; simp
            have HE := Lib.hid he
            clear he
            go_wp2_with fail
            exact bodyPost_ret (v := .tuple #[.agg #[.int .i64 o, .int .i64 l, .int .i64 m, .slice A (ys).length c, .int .i64 b, .int .i64 la], .bool true]) (by simp [results, Tryd.results11, go_sem, ↓IntWalk.iteOmega]) rfl ⟨o, l, m, ys, b, la, true, ⟨A, c, rfl, (by repeat (first | (with_reducible exact HOw.out) | (with_reducible apply own_seq) | (with_reducible apply Own.plus) | (with_reducible refine own_ptF ?_ HOf.out))), below_more (by repeat (first | (with_reducible exact HB.out) | refine below_plus ?_ (by first | omega | (simp <;> omega)) _ | refine Below.alloc ?_ (by first | omega | (simp <;> omega)) _ | refine below_patch ?_ (by omega) _ | refine Below.drew ?_))⟩, fun _ => ⟨HK.out, HE.out.symm⟩, fun h => by (cases h), fun o' l' m' ps' b' la' hk' ht' => ⟨rfl, HQ.out o' l' m' ps' b' la' hk' ht'⟩⟩
          · have q9 := ne_lists he
            have HE := Lib.hid he
            clear he
            go_wp2_with fail
            exact bodyPost_ret (v := .tuple #[.agg #[.int .i64 0, .int .i64 0, .int .i64 0, .slice none 0 0, .int .i64 0, .int .i64 0], .bool false]) (by simp [results, Tryd.results11, go_sem, ↓IntWalk.iteOmega]) rfl ⟨0, 0, 0, [], 0, 0, false, ⟨none, 0, rfl, .inl ⟨rfl, rfl, rfl⟩, below_more (by repeat (first | (with_reducible exact HB.out) | refine below_plus ?_ (by first | omega | (simp <;> omega)) _ | refine Below.alloc ?_ (by first | omega | (simp <;> omega)) _ | refine below_patch ?_ (by omega) _ | refine Below.drew ?_))⟩, fun h => by (cases h), fun _ => ⟨rfl, rfl, rfl, rfl, rfl, rfl⟩, fun o' l' m' ps' b' la' hk' ht' => (by obtain ⟨rfl, rfl, rfl, rfl, rfl, rfl⟩ := HQ.out o' l' m' ps' b' la' hk' ht'; exact absurd ht'.symm HE.out)⟩

end Go.Proofs.YtmddcbebaijjkaaDoor
