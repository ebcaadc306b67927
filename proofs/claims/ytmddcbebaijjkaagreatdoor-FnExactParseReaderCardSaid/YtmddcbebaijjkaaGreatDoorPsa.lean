/- The reference's cutting of texts. -/
import Derived.Test.YtmddcbebaijjkaaGreatDoorPke
namespace Go.Proofs.YtmddcbebaijjkaaGreatDoor
open Go.RowKit
set_option linter.unusedVariables false
set_option linter.unusedSimpArgs false

theorem ba_get (s : ByteArray) (k : Nat) (h : k < s.size) : s.data.toList[k]? = some s[k] := by
  rw [List.getElem?_eq_getElem (by rw [show s.data.toList.length = s.size from Array.length_toList]; exact h)]
  rfl

/-- no byte c from f on, ahead of i -/
def NoC (c : UInt8) (s : ByteArray) (f i : Nat) : Prop := ∀ j, f ≤ j → j < i → s.data.toList[j]? ≠ some c

theorem NoC.nx {c : UInt8} {s : ByteArray} {f i : Nat} (h : NoC c s f i) (hi : s.data.toList[i]? ≠ some c) : NoC c s f (i + 1) := by
  intro j h1 h2
  by_cases e : j = i
  · subst e; exact hi
  · exact h j h1 (by omega)

theorem ext_list (s : ByteArray) (f i : Nat) : (s.extract f i).data.toList = (s.data.toList.drop f).take (i - f) := by
  rw [Lib.extract_eq]

theorem ext_noc {c : UInt8} {s : ByteArray} {f i : Nat} (h : NoC c s f i) : ∀ x ∈ (s.extract f i).data.toList, x ≠ c := by
  intro x hx e
  subst e
  rw [ext_list] at hx
  obtain ⟨j, hj⟩ := List.getElem?_of_mem hx
  rw [List.getElem?_take] at hj
  split at hj
  · rw [List.getElem?_drop] at hj
    exact h (f + j) (by omega) (by omega) hj
  · cases hj

theorem len_list (s : ByteArray) : s.data.toList.length = s.size := Array.length_toList

theorem ext_at {c : UInt8} {s : ByteArray} {f i : Nat} (h1 : f ≤ i) (h2 : i < s.size) (h3 : s.data.toList[i]? = some c) : s.extract f s.size = s.extract f i ++ (⟨#[c]⟩ : ByteArray) ++ s.extract (i + 1) s.size := by
  apply ba_ext
  simp only [ByteArray.data_append, Array.toList_append, ext_list]
  have hl := len_list s
  have e1 : (s.data.toList.drop (i + 1)).take (s.size - (i + 1)) = s.data.toList.drop (i + 1) := List.take_of_length_le (by rw [List.length_drop]; omega)
  have e2 : (s.data.toList.drop f).take (s.size - f) = s.data.toList.drop f := List.take_of_length_le (by rw [List.length_drop]; omega)
  rw [e1, e2]
  have e3 : s.data.toList.drop f = (s.data.toList.drop f).take (i - f) ++ (s.data.toList.drop f).drop (i - f) := (List.take_append_drop _ _).symm
  have e4 : (s.data.toList.drop f).drop (i - f) = c :: s.data.toList.drop (i + 1) := by
    rw [List.drop_drop, show f + (i - f) = i by omega, List.drop_eq_getElem_cons (by omega)]
    congr 1
    rw [List.getElem?_eq_getElem (by omega)] at h3
    injection h3
  rw [e4] at e3
  refine e3.trans ?_
  simp

theorem cut_at {c : UInt8} {s : ByteArray} {f i : Nat} (h1 : f ≤ i) (h2 : i < s.size) (h3 : s.data.toList[i]? = some c) (h4 : NoC c s f i) : cutB c (s.extract f s.size) = s.extract f i :: cutB c (s.extract (i + 1) s.size) := by
  rw [ext_at h1 h2 h3, cutB_hit (ext_noc h4)]

theorem cut_fin {c : UInt8} {s : ByteArray} {f : Nat} (h4 : NoC c s f s.size) : cutB c (s.extract f s.size) = [s.extract f s.size] := cutB_none (ext_noc h4)

theorem ext_all (s : ByteArray) : s.extract 0 s.size = s := by
  apply ba_ext
  rw [ext_list, List.drop_zero, List.take_of_length_le (by rw [len_list]; omega)]

theorem byte_is {a c : UInt8} (h : a = c) : (((a.toNat : Nat) : Int) == ((c.toNat : Nat) : Int)) = true := by rw [h]; simp

theorem byte_no {a c : UInt8} (h : a ≠ c) : (((a.toNat : Nat) : Int) == ((c.toNat : Nat) : Int)) = false := by
  rw [beq_eq_false_iff_ne]
  intro e
  exact h (UInt8.toNat_inj.1 (by omega))

/-- where a byte first stands -/
def RetFd (w : World) (s : ByteArray) (c : UInt8) (e : Ending) (w' : World) : Prop := ∃ n : Int, e = .returned (.int .i64 n) ∧ More w w' ∧ ((n = -1 ∧ NoC c s 0 s.size) ∨ ∃ k : Nat, n = k ∧ k < s.size ∧ s.data.toList[k]? = some c ∧ NoC c s 0 k)

set_option maxRecDepth 100000 in
set_option maxHeartbeats 2000000 in
theorem l9Find_any (s : ByteArray) (c : UInt8) (w : World) (hs : s.size ≤ 1048576) : Calls Tryz.prog 115 #[.string s, .int .u8 c.toNat] w (RetFd w s c) := by
  have hc : (c.toNat : Int) ≤ 255 := by have := c.toNat_lt; omega
  go_enter Tryz.func115, Tryz.ntmps115
  go_wp2
  go_loopw [5] (fun i wr => ∃ (k : Nat), i = .int .i64 k ∧ k ≤ s.size ∧ NoC c s 0 k ∧ More w wr) (fun i _ => s.size - (intOf i).toNat)
  case atStart => exact ⟨0, rfl, Nat.zero_le _, fun j h1 h2 => absurd h2 (by omega), More.refl _⟩
  case round =>
    obtain ⟨k, rfl, hk, hn, x, rfl⟩ := hrel
    have HN := Lib.hid hn
    clear hn
    rcases dec (k < s.size) with ⟨hlt, v1⟩ | ⟨hlt, v1⟩
    · have hg := ba_get s k hlt
      by_cases he : s[k] = c
      · have q := byte_is he
        have HG := Lib.hid (show s.data.toList[k]? = some c by rw [hg, he])
        clear hg he
        go_wp2
        go_ret
        exact ⟨k, rfl, (by repeat (first | exact More.refl _ | apply More.plus | apply More.alloc | apply More.drew | apply More.drewN)), .inr ⟨k, rfl, hlt, HG.out, HN.out⟩⟩
      · have q := byte_no he
        have HG := Lib.hid (show s.data.toList[k]? ≠ some c by rw [hg]; intro h; injection h with h; exact he h)
        clear hg he
        go_wp2
        go_roundw
        case rel => exact ⟨k + 1, by go_num, by omega, HN.out.nx HG.out, (by repeat (first | exact More.refl _ | apply More.plus | apply More.alloc | apply More.drew | apply More.drewN))⟩
        case measure => simp [intOf]; omega
    · obtain rfl : k = s.size := by omega
      go_wp2
      go_ret
      exact ⟨_, rfl, (by repeat (first | exact More.refl _ | apply More.plus | apply More.alloc | apply More.drew | apply More.drewN)), .inl ⟨rfl, HN.out⟩⟩

/-- a text, cut: a slice of the call's own -/
def RetCuts (w : World) (xs : List ByteArray) (e : Ending) (w' : World) : Prop := ∃ (A : Option Addr) (c : Nat), e = .returned (.slice A xs.length c) ∧ Own encS 9 w' A c xs w.heap.size ∧ More w w'

/-- what is cut so far -/
def CutI (c : UInt8) (s : ByteArray) (xs : List ByteArray) (f i : Nat) : Prop := (i ≤ s.size ∧ f ≤ i ∧ cutB c s = xs ++ cutB c (s.extract f s.size) ∧ NoC c s f i) ∨ (i = s.size + 1 ∧ cutB c s = xs)

set_option maxRecDepth 100000 in
set_option maxHeartbeats 4000000 in
theorem l9Cut_any (s : ByteArray) (c : UInt8) (w : World) (hs : s.size ≤ 1048576) : Calls Tryz.prog 29 #[.string s, .int .u8 c.toNat] w (RetCuts w (cutB c s)) := by
  have hc : (c.toNat : Int) ≤ 255 := by have := c.toNat_lt; omega
  obtain ⟨i0, hi, hz0, hz1, hz2⟩ := info_parts infoString
  have hlim := cutB_lim c s
  go_enter Tryz.func29, Tryz.ntmps29
  go_wp2
  go_loopw [5, 6, 7] (fun t f i wr => ∃ (A : Option Addr) (cp : Nat) (xs : List ByteArray) (fr k : Nat), t = .slice A xs.length cp ∧ f = .int .i64 fr ∧ i = .int .i64 k ∧ CutI c s xs fr k ∧ Own encS 9 wr A cp xs w.heap.size ∧ Below w.heap.size w wr) (fun _ _ i _ => s.size + 1 - (intOf i).toNat)
  case atStart =>
    refine ⟨_, 0, [], 0, 0, rfl, rfl, rfl, .inl ⟨Nat.zero_le _, Nat.le_refl _, by rw [ext_all]; rfl, fun j h1 h2 => absurd h2 (by omega)⟩, .inr ⟨_, #[], rfl, Nat.le_refl _, pushF _ _ _ rfl, rfl, fun j u h => by (simp [flat] at h), Nat.le_refl _, by omega⟩, (by repeat (first | exact Below.refl _ _ | refine below_plus ?_ (by first | omega | (simp <;> omega)) _ | refine Below.alloc ?_ (by first | omega | (simp <;> omega)) _ | refine below_patch ?_ (by omega) _ | refine Below.drew ?_))⟩
  case round =>
    obtain ⟨A, cp, xs, fr, k, rfl, rfl, rfl, hci, hown, hbel⟩ := hrel
    have HO := Lib.hid hown
    have HB := Lib.hid hbel
    have hw := hbel.size
    have hxl : xs.length ≤ s.size + 1 := by
      rcases hci with ⟨_, _, h, _⟩ | ⟨_, h⟩
      · have := congrArg List.length h
        rw [List.length_append] at this
        omega
      · rw [← h]; exact hlim
    clear hown hbel
    rcases hci with ⟨hk, hfr, hcut, hno⟩ | ⟨rfl, hcut⟩
    · have v0 : decide ((k : Int) ≤ (s.size : Int)) = true := decide_eq_true (by omega)
      have HC := Lib.hid hcut
      have HN := Lib.hid hno
      clear hcut hno
      by_cases hlt : k = s.size
      · have HK := Lib.hid hlt
        have v1 : ((k : Int) == (s.size : Int)) = true := by rw [hlt]; simp
        have hks : (k : Int) ≤ (s.size : Int) := by omega
        have hks2 : (s.size : Int) ≤ (k : Int) := by omega
        clear hlt
        go_wp2_with (at_builtin; refine wpList_append_at encS _ _ _ _ i0 _ 16 rfl rfl Tryz.underlying51 hi hz0 hz1 hz2 rfl (by decide) xs A cp w.heap.size (by repeat (first | (with_reducible exact HO.out) | (with_reducible apply own_seq) | (with_reducible apply own_draw) | (with_reducible apply Own.plus) | (with_reducible apply Own.alloc) | (with_reducible apply Own.drew) | (with_reducible apply Own.drewN))) rfl [s.extract fr k] _ 0 1 (new_cells encS (s.extract fr k) _ _ (by simp <;> omega)) rfl (by first | omega | rfl | (simp <;> omega) | (simp only [List.length_cons, List.length_nil, plus_size, World.size_alloc]; omega)) (by first | omega | rfl | (simp <;> omega) | (simp only [List.length_cons, List.length_nil, plus_size, World.size_alloc]; omega)) (by simp <;> omega) ?_; intro A6 c6 w6 hw6 hg6 hx6; have HO6 := Lib.hid hw6; have HB6 := Lib.hid (HB.out.trans (Below.trans (b := _) (by repeat (first | exact Below.refl _ _ | refine below_plus ?_ (by first | omega | (simp <;> omega)) _ | refine Below.alloc ?_ (by first | omega | (simp <;> omega)) _ | refine below_patch ?_ (by omega) _ | refine Below.drew ?_)) (hg6.below (by simp <;> omega) fun X hX => (own_lt HO.out X hX).1))); clear hw6 hg6 hx6)
        go_roundw
        case rel => exact ⟨A6, c6, xs ++ [s.extract fr k], k + 1, k + 1, by simp, by go_num, by go_num, .inr ⟨by rw [HK.out], by rw [HC.out, HK.out, cut_fin (by have := HN.out; rwa [HK.out] at this)]⟩, HO6.out, HB6.out⟩
        case measure => simp [intOf]; omega
      · have hlt2 : k < s.size := by omega
        have v1 : ((k : Int) == (s.size : Int)) = false := by rw [beq_eq_false_iff_ne]; omega
        have hg := ba_get s k hlt2
        clear hlt
        by_cases he : s[k] = c
        · have q := byte_is he
          have HG := Lib.hid (show s.data.toList[k]? = some c by rw [hg, he])
          clear hg he
          go_wp2_with (at_builtin; refine wpList_append_at encS _ _ _ _ i0 _ 16 rfl rfl Tryz.underlying51 hi hz0 hz1 hz2 rfl (by decide) xs A cp w.heap.size (by repeat (first | (with_reducible exact HO.out) | (with_reducible apply own_seq) | (with_reducible apply own_draw) | (with_reducible apply Own.plus) | (with_reducible apply Own.alloc) | (with_reducible apply Own.drew) | (with_reducible apply Own.drewN))) rfl [s.extract fr k] _ 0 1 (new_cells encS (s.extract fr k) _ _ (by simp <;> omega)) rfl (by first | omega | rfl | (simp <;> omega) | (simp only [List.length_cons, List.length_nil, plus_size, World.size_alloc]; omega)) (by first | omega | rfl | (simp <;> omega) | (simp only [List.length_cons, List.length_nil, plus_size, World.size_alloc]; omega)) (by simp <;> omega) ?_; intro A6 c6 w6 hw6 hg6 hx6; have HO6 := Lib.hid hw6; have HB6 := Lib.hid (HB.out.trans (Below.trans (b := _) (by repeat (first | exact Below.refl _ _ | refine below_plus ?_ (by first | omega | (simp <;> omega)) _ | refine Below.alloc ?_ (by first | omega | (simp <;> omega)) _ | refine below_patch ?_ (by omega) _ | refine Below.drew ?_)) (hg6.below (by simp <;> omega) fun X hX => (own_lt HO.out X hX).1))); clear hw6 hg6 hx6)
          go_roundw
          case rel => exact ⟨A6, c6, xs ++ [s.extract fr k], k + 1, k + 1, by simp, by go_num, by go_num, .inl ⟨by omega, Nat.le_refl _, by rw [HC.out, cut_at hfr hlt2 HG.out HN.out, List.append_assoc]; rfl, fun j h1 h2 => absurd h2 (by omega)⟩, HO6.out, HB6.out⟩
          case measure => simp [intOf]; omega
        · have q := byte_no he
          have HG := Lib.hid (show s.data.toList[k]? ≠ some c by rw [hg]; intro h; injection h with h; exact he h)
          clear hg he
          go_wp2_with fail
          go_roundw
          case rel => exact ⟨A, cp, xs, fr, k + 1, rfl, rfl, by go_num, .inl ⟨by omega, by omega, HC.out, HN.out.nx HG.out⟩, HO.out, HB.out⟩
          case measure => simp [intOf]; omega
    · have v0 : decide (((s.size + 1 : Nat) : Int) ≤ (s.size : Int)) = false := decide_eq_false (by omega)
      have HC := Lib.hid hcut
      clear hcut
      go_wp2_with fail
      go_ret
      rw [HC.out]
      exact ⟨A, cp, rfl, HO.out, below_more HB.out⟩

end Go.Proofs.YtmddcbebaijjkaaGreatDoor
