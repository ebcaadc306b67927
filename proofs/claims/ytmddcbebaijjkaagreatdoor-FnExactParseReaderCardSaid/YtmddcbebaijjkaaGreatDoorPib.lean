/- Texts split and cut by the library; the program's reading of pairs and settings. -/
import Derived.Test.YtmddcbebaijjkaaGreatDoorPia
import Derived.Test.YtmddcbebaijjkaaGreatDoorFki
import Derived.Lib.IndexBytes
import Derived.Shelf.RegionOpenPlain
namespace Go.Proofs.YtmddcbebaijjkaaGreatDoor
open Go.RowKit
set_option linter.unusedVariables false
set_option linter.unusedSimpArgs false

/-- what splitting a text gives -/
def RetSp (w : World) (xs : List ByteArray) (e : Ending) (w' : World) : Prop := ∃ b, e = .returned (.slice (some ⟨b, 0, none⟩) xs.length xs.length) ∧ w.heap.size ≤ b ∧ w'.heap[b]? = some (.cells (xs.map Value.string).toArray 9 (0, 0)) ∧ More w w'

theorem cutLs_len (c : UInt8) : ∀ s : List UInt8, (cutLs c s).length = s.count c + 1
  | [] => rfl
  | x :: r => by
    have ih := cutLs_len c r
    rw [cutLs]
    split
    · rename_i e; subst e; rw [List.length_cons, ih, List.count_cons_self]
    · rename_i e
      rw [List.count_cons_of_ne (by simpa using e)]
      cases hq : cutLs c r with
      | nil => exact absurd hq (cutLs_pos c r)
      | cons y ys => rw [hq] at ih; simpa using ih

theorem cutB_len (c : UInt8) (s : ByteArray) : (cutB c s).length = s.data.toList.count c + 1 := by
  unfold cutB
  rw [List.length_map, cutLs_len]

theorem cutB_lim (c : UInt8) (s : ByteArray) : (cutB c s).length ≤ s.size + 1 := by
  rw [cutB_len]
  have := List.count_le_length (a := c) (l := s.data.toList)
  have h2 : s.data.toList.length = s.size := Array.length_toList
  omega

theorem cutB_mem {c : UInt8} {s x : ByteArray} (h : x ∈ cutB c s) : x.size ≤ s.size := by
  have e := joinB_cutB c s
  have key : ∀ (xs : List ByteArray), x ∈ xs → x.size ≤ (joinB ⟨#[c]⟩ xs).size := by
    intro xs
    induction xs with
    | nil => intro h; cases h
    | cons y r ih =>
      intro h
      cases r with
      | nil =>
        rw [List.mem_singleton] at h
        subst h
        exact Nat.le_refl _
      | cons z r2 =>
        rw [joinB, ByteArray.size_append, ByteArray.size_append]
        rcases List.mem_cons.1 h with h | h
        · subst h; omega
        · have := ih h; omega
  have := key _ h
  rwa [e] at this

theorem genSplit_one (s : ByteArray) (c : UInt8) (w : World) (hs : s.size ≤ 1048576) :
    Calls Tryz.prog 74 #[.string s, .string ⟨#[c]⟩, .int .i64 0, .int .i64 (-1)] w (fun e w' => e = .returned (.slice (some ⟨w.heap.size, 0, none⟩) (cutB c s).length (cutB c s).length) ∧ w' = w.alloc (.cells ((cutB c s).map Value.string).toArray 9)) := by
  have hcb : Lib.countB s ⟨#[c]⟩ = s.data.toList.count c := Lib.count_one c s.data.toList
  have hlen := cutB_len c s
  have hle := List.count_le_length (a := c) (l := s.data.toList)
  have h2 : s.data.toList.length = s.size := Array.length_toList
  have hsp := cutB_split c s
  have h := Any.strings_genSplit_core Tryz.lays221 (by kernel_rfl) s ⟨#[c]⟩ 0 (-1) (Lib.countB s ⟨#[c]⟩ + 1) w (by omega) (Nat.le_refl 1) (Nat.zero_le _)
    (fun x cc _ => by
      refine (Tryz.strings_Index_one x c _).mono ?_
      rintro e w' ⟨rfl, rfl⟩
      exact ⟨congrArg (fun q : Int => Ending.returned (Value.int .i64 q)) (Lib.index_one x.data.toList c).symm, rfl⟩) (by
      refine (Tryz.strings_Count_one s c w).mono ?_
      rintro e w' ⟨rfl, rfl⟩
      exact ⟨by rw [hcb]; rfl, rfl⟩) (by decide) (by decide) (by rw [if_pos (by decide)]; omega)
  refine h.mono ?_
  rintro e w' ⟨rfl, rfl⟩
  rw [Nat.add_sub_cancel, hsp]
  have h3 : Lib.countB s ⟨#[c]⟩ + 1 = (cutB c s).length := by omega
  rw [h3, Lib.cellsOf_full]
  exact ⟨rfl, rfl⟩

theorem Split_any (s : ByteArray) (c : UInt8) (w : World) (hs : s.size ≤ 1048576) : Calls Tryz.prog 32 #[.string s, .string ⟨#[c]⟩] w (RetSp w (cutB c s)) := by
  have HG := Lib.hid (genSplit_one s c)
  have hl := cutB_lim c s
  generalize cutB c s = xs at *
  go_enter Tryz.func32, Tryz.ntmps32
  go_wp2_with fail
  refine (HG.out w hs).mono ?_
  rintro e w' ⟨rfl, rfl⟩
  go_wp2
  go_ret
  exact ⟨_, rfl, Nat.le_refl _, pushF _ _ _ rfl, (by repeat (first | exact More.refl _ | apply More.plus | apply More.alloc | apply More.drew | apply More.drewN))⟩

theorem idx_cons (c y : UInt8) (r : List UInt8) : Lib.index (y :: r) [c] = if y = c then 0 else if Lib.index r [c] = -1 then -1 else Lib.index r [c] + 1 := by
  rw [Lib.index]
  by_cases e : y = c
  · subst e; simp [List.isPrefixOf]
  · simp [List.isPrefixOf, e, Ne.symm e]

theorem idx_miss {c : UInt8} : ∀ (s : List UInt8), Lib.index s [c] = -1 → ∀ x ∈ s, x ≠ c
  | [], _, x, hx => by cases hx
  | y :: r, h, x, hx => by
    rw [idx_cons] at h
    by_cases e : y = c
    · rw [if_pos e] at h; omega
    · rw [if_neg e] at h
      have hge := Lib.index_ge r [c]
      have hr : Lib.index r [c] = -1 := by
        by_cases h2 : Lib.index r [c] = -1
        · exact h2
        · rw [if_neg h2] at h; omega
      rcases List.mem_cons.1 hx with h3 | h3
      · subst h3; exact e
      · exact idx_miss r hr x h3

theorem idx_hit {c : UInt8} : ∀ (s : List UInt8) (i : Nat), Lib.index s [c] = i → s = s.take i ++ c :: s.drop (i + 1) ∧ ∀ x ∈ s.take i, x ≠ c
  | [], i, h => by
    have : Lib.index [] [c] = -1 := rfl
    rw [this] at h
    omega
  | y :: r, i, h => by
    rw [idx_cons] at h
    by_cases e : y = c
    · rw [if_pos e] at h
      obtain rfl : i = 0 := by omega
      subst e
      exact ⟨by simp, by simp⟩
    · rw [if_neg e] at h
      have hge := Lib.index_ge r [c]
      by_cases h2 : Lib.index r [c] = -1
      · rw [if_pos h2] at h; omega
      · rw [if_neg h2] at h
        obtain ⟨j, rfl⟩ : ∃ j, i = j + 1 := ⟨i - 1, by omega⟩
        obtain ⟨h3, h4⟩ := idx_hit (c := c) r j (by omega)
        refine ⟨?_, ?_⟩
        · rw [List.take_succ_cons, List.drop_succ_cons, List.cons_append, ← h3]
        · intro x hx
          rw [List.take_succ_cons] at hx
          rcases List.mem_cons.1 hx with h5 | h5
          · subst h5; exact e
          · exact h4 x h5

/-- what cutting a text at the first byte c gives -/
def RetCt (w : World) (c : UInt8) (t : ByteArray) (e : Ending) (w' : World) : Prop := ∃ (x y : ByteArray) (ok : Bool), e = .returned (.tuple #[.string x, .string y, .bool ok]) ∧ More w w' ∧ x.size ≤ t.size ∧ y.size ≤ t.size ∧ (ok = true → t = x ++ (⟨#[c]⟩ : ByteArray) ++ y) ∧ ∀ a b : ByteArray, (∀ z ∈ a.data.toList, z ≠ c) → t = a ++ (⟨#[c]⟩ : ByteArray) ++ b → x = a ∧ y = b ∧ ok = true

theorem cut_uniq {c : UInt8} {a a' b b' : List UInt8} (h1 : ∀ z ∈ a, z ≠ c) (h2 : ∀ z ∈ a', z ≠ c) (h : a ++ c :: b = a' ++ c :: b') : a = a' ∧ b = b' := by
  induction a generalizing a' with
  | nil =>
    cases a' with
    | nil => simpa using h
    | cons y r =>
      rw [List.nil_append, List.cons_append] at h
      injection h with h3 h4
      exact absurd h3.symm (h2 y (by simp))
  | cons x r ih =>
    cases a' with
    | nil =>
      rw [List.nil_append, List.cons_append] at h
      injection h with h3 h4
      exact absurd h3 (h1 x (by simp))
    | cons y r2 =>
      rw [List.cons_append, List.cons_append] at h
      injection h with h3 h4
      obtain ⟨h5, h6⟩ := ih (fun z hz => h1 z (by simp [hz])) (fun z hz => h2 z (by simp [hz])) h4
      exact ⟨by rw [h3, h5], h6⟩

theorem ba_ext {a b : ByteArray} (h : a.data.toList = b.data.toList) : a = b := by
  apply ByteArray.ext
  exact Array.toList_inj.1 h

set_option maxRecDepth 100000 in
theorem liteCut_any (t : ByteArray) (c : UInt8) (w : World) (hs : t.size ≤ 1048576) : Calls Tryz.prog 142 #[.string t, .string ⟨#[c]⟩] w (RetCt w c t) := by
  rcases Lib.indexB_cases t ⟨#[c]⟩ with hix | ⟨i, hix, hroom⟩
  · have hm := idx_miss t.data.toList hix
    have HIX := Lib.hid (show Lib.index t.data.toList [c] = -1 from hix)
    have HM := Lib.hid hm
    clear hm hix
    go_enter Tryz.func142, Tryz.ntmps142
    go_wp2_with fail
    refine (Tryz.stringslite_Index_one t c _).mono ?_
    rintro e w' ⟨rfl, rfl⟩
    rw [← Lib.index_one, HIX.out]
    go_wp2_with fail
    refine bodyPost_ret (v := .tuple #[.string t, .string ⟨#[]⟩, .bool false]) (by simp [results, Tryz.results142, go_sem]) rfl ⟨t, ⟨#[]⟩, false, rfl, (by repeat (first | exact More.refl _ | apply More.plus | apply More.alloc | apply More.drew | apply More.drewN)), Nat.le_refl _, Nat.zero_le _, fun h => by (cases h), fun a b ha hab => ?_⟩
    exact absurd rfl (HM.out c (by rw [hab]; simp))
  · have hm := idx_hit t.data.toList i hix
    have HIX := Lib.hid (show Lib.index t.data.toList [c] = (i : Int) from hix)
    have HM := Lib.hid hm
    have hr : i + 1 ≤ t.size := hroom
    have c1 : (0 : Int) ≤ ↑i := by omega
    have c2 : (↑i : Int) ≤ ↑t.size := by omega
    have c3 : (0 : Int) ≤ ↑i + 1 := by omega
    have c4 : (↑i + 1 : Int) ≤ ↑t.size := by omega
    clear hm hix hroom
    go_enter Tryz.func142, Tryz.ntmps142
    go_wp2_with fail
    refine (Tryz.stringslite_Index_one t c _).mono ?_
    rintro e w' ⟨rfl, rfl⟩
    rw [← Lib.index_one, HIX.out]
    have mixed : Tryz.prog.follows .mixedOrders = true := by kernel_rfl
    go_wp2_with fail
    go_region_o
    go_wp2_with fail
    have ex : (t.extract 0 i).data.toList = t.data.toList.take i := by rw [Lib.extract_eq]; simp
    have ey : (t.extract (i + 1) t.size).data.toList = t.data.toList.drop (i + 1) := by
      rw [Lib.extract_eq]
      have hl : t.data.toList.length = t.size := Array.length_toList
      show (List.take (t.size - (i + 1)) (List.drop (i + 1) t.data.toList)) = _
      exact List.take_of_length_le (by rw [List.length_drop]; omega)
    have hd : t = t.extract 0 i ++ (⟨#[c]⟩ : ByteArray) ++ t.extract (i + 1) t.size := by
      apply ba_ext
      have := HM.out.1
      simp only [ByteArray.data_append, Array.toList_append, ex, ey]
      simpa using this
    refine bodyPost_ret (v := .tuple #[.string (t.extract 0 i), .string (t.extract (i + 1) t.size), .bool true]) (by simp [results, Tryz.results142, go_sem]) rfl ⟨_, _, true, rfl, (by repeat (first | exact More.refl _ | apply More.plus | apply More.alloc | apply More.drew | apply More.drewN)), by rw [ByteArray.size_extract]; omega, by rw [ByteArray.size_extract]; omega, fun _ => hd, fun a b ha hab => ?_⟩
    obtain ⟨h5, h6⟩ := cut_uniq (c := c) (a := (t.extract 0 i).data.toList) (a' := a.data.toList) (b := (t.extract (i + 1) t.size).data.toList) (b' := b.data.toList) (by rw [ex]; exact HM.out.2) ha (by
      have h7 := congrArg (fun q : ByteArray => q.data.toList) (hd.symm.trans hab)
      simpa using h7)
    exact ⟨ba_ext h5, ba_ext h6, rfl⟩

theorem Cut_any (t : ByteArray) (c : UInt8) (w : World) (hs : t.size ≤ 1048576) : Calls Tryz.prog 109 #[.string t, .string ⟨#[c]⟩] w (RetCt w c t) := by
  have HC := Lib.hid (liteCut_any t c)
  go_enter Tryz.func109, Tryz.ntmps109
  go_wp2_with fail
  refine (HC.out w hs).mono ?_
  rintro e w' ⟨x, y, ok, rfl, hm, hrest⟩
  have HR := Lib.hid hrest
  have HMo := Lib.hid hm
  clear hrest hm
  go_wp2_with fail
  exact bodyPost_ret (v := .tuple #[.string x, .string y, .bool ok]) (by simp [results, Tryz.results109, go_sem]) rfl ⟨x, y, ok, rfl, HMo.out, HR.out⟩

end Go.Proofs.YtmddcbebaijjkaaGreatDoor
