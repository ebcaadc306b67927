/- The text of a reader, cut into its parts; dashes read. -/
import Derived.Test.YtmddcbebaijjkaaGreatDoorPke
import Derived.Test.YtmddcbebaijjkaaGreatDoorFrd
namespace Go.Proofs.YtmddcbebaijjkaaGreatDoor
open Go.RowKit
set_option linter.unusedVariables false
set_option linter.unusedSimpArgs false

theorem setT_lt {o l m : Int} {x : UInt8} (h : x ∈ (setT o l m).data.toList) : x.toNat < 124 := by
  rw [setT_join] at h
  rcases joinB_in h with h | ⟨y, hy, h⟩
  · have : x = 32 := by simpa using h
    subst this
    decide
  · simp only [List.mem_cons, List.not_mem_nil, or_false] at hy
    rcases hy with rfl | rfl | rfl
    · unfold ordT at h
      split at h
      · have : ∀ y ∈ [(104 : UInt8), 105, 103, 104], y.toNat < 124 := by decide
        exact this x h
      · have : ∀ y ∈ [(108 : UInt8), 111, 119], y.toNat < 124 := by decide
        exact this x h
    · have := decB_byte h; omega
    · have := decB_byte h; omega

theorem prs_lt {ps : List Pr} {x : UInt8} (h : x ∈ (orD (prsJ ps)).data.toList) : x.toNat < 124 := by
  by_cases h0 : ps = []
  · rw [(orD_prs ps).1 h0] at h
    have : x = 45 := by simpa using h
    subst this
    decide
  · rw [((orD_prs ps).2 h0).1] at h
    rcases joinB_in h with h | ⟨y, hy, h⟩
    · have : x = 44 := by simpa using h
      subst this
      decide
    · obtain ⟨p, _, rfl⟩ := List.mem_map.1 hy
      have := prT_byte h
      omega

theorem knT_lt {o l m : Int} {ps : List Pr} {b la : Int} {x : UInt8} (h : x ∈ (knT o l m ps b la).data.toList) : x.toNat < 124 := by
  rcases joinB_in (show x ∈ (joinB ⟨#[59]⟩ [setT o l m, decB b, decB la, orD (prsJ ps)]).data.toList from h) with h | ⟨y, hy, h⟩
  · have : x = 59 := by simpa using h
    subst this
    decide
  · simp only [List.mem_cons, List.not_mem_nil, or_false] at hy
    rcases hy with rfl | rfl | rfl | rfl
    · exact setT_lt h
    · have := decB_byte h; omega
    · have := decB_byte h; omega
    · exact prs_lt h

/-- bits alone -/
theorem bits_byte {s : ByteArray} (h : bitsB s = true) : ∀ x ∈ s.data.toList, x.toNat = 48 ∨ x.toNat = 49 := by
  intro x hx
  unfold bitsB allB at h
  simp only [Bool.and_eq_true, decide_eq_true_eq, List.all_eq_true] at h
  have h2 := h.2 x hx
  unfold isBit at h2
  simp at h2
  exact h2

theorem orD_bits {s : ByteArray} (h : bitsB s = true) : ∀ x ∈ (orD s).data.toList, x.toNat < 124 := by
  intro x hx
  unfold orD at hx
  split at hx
  · have : x = 45 := by simpa using hx
    subst this
    decide
  · have := bits_byte h x hx; omega

theorem bits_nodash {s : ByteArray} (h : bitsB s = true) : s ≠ ⟨#[45]⟩ := by
  intro e
  have := bits_byte h 45 (by rw [e]; simp)
  have h2 : (45 : UInt8).toNat = 45 := rfl
  omega

theorem rdT_cut {o l m : Int} {ps : List Pr} {b la : Int} {s : ByteArray} {z c e : Int} (h : bitsB s = true) : cutB 124 (rdT o l m ps b la s z c e) = [knT o l m ps b la, orD s, decB z, decB c, decB e] := by
  refine cutB_joinB (by simp) (fun x hx y hy he => ?_)
  subst he
  have e5 : (124 : UInt8).toNat = 124 := rfl
  simp only [List.mem_cons, List.not_mem_nil, or_false] at hx
  rcases hx with rfl | rfl | rfl | rfl | rfl
  · have := knT_lt hy; omega
  · have := orD_bits h _ hy; omega
  · have := decB_byte hy; omega
  · have := decB_byte hy; omega
  · have := decB_byte hy; omega

theorem five_of {α : Type} : ∀ {xs : List α}, xs.length = 5 → ∃ a b c d e, xs = [a, b, c, d, e]
  | [a, b, c, d, e], _ => ⟨a, b, c, d, e, rfl⟩

theorem rd_parts {t f0 f1 f2 f3 f4 : ByteArray} (hx : cutB 124 t = [f0, f1, f2, f3, f4]) {o l m : Int} {ps : List Pr} {b la : Int} {s : ByteArray} {z c e : Int} (hb : bitsB s = true) (ht : t = rdT o l m ps b la s z c e) : f0 = knT o l m ps b la ∧ f1 = orD s ∧ f2 = decB z ∧ f3 = decB c ∧ f4 = decB e := by
  rw [ht, rdT_cut hb] at hx
  injection hx with h1 h2
  injection h2 with h2 h3
  injection h3 with h3 h4
  injection h4 with h4 h5
  injection h5 with h5 h6
  exact ⟨h1.symm, h2.symm, h3.symm, h4.symm, h5.symm⟩

theorem rd_miss {t : ByteArray} (hx : (cutB 124 t).length ≠ 5) {o l m : Int} {ps : List Pr} {b la : Int} {s : ByteArray} {z c e : Int} (hb : bitsB s = true) : t ≠ rdT o l m ps b la s z c e := by
  intro h
  rw [h, rdT_cut hb] at hx
  exact hx rfl

theorem rd_whole {t f0 f1 f2 f3 f4 : ByteArray} (hx : cutB 124 t = [f0, f1, f2, f3, f4]) {o l m : Int} {ps : List Pr} {b la : Int} {s : ByteArray} {z c e : Int} (h0 : f0 = knT o l m ps b la) (h1 : f1 = orD s) (h2 : f2 = decB z) (h3 : f3 = decB c) (h4 : f4 = decB e) : t = rdT o l m ps b la s z c e := by
  have h := joinB_cutB 124 t
  rw [hx] at h
  rw [← h, h0, h1, h2, h3, h4]; rfl

/-- what reading a text that may be a dash gives -/
def RetWd (w : World) (t : ByteArray) (e : Ending) (w' : World) : Prop := ∃ (x : ByteArray) (ok : Bool), e = .returned (.tuple #[.string x, .bool ok]) ∧ More w w' ∧ x.size ≤ t.size ∧ (ok = true → t = orD x) ∧ ∀ y : ByteArray, y ≠ ⟨#[45]⟩ → t = orD y → x = y ∧ ok = true

theorem ba_nil {t : ByteArray} (h : t.size = 0) : t = ⟨#[]⟩ := by
  obtain ⟨⟨l⟩⟩ := t
  cases l with
  | nil => rfl
  | cons a r => simp [ByteArray.size] at h

theorem withoutDash_any (t : ByteArray) (w : World) : Calls Tryz.prog 33 #[.string t] w (RetWd w t) := by
  by_cases h : t = ⟨#[45]⟩
  · have q : (t.toList == [45]) = true := by rw [h, ByteArray.toList_eq]; rfl
    have HE := Lib.hid h
    clear h
    go_enter Tryz.func33, Tryz.ntmps33
    go_wp2_with fail
    refine bodyPost_ret (v := .tuple #[.string ⟨#[]⟩, .bool true]) (by simp [results, Tryz.results33, go_sem]) rfl ⟨⟨#[]⟩, true, rfl, (by repeat (first | exact More.refl _ | apply More.plus | apply More.alloc | apply More.drew | apply More.drewN)), Nat.zero_le _, fun _ => HE.out, fun y hy ht => ⟨?_, rfl⟩⟩
    by_cases h0 : y.size = 0
    · exact (ba_nil h0).symm
    · rw [orD_some h0] at ht
      exact absurd (ht.symm.trans HE.out) hy
  · have q : (t.toList == [45]) = false := by have := ne_lists h; rwa [ByteArray.toList_eq ⟨#[45]⟩] at this
    by_cases h0 : t.size = 0
    · have hn := ba_nil h0
      subst hn
      go_enter Tryz.func33, Tryz.ntmps33
      go_wp2_with fail
      exact bodyPost_ret (v := .tuple #[.string ⟨#[]⟩, .bool false]) (by simp [results, Tryz.results33, go_sem]) rfl ⟨⟨#[]⟩, false, rfl, (by repeat (first | exact More.refl _ | apply More.plus | apply More.alloc | apply More.drew | apply More.drewN)), Nat.zero_le _, fun h => by (cases h), fun y hy ht => by
        by_cases h1 : y.size = 0
        · rw [orD_nil h1] at ht; exact absurd ht (by decide)
        · rw [orD_some h1] at ht; rw [← ht] at h1; exact absurd h0 h1⟩
    · have q2 : (t.toList == ([] : List UInt8)) = false := by
        have := ne_lists (a := t) (b := ⟨#[]⟩) (fun e => h0 (by rw [e]; rfl))
        rwa [ByteArray.toList_eq ⟨#[]⟩] at this
      have HE := Lib.hid h
      have HZ := Lib.hid h0
      clear h h0
      go_enter Tryz.func33, Tryz.ntmps33
      go_wp2_with fail
      refine bodyPost_ret (v := .tuple #[.string t, .bool true]) (by simp [results, Tryz.results33, go_sem]) rfl ⟨t, true, rfl, (by repeat (first | exact More.refl _ | apply More.plus | apply More.alloc | apply More.drew | apply More.drewN)), Nat.le_refl _, fun _ => (orD_some HZ.out).symm, fun y hy ht => ⟨?_, rfl⟩⟩
      by_cases h1 : y.size = 0
      · rw [orD_nil h1] at ht; exact absurd ht HE.out
      · rwa [orD_some h1] at ht

theorem l3None_any (t : ByteArray) (w : World) : Calls Tryz.prog 31 #[.string t] w (fun e w' => ∃ x : ByteArray, e = .returned (.string x) ∧ More w w' ∧ x.size ≤ t.size ∧ ∀ y : ByteArray, y ≠ ⟨#[45]⟩ → t = orD y → x = y) := by
  by_cases h : t = ⟨#[45]⟩
  · have q : (t.toList == [45]) = true := by rw [h, ByteArray.toList_eq]; rfl
    have HE := Lib.hid h
    clear h
    go_enter Tryz.func31, Tryz.ntmps31
    go_wp2
    go_ret
    refine ⟨⟨#[]⟩, rfl, (by repeat (first | exact More.refl _ | apply More.plus | apply More.alloc | apply More.drew | apply More.drewN)), Nat.zero_le _, fun y hy ht => ?_⟩
    by_cases h0 : y.size = 0
    · exact (ba_nil h0).symm
    · rw [orD_some h0] at ht
      exact absurd (ht.symm.trans HE.out) hy
  · have q : (t.toList == [45]) = false := by have := ne_lists h; rwa [ByteArray.toList_eq ⟨#[45]⟩] at this
    have HE := Lib.hid h
    clear h
    go_enter Tryz.func31, Tryz.ntmps31
    go_wp2
    go_ret
    refine ⟨t, rfl, (by repeat (first | exact More.refl _ | apply More.plus | apply More.alloc | apply More.drew | apply More.drewN)), Nat.le_refl _, fun y hy ht => ?_⟩
    by_cases h1 : y.size = 0
    · rw [orD_nil h1] at ht; exact absurd ht HE.out
    · rwa [orD_some h1] at ht

/-- what reading a reader gives -/
def RetRk (w : World) (t : ByteArray) (E : Ending) (w' : World) : Prop := ∃ (o l m : Int) (ps : List Pr) (b la : Int) (s : ByteArray) (z c e : Int) (ok : Bool),
  RetO w (fun a0 c0 => .tuple #[.agg #[.int .i64 o, .int .i64 l, .int .i64 m, .slice a0 ps.length c0, .int .i64 b, .int .i64 la, .string s, .int .i64 z, .int .i64 c, .int .i64 e], .bool ok]) ps E w' ∧
  (ok = true → rdb o l m ps b la s z c e = true ∧ t = rdT o l m ps b la s z c e) ∧ (ok = false → o = 0 ∧ l = 0 ∧ m = 0 ∧ ps = [] ∧ b = 0 ∧ la = 0 ∧ s = ⟨#[]⟩ ∧ z = 0 ∧ c = 0 ∧ e = 0) ∧
  ∀ (o' l' m' : Int) (ps' : List Pr) (b' la' : Int) (s' : ByteArray) (z' c' e' : Int), rdb o' l' m' ps' b' la' s' z' c' e' = true → t = rdT o' l' m' ps' b' la' s' z' c' e' → ok = true ∧ o = o' ∧ l = l' ∧ m = m' ∧ ps = ps' ∧ b = b' ∧ la = la' ∧ s = s' ∧ z = z' ∧ c = c' ∧ e = e'

end Go.Proofs.YtmddcbebaijjkaaGreatDoor
