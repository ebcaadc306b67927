/- Lemmas and walks, part Gm. -/
import Derived.Test.YtmddcbebaijjkaaDoorGl
import Derived.Lib.SplitLaws
import Derived.Lib.AtoiAll
import Derived.Test.YtmddcbebaijjkaaDoorShelfP
import Derived.Lib.IndexBytes
import Derived.Shelf.RegionOpenPlain
import Derived.Test.YtmddcbebaijjkaaDoorRng

/- Plain: texts cut at a byte, and joined again; numbers read from texts. -/
namespace Go.Proofs.YtmddcbebaijjkaaDoor
open Go.RowKit
set_option linter.unusedVariables false
set_option linter.unusedSimpArgs false

/-- a list of bytes, cut at every byte c -/
def cutLs (c : UInt8) : List UInt8 → List (List UInt8)
  | [] => [[]]
  | x :: r => if x = c then [] :: cutLs c r else
    match cutLs c r with
    | [] => [[x]]
    | y :: ys => (x :: y) :: ys

theorem cutLs_none {c : UInt8} : ∀ {s : List UInt8}, (∀ x ∈ s, x ≠ c) → cutLs c s = [s]
  | [], _ => rfl
  | x :: r, h => by
    rw [cutLs, if_neg (h x (by simp)), cutLs_none (fun y hy => h y (by simp [hy]))]

theorem cutLs_hit {c : UInt8} {r : List UInt8} : ∀ {a : List UInt8}, (∀ x ∈ a, x ≠ c) → cutLs c (a ++ c :: r) = a :: cutLs c r
  | [], _ => by rw [List.nil_append, cutLs, if_pos rfl]
  | x :: a, h => by
    rw [List.cons_append, cutLs, if_neg (h x (by simp)), cutLs_hit (fun y hy => h y (by simp [hy]))]

theorem cutLs_split (c : UInt8) : ∀ (s : List UInt8), Lib.splitK [c] 0 (s.count c) s = cutLs c s
  | [] => rfl
  | x :: r => by
    have ih := cutLs_split c r
    have hix : Lib.index (x :: r) [c] = if x = c then 0 else if Lib.index r [c] == -1 then -1 else Lib.index r [c] + 1 := by
      rw [Lib.index]
      by_cases e : x = c
      · subst e; simp [List.isPrefixOf]
      · simp [List.isPrefixOf, e, Ne.symm e]
    by_cases e : x = c
    · subst e
      rw [if_pos rfl] at hix
      rw [cutLs, if_pos rfl, List.count_cons_self, Lib.splitK, hix, if_neg (by decide), ← ih]
      rfl
    · rw [if_neg e] at hix
      rw [cutLs, if_neg e, List.count_cons_of_ne (by simpa using e), ← ih]
      cases hk : r.count c with
      | zero => rfl
      | succ k =>
        rw [Lib.splitK, Lib.splitK, hix]
        by_cases hm : Lib.index r [c] = -1
        · rw [hm]; rfl
        · have hge := Lib.index_ge r [c]
          obtain ⟨j, hj⟩ : ∃ j : Nat, Lib.index r [c] = j := ⟨(Lib.index r [c]).toNat, by omega⟩
          have hb : (Lib.index r [c] == -1) = false := by simpa using hm
          have hb2 : (((j : Int) + 1) == -1) = false := by simp; omega
          rw [hb, hj]
          simp only [Bool.false_eq_true, if_false, hb2, hj, hb]
          have e1 : ((j : Int) + 1).toNat = j + 1 := by omega
          rw [e1, Int.toNat_natCast]
          rfl

/-- a text, cut at every byte c -/
def cutB (c : UInt8) (s : ByteArray) : List ByteArray := (cutLs c s.data.toList).map fun l => ⟨l.toArray⟩

theorem lst_ba (s : ByteArray) : (⟨s.data.toList.toArray⟩ : ByteArray) = s := by cases s; simp

theorem cutB_none {c : UInt8} {s : ByteArray} (h : ∀ x ∈ s.data.toList, x ≠ c) : cutB c s = [s] := by
  unfold cutB
  rw [cutLs_none h, List.map_cons, List.map_nil, lst_ba]

theorem cutB_hit {c : UInt8} {a r : ByteArray} (h : ∀ x ∈ a.data.toList, x ≠ c) : cutB c (a ++ (⟨#[c]⟩ : ByteArray) ++ r) = a :: cutB c r := by
  unfold cutB
  have e : (a ++ (⟨#[c]⟩ : ByteArray) ++ r).data.toList = a.data.toList ++ c :: r.data.toList := by simp
  rw [e, cutLs_hit h, List.map_cons, lst_ba]

theorem cutB_joinB {c : UInt8} : ∀ {xs : List ByteArray}, xs ≠ [] → (∀ x ∈ xs, ∀ y ∈ x.data.toList, y ≠ c) → cutB c (joinB ⟨#[c]⟩ xs) = xs
  | [], h, _ => absurd rfl h
  | [x], _, h => cutB_none (h x (by simp))
  | x :: y :: r, _, h => by
    rw [joinB, cutB_hit (h x (by simp)), cutB_joinB (by simp) (fun z hz => h z (by simp at hz ⊢; right; exact hz))]

theorem cutLs_pos (c : UInt8) : ∀ s : List UInt8, cutLs c s ≠ []
  | [] => by simp [cutLs]
  | x :: r => by
    rw [cutLs]
    split
    · simp
    · split <;> simp

theorem cutLs_back (c : UInt8) : ∀ s : List UInt8, Lib.join (cutLs c s) [c] = s
  | [] => rfl
  | x :: r => by
    have ih := cutLs_back c r
    rw [cutLs]
    split
    · rename_i e
      subst e
      cases hq : cutLs x r with
      | nil => exact absurd hq (cutLs_pos x r)
      | cons y ys =>
        rw [hq] at ih
        rw [← ih]
        simp [Lib.join]
    · cases hq : cutLs c r with
      | nil => exact absurd hq (cutLs_pos c r)
      | cons y ys =>
        rw [hq] at ih
        show Lib.join ((x :: y) :: ys) [c] = x :: r
        rw [← ih]
        cases ys <;> simp [Lib.join]

theorem joinB_cutB (c : UInt8) (s : ByteArray) : joinB ⟨#[c]⟩ (cutB c s) = s := by
  rw [← joinB_lib]
  have e : (cutB c s).map (·.data.toList) = cutLs c s.data.toList := by
    unfold cutB
    rw [List.map_map]
    conv => rhs; rw [← List.map_id (cutLs c s.data.toList)]
    exact List.map_congr_left fun l _ => by simp
  have h := cutLs_back c s.data.toList
  rw [e]
  show (⟨(Lib.join (cutLs c s.data.toList) [c]).toArray⟩ : ByteArray) = s
  rw [h, lst_ba]

theorem cutB_split (c : UInt8) (s : ByteArray) : Lib.splitB ⟨#[c]⟩ 0 (Lib.countB s ⟨#[c]⟩) s = cutB c s := by
  have h1 := Lib.splitB_data ⟨#[c]⟩ 0 (Lib.countB s ⟨#[c]⟩) s
  have h2 : Lib.countB s ⟨#[c]⟩ = s.data.toList.count c := Lib.count_one c s.data.toList
  rw [h2] at h1 ⊢
  have h3 := cutLs_split c s.data.toList
  have h4 : (Lib.splitB ⟨#[c]⟩ 0 (s.data.toList.count c) s).map (·.data.toList) = cutLs c s.data.toList := by rw [h1]; exact h3
  unfold cutB
  rw [← h4, List.map_map]
  conv => lhs; rw [← List.map_id (Lib.splitB ⟨#[c]⟩ 0 (s.data.toList.count c) s)]
  exact List.map_congr_left fun x _ => by simp [lst_ba]

/-! ### Numbers -/

theorem dig_all : ∀ (n : Nat), ∀ x ∈ Lib.decDigits n, 48 ≤ x.toNat ∧ x.toNat ≤ 57 := by
  intro n
  induction n using Nat.strongRecOn with
  | ind n ih =>
    intro x hx
    rw [Lib.decDigits] at hx
    split at hx
    · rename_i h
      rw [List.mem_singleton] at hx
      subst hx
      rw [UInt8.toNat_ofNat']
      omega
    · rename_i h
      rcases List.mem_append.1 hx with h1 | h1
      · exact ih (n / 10) (by omega) x h1
      · rw [List.mem_singleton] at h1
        subst h1
        rw [UInt8.toNat_ofNat']
        omega

theorem decB_byte {n : Int} {x : UInt8} (h : x ∈ (decB n).data.toList) : x.toNat = 45 ∨ (48 ≤ x.toNat ∧ x.toNat ≤ 57) := by
  unfold decB Lib.itoa at h
  split at h
  · simp at h
    rcases h with h | h
    · exact .inl (by rw [h]; rfl)
    · exact .inr (dig_all _ x h)
  · exact .inr (dig_all _ x (by simpa using h))

theorem par_app : ∀ (a b : List UInt8) (acc u : Nat), Lib.parseUint10 acc a = .ok u → Lib.parseUint10 acc (a ++ b) = Lib.parseUint10 u b
  | [], b, acc, u, h => by
    simp only [Lib.parseUint10] at h
    injection h with h
    rw [h]; rfl
  | x :: a, b, acc, u, h => by
    simp only [Lib.parseUint10] at h
    rw [List.cons_append]
    simp only [Lib.parseUint10]
    split at h
    · rename_i h1
      rw [if_pos h1]
      split at h
      · cases h
      · rename_i h2
        rw [if_neg h2]
        split at h
        · cases h
        · rename_i h3
          rw [if_neg h3]
          exact par_app a b _ u h
    · cases h

theorem par_dig : ∀ (n : Nat), n < 18446744073709551616 → Lib.parseUint10 0 (Lib.decDigits n) = .ok n := by
  intro n
  induction n using Nat.strongRecOn with
  | ind n ih =>
    intro hn
    rw [Lib.decDigits]
    split
    · rename_i h
      have e : (UInt8.ofNat (48 + n)).toNat = 48 + n := by rw [UInt8.toNat_ofNat']; omega
      simp only [Lib.parseUint10]
      rw [e, if_pos (by omega), if_neg (by omega), if_neg (by omega)]
      congr 1
      omega
    · rename_i h
      rw [par_app _ _ _ _ (ih (n / 10) (by omega) (by omega))]
      have e : (UInt8.ofNat (48 + n % 10)).toNat = 48 + n % 10 := by rw [UInt8.toNat_ofNat']; omega
      simp only [Lib.parseUint10]
      rw [e, if_pos (by omega), if_neg (by omega), if_neg (by omega)]
      congr 1
      omega

theorem dig_ne (n : Nat) : Lib.decDigits n ≠ [] := by
  rw [Lib.decDigits]
  split <;> simp

theorem atoi_dec {n : Int} (h0 : -9223372036854775808 ≤ n) (h1 : n ≤ 9223372036854775807) : Lib.atoiAll (decB n).data.toList = .ok n := by
  have hm : ∀ k : Nat, k < 18446744073709551616 → Lib.parseMag (Lib.decDigits k) = .ok k := fun k hk => by
    unfold Lib.parseMag
    rw [if_neg (dig_ne k)]
    exact par_dig k hk
  unfold decB Lib.itoa
  split
  · rename_i h
    show Lib.atoiAll (45 :: Lib.decDigits n.natAbs) = _
    unfold Lib.atoiAll
    simp only
    rw [if_pos (show (45 : UInt8).toNat = 43 ∨ (45 : UInt8).toNat = 45 from .inr rfl), hm _ (by omega)]
    simp only
    rw [if_neg (fun hh => hh.1 rfl), if_neg (fun hh => by have := hh.2; omega), if_pos (show (45 : UInt8).toNat = 45 from rfl)]
    congr 1
    omega
  · rename_i h
    show Lib.atoiAll (Lib.decDigits n.toNat) = _
    cases hd : Lib.decDigits n.toNat with
    | nil => exact absurd hd (dig_ne _)
    | cons x r =>
      have hx := dig_all n.toNat x (by rw [hd]; simp)
      unfold Lib.atoiAll
      simp only
      rw [if_neg (show ¬ (x.toNat = 43 ∨ x.toNat = 45) by omega), ← hd, hm _ (by omega)]
      simp only
      rw [if_neg (fun hh => by have := hh.2; omega), if_neg (fun hh => by have := hh.1; omega), if_neg (by omega)]
      congr 1
      omega

theorem decB_inj {n k : Int} (h0 : -9223372036854775808 ≤ n) (h1 : n ≤ 9223372036854775807) (k0 : -9223372036854775808 ≤ k) (k1 : k ≤ 9223372036854775807) (h : decB n = decB k) : n = k := by
  have e := atoi_dec h0 h1
  rw [h, atoi_dec k0 k1] at e
  injection e with e
  exact e.symm

end Go.Proofs.YtmddcbebaijjkaaDoor

/- The program's reading of numbers and of pairs; texts split. -/
namespace Go.Proofs.YtmddcbebaijjkaaDoor
open Go.RowKit
set_option linter.unusedVariables false
set_option linter.unusedSimpArgs false

/-- the tables and the two errors of strconv lie as laid -/
structure Lw (W : World) : Prop where
  tb : Tb W
  es : ∃ te pe, W.cell? ⟨2, 0, none⟩ = some (.iface te pe)
  er : ∃ te pe, W.cell? ⟨3, 0, none⟩ = some (.iface te pe)

theorem Lw.below {W W' : World} (h : Lw W) (hb : Below W.heap.size W W') : Lw W' := by
  obtain ⟨h1, ⟨te, pe, h2⟩, ⟨tf, pf, h3⟩⟩ := h
  exact ⟨h1.below hb, ⟨te, pe, (hb.cell (World.block_lt_of_cell? _ _ h2)).trans h2⟩, ⟨tf, pf, (hb.cell (World.block_lt_of_cell? _ _ h3)).trans h3⟩⟩

theorem Lw.more {W W' : World} (h : Lw W) (hm : More W W') : Lw W' := h.below (more_below hm)

theorem Lw.plus {W : World} (h : Lw W) (x : Ext) : Lw (plus W x) := h.more ⟨x, rfl⟩

theorem Lw.alloc {W : World} (h : Lw W) (o : Obj) : Lw (W.alloc o) := by rw [alloc_plus]; exact h.plus _

theorem Lw.drew {W : World} (h : Lw W) : Lw W.drew := by rw [drew_is_plus]; exact h.plus _

theorem lwq_seq {W : World} {x y : Ext} (h : Lw (Go.Proofs.YtmddcbebaijjkaaDoor.plus (Go.Proofs.YtmddcbebaijjkaaDoor.plus W x) y)) : Lw (Go.Proofs.YtmddcbebaijjkaaDoor.plus W (x.seq y)) := by rwa [plus_plus] at h

theorem bytesWorld_more (w : World) (e : TypeId) (s : ByteArray) : More w (Lib.bytesWorld w e s) := below_more (Joins.below_bytesWorld _ w e s (Nat.le_refl _))

theorem Atoi_yes (s : ByteArray) (v : Int) (w : World) (hs : s.size ≤ 1048576) (h : Lib.atoiAll s.data.toList = .ok v) : Calls Tryd.prog 66 #[.string s] w (Ret w (.tuple #[.int .i64 v, .nilIface])) := by
  refine (Tryd.strconv_Atoi_ok s (by omega) v h w).mono ?_
  rintro e w' ⟨rfl, h | ⟨t, h⟩⟩
  · subst h; exact ⟨rfl, More.refl _⟩
  · subst h; exact ⟨rfl, bytesWorld_more _ _ _⟩

theorem Atoi_no (s : ByteArray) (w : World) (hs : s.size ≤ 1048576) (hl : Lw w) (h : ∀ v, Lib.atoiAll s.data.toList ≠ .ok v) : Calls Tryd.prog 66 #[.string s] w (fun e w' => ∃ v t p, e = .returned (.tuple #[.int .i64 v, .iface t (.pointer (some p))]) ∧ More w w') := by
  rcases ha : Lib.atoiAll s.data.toList with v | _ | _
  · exact absurd ha (h v)
  · obtain ⟨te, pe, he⟩ := hl.es
    exact (Any.strconv_Atoi_syntax Tryd.laysC172 s (by omega) ha _ w he (.inr ⟨te, pe, rfl⟩)).mono fun e w' ⟨N, h1, _, _, hb⟩ => ⟨_, _, _, h1, below_more hb⟩
  · obtain ⟨te, pe, he⟩ := hl.er
    refine (Tryd.strconv_Atoi_range s (by omega) ha _ w he (.inr ⟨te, pe, rfl⟩)).mono ?_
    rintro e w' ⟨N, rfl, _, _, hb⟩
    exact ⟨_, _, _, rfl, below_more hb⟩

/-- a number of 64 bits -/
def I64 (n : Int) : Prop := -9223372036854775808 ≤ n ∧ n ≤ 9223372036854775807

theorem atoi_i64 {l : List UInt8} {v : Int} (h : Lib.atoiAll l = .ok v) : I64 v := by
  unfold Lib.atoiAll at h
  split at h
  · cases h
  · simp only at h
    split at h
    · cases h
    · cases h
    · rename_i u hu
      have hl := Lib.parseMag_lt hu
      split at h
      · cases h
      · rename_i h1
        split at h
        · cases h
        · rename_i h2
          injection h with h
          subst h
          unfold I64
          split
          · rename_i h3
            have : ¬ 9223372036854775808 < u := fun hh => h2 ⟨h3, hh⟩
            omega
          · rename_i h3
            have : ¬ 9223372036854775808 ≤ u := fun hh => h1 ⟨h3, hh⟩
            omega

/-- what reading a number gives -/
def RetNm (w : World) (t : ByteArray) (e : Ending) (w' : World) : Prop := ∃ (n : Int) (ok : Bool), e = .returned (.tuple #[.int .i64 n, .bool ok]) ∧ More w w' ∧ (ok = true → t = decB n ∧ I64 n) ∧ ∀ k, I64 k → t = decB k → n = k ∧ ok = true

theorem ne_lists {a b : ByteArray} (h : a ≠ b) : (a.toList == b.toList) = false := by
  rw [beq_eq_false_iff_ne]
  intro e
  apply h
  apply ByteArray.ext
  rw [ByteArray.toList_eq, ByteArray.toList_eq] at e
  exact Array.toList_inj.1 (by simpa using e)

set_option maxRecDepth 100000 in
theorem parseNumber_any (t : ByteArray) (w : World) (hs : t.size ≤ 1048576) (hl : Lw w) : Calls Tryd.prog 40 #[.string t] w (RetNm w t) := by
  have HL := Lib.hid hl
  clear hl
  by_cases ha : ∃ v, Lib.atoiAll t.data.toList = .ok v
  · obtain ⟨v, hv⟩ := ha
    have hi := atoi_i64 hv
    have HV := Lib.hid hv
    have HI := Lib.hid hi
    have hz : (decB v).size ≤ 100 := by
      rcases (by omega : v < 0 ∨ 0 ≤ v) with h | h
      · obtain ⟨k, rfl⟩ : ∃ k : Nat, v = -(k : Int) := ⟨v.natAbs, by omega⟩
        rw [decB_neg k (by omega), ByteArray.size_append]
        have := decN_size 19 k (by have := hi.1; omega)
        show 1 + _ ≤ _
        omega
      · obtain ⟨k, rfl⟩ : ∃ k : Nat, v = (k : Int) := ⟨v.toNat, by omega⟩
        rw [decB_nat]
        have := decN_size 19 k (by have := hi.2; omega)
        omega
    clear hv hi
    by_cases he : decB v = t
    · have e1 : ((decB v).toList == t.toList) = true := by rw [he]; simp
      have HE := Lib.hid he
      clear he
      go_enter Tryd.func40, Tryd.ntmps40
      go_wp2_with fail
      refine (Atoi_yes t v _ hs HV.out).mono ?_
      rintro e w' ⟨rfl, x1, rfl⟩
      go_wp2_with fail
      refine (Itoa_any v _ HI.out.1 HI.out.2 (HL.out.plus x1).tb).mono ?_
      rintro e w' ⟨rfl, x2, rfl⟩
      go_wp2_with fail
      refine bodyPost_ret (v := .tuple #[.int .i64 v, .bool true]) (by simp [results, Tryd.results40, go_sem]) rfl ⟨v, true, rfl, (by repeat (first | exact More.refl _ | apply More.plus | apply More.alloc | apply More.drew | apply More.drewN)), fun _ => ⟨HE.out.symm, HI.out⟩, fun k hk hkt => ⟨decB_inj HI.out.1 HI.out.2 hk.1 hk.2 (HE.out.trans hkt), rfl⟩⟩
    · have e1 := ne_lists he
      have HE := Lib.hid he
      clear he
      go_enter Tryd.func40, Tryd.ntmps40
      go_wp2_with fail
      refine (Atoi_yes t v _ hs HV.out).mono ?_
      rintro e w' ⟨rfl, x1, rfl⟩
      go_wp2_with fail
      refine (Itoa_any v _ HI.out.1 HI.out.2 (HL.out.plus x1).tb).mono ?_
      rintro e w' ⟨rfl, x2, rfl⟩
      go_wp2_with fail
      refine bodyPost_ret (v := .tuple #[.int .i64 0, .bool false]) (by simp [results, Tryd.results40, go_sem]) rfl ⟨0, false, rfl, (by repeat (first | exact More.refl _ | apply More.plus | apply More.alloc | apply More.drew | apply More.drewN)), fun h => by (cases h), fun k hk hkt => absurd ?_ HE.out⟩
      have := atoi_dec hk.1 hk.2
      rw [← hkt, HV.out] at this
      injection this with h3
      rw [h3, hkt]
  · have hno : ∀ v, Lib.atoiAll t.data.toList ≠ .ok v := fun v h => ha ⟨v, h⟩
    have HN := Lib.hid hno
    clear ha hno
    go_enter Tryd.func40, Tryd.ntmps40
    go_wp2_with fail
    refine (Atoi_no t _ hs HL.out HN.out).mono ?_
    rintro e w' ⟨v, q, p, rfl, x1, rfl⟩
    go_wp2_with fail
    refine bodyPost_ret (v := .tuple #[.int .i64 0, .bool false]) (by simp [results, Tryd.results40, go_sem]) rfl ⟨0, false, rfl, (by repeat (first | exact More.refl _ | apply More.plus | apply More.alloc | apply More.drew | apply More.drewN)), fun h => by (cases h), fun k hk hkt => absurd ?_ (HN.out k)⟩
    rw [hkt]
    exact atoi_dec hk.1 hk.2

end Go.Proofs.YtmddcbebaijjkaaDoor

/- Texts split and cut by the library; the program's reading of pairs and settings. -/
namespace Go.Proofs.YtmddcbebaijjkaaDoor
open Go.RowKit
set_option linter.unusedVariables false
set_option linter.unusedSimpArgs false

/-- what splitting a text gives -/
def RetSp (w : World) (xs : List ByteArray) (e : Ending) (w' : World) : Prop := ∃ b, e = .returned (.slice (some ⟨b, 0, none⟩) xs.length xs.length) ∧ w.heap.size ≤ b ∧ w'.heap[b]? = some (.cells (xs.map Value.string).toArray 9 (0, 0)) ∧ More w w'

theorem cutLs_len (c : UInt8) : ∀ s : List UInt8, (cutLs c s).length = s.count c + 1
  | [] => rfl
  | x :: r => by
    have ih := cutLs_len c r
    rw [cutLs]
    split
    · rename_i e; subst e; rw [List.length_cons, ih, List.count_cons_self]
    · rename_i e
      rw [List.count_cons_of_ne (by simpa using e)]
      cases hq : cutLs c r with
      | nil => exact absurd hq (cutLs_pos c r)
      | cons y ys => rw [hq] at ih; simpa using ih

theorem cutB_len (c : UInt8) (s : ByteArray) : (cutB c s).length = s.data.toList.count c + 1 := by
  unfold cutB
  rw [List.length_map, cutLs_len]

theorem cutB_lim (c : UInt8) (s : ByteArray) : (cutB c s).length ≤ s.size + 1 := by
  rw [cutB_len]
  have := List.count_le_length (a := c) (l := s.data.toList)
  have h2 : s.data.toList.length = s.size := Array.length_toList
  omega

theorem cutB_mem {c : UInt8} {s x : ByteArray} (h : x ∈ cutB c s) : x.size ≤ s.size := by
  have e := joinB_cutB c s
  have key : ∀ (xs : List ByteArray), x ∈ xs → x.size ≤ (joinB ⟨#[c]⟩ xs).size := by
    intro xs
    induction xs with
    | nil => intro h; cases h
    | cons y r ih =>
      intro h
      cases r with
      | nil =>
        rw [List.mem_singleton] at h
        subst h
        exact Nat.le_refl _
      | cons z r2 =>
        rw [joinB, ByteArray.size_append, ByteArray.size_append]
        rcases List.mem_cons.1 h with h | h
        · subst h; omega
        · have := ih h; omega
  have := key _ h
  rwa [e] at this

theorem genSplit_one (s : ByteArray) (c : UInt8) (w : World) (hs : s.size ≤ 1048576) :
    Calls Tryd.prog 65 #[.string s, .string ⟨#[c]⟩, .int .i64 0, .int .i64 (-1)] w (fun e w' => e = .returned (.slice (some ⟨w.heap.size, 0, none⟩) (cutB c s).length (cutB c s).length) ∧ w' = w.alloc (.cells ((cutB c s).map Value.string).toArray 9)) := by
  have hcb : Lib.countB s ⟨#[c]⟩ = s.data.toList.count c := Lib.count_one c s.data.toList
  have hlen := cutB_len c s
  have hle := List.count_le_length (a := c) (l := s.data.toList)
  have h2 : s.data.toList.length = s.size := Array.length_toList
  have hsp := cutB_split c s
  have h := Any.strings_genSplit_core Tryd.lays221 (by kernel_rfl) s ⟨#[c]⟩ 0 (-1) (Lib.countB s ⟨#[c]⟩ + 1) w (by omega) (Nat.le_refl 1) (Nat.zero_le _)
    (fun x cc _ => by
      refine (Tryd.strings_Index_one x c _).mono ?_
      rintro e w' ⟨rfl, rfl⟩
      exact ⟨congrArg (fun q : Int => Ending.returned (Value.int .i64 q)) (Lib.index_one x.data.toList c).symm, rfl⟩) (by
      refine (Tryd.strings_Count_one s c w).mono ?_
      rintro e w' ⟨rfl, rfl⟩
      exact ⟨by rw [hcb]; rfl, rfl⟩) (by decide) (by decide) (by rw [if_pos (by decide)]; omega)
  refine h.mono ?_
  rintro e w' ⟨rfl, rfl⟩
  rw [Nat.add_sub_cancel, hsp]
  have h3 : Lib.countB s ⟨#[c]⟩ + 1 = (cutB c s).length := by omega
  rw [h3, Lib.cellsOf_full]
  exact ⟨rfl, rfl⟩

theorem Split_any (s : ByteArray) (c : UInt8) (w : World) (hs : s.size ≤ 1048576) : Calls Tryd.prog 38 #[.string s, .string ⟨#[c]⟩] w (RetSp w (cutB c s)) := by
  have HG := Lib.hid (genSplit_one s c)
  have hl := cutB_lim c s
  generalize cutB c s = xs at *
  go_enter Tryd.func38, Tryd.ntmps38
  go_wp2_with fail
  refine (HG.out w hs).mono ?_
  rintro e w' ⟨rfl, rfl⟩
  go_wp2
  go_ret
  exact ⟨_, rfl, Nat.le_refl _, pushF _ _ _ rfl, (by repeat (first | exact More.refl _ | apply More.plus | apply More.alloc | apply More.drew | apply More.drewN))⟩

theorem idx_cons (c y : UInt8) (r : List UInt8) : Lib.index (y :: r) [c] = if y = c then 0 else if Lib.index r [c] = -1 then -1 else Lib.index r [c] + 1 := by
  rw [Lib.index]
  by_cases e : y = c
  · subst e; simp [List.isPrefixOf]
  · simp [List.isPrefixOf, e, Ne.symm e]

theorem idx_miss {c : UInt8} : ∀ (s : List UInt8), Lib.index s [c] = -1 → ∀ x ∈ s, x ≠ c
  | [], _, x, hx => by cases hx
  | y :: r, h, x, hx => by
    rw [idx_cons] at h
    by_cases e : y = c
    · rw [if_pos e] at h; omega
    · rw [if_neg e] at h
      have hge := Lib.index_ge r [c]
      have hr : Lib.index r [c] = -1 := by
        by_cases h2 : Lib.index r [c] = -1
        · exact h2
        · rw [if_neg h2] at h; omega
      rcases List.mem_cons.1 hx with h3 | h3
      · subst h3; exact e
      · exact idx_miss r hr x h3

theorem idx_hit {c : UInt8} : ∀ (s : List UInt8) (i : Nat), Lib.index s [c] = i → s = s.take i ++ c :: s.drop (i + 1) ∧ ∀ x ∈ s.take i, x ≠ c
  | [], i, h => by
    have : Lib.index [] [c] = -1 := rfl
    rw [this] at h
    omega
  | y :: r, i, h => by
    rw [idx_cons] at h
    by_cases e : y = c
    · rw [if_pos e] at h
      obtain rfl : i = 0 := by omega
      subst e
      exact ⟨by simp, by simp⟩
    · rw [if_neg e] at h
      have hge := Lib.index_ge r [c]
      by_cases h2 : Lib.index r [c] = -1
      · rw [if_pos h2] at h; omega
      · rw [if_neg h2] at h
        obtain ⟨j, rfl⟩ : ∃ j, i = j + 1 := ⟨i - 1, by omega⟩
        obtain ⟨h3, h4⟩ := idx_hit (c := c) r j (by omega)
        refine ⟨?_, ?_⟩
        · rw [List.take_succ_cons, List.drop_succ_cons, List.cons_append, ← h3]
        · intro x hx
          rw [List.take_succ_cons] at hx
          rcases List.mem_cons.1 hx with h5 | h5
          · subst h5; exact e
          · exact h4 x h5

/-- what cutting a text at the first byte c gives -/
def RetCt (w : World) (c : UInt8) (t : ByteArray) (e : Ending) (w' : World) : Prop := ∃ (x y : ByteArray) (ok : Bool), e = .returned (.tuple #[.string x, .string y, .bool ok]) ∧ More w w' ∧ x.size ≤ t.size ∧ y.size ≤ t.size ∧ (ok = true → t = x ++ (⟨#[c]⟩ : ByteArray) ++ y) ∧ ∀ a b : ByteArray, (∀ z ∈ a.data.toList, z ≠ c) → t = a ++ (⟨#[c]⟩ : ByteArray) ++ b → x = a ∧ y = b ∧ ok = true

theorem cut_uniq {c : UInt8} {a a' b b' : List UInt8} (h1 : ∀ z ∈ a, z ≠ c) (h2 : ∀ z ∈ a', z ≠ c) (h : a ++ c :: b = a' ++ c :: b') : a = a' ∧ b = b' := by
  induction a generalizing a' with
  | nil =>
    cases a' with
    | nil => simpa using h
    | cons y r =>
      rw [List.nil_append, List.cons_append] at h
      injection h with h3 h4
      exact absurd h3.symm (h2 y (by simp))
  | cons x r ih =>
    cases a' with
    | nil =>
      rw [List.nil_append, List.cons_append] at h
      injection h with h3 h4
      exact absurd h3 (h1 x (by simp))
    | cons y r2 =>
      rw [List.cons_append, List.cons_append] at h
      injection h with h3 h4
      obtain ⟨h5, h6⟩ := ih (fun z hz => h1 z (by simp [hz])) (fun z hz => h2 z (by simp [hz])) h4
      exact ⟨by rw [h3, h5], h6⟩

theorem ba_ext {a b : ByteArray} (h : a.data.toList = b.data.toList) : a = b := by
  apply ByteArray.ext
  exact Array.toList_inj.1 h

set_option maxRecDepth 100000 in
theorem liteCut_any (t : ByteArray) (c : UInt8) (w : World) (hs : t.size ≤ 1048576) : Calls Tryd.prog 83 #[.string t, .string ⟨#[c]⟩] w (RetCt w c t) := by
  rcases Lib.indexB_cases t ⟨#[c]⟩ with hix | ⟨i, hix, hroom⟩
  · have hm := idx_miss t.data.toList hix
    have HIX := Lib.hid (show Lib.index t.data.toList [c] = -1 from hix)
    have HM := Lib.hid hm
    clear hm hix
    go_enter Tryd.func83, Tryd.ntmps83
    go_wp2_with fail
    refine (Tryd.stringslite_Index_one t c _).mono ?_
    rintro e w' ⟨rfl, rfl⟩
    rw [← Lib.index_one, HIX.out]
    go_wp2_with fail
    refine bodyPost_ret (v := .tuple #[.string t, .string ⟨#[]⟩, .bool false]) (by simp [results, Tryd.results83, go_sem]) rfl ⟨t, ⟨#[]⟩, false, rfl, (by repeat (first | exact More.refl _ | apply More.plus | apply More.alloc | apply More.drew | apply More.drewN)), Nat.le_refl _, Nat.zero_le _, fun h => by (cases h), fun a b ha hab => ?_⟩
    exact absurd rfl (HM.out c (by rw [hab]; simp))
  · have hm := idx_hit t.data.toList i hix
    have HIX := Lib.hid (show Lib.index t.data.toList [c] = (i : Int) from hix)
    have HM := Lib.hid hm
    have hr : i + 1 ≤ t.size := hroom
    have c1 : (0 : Int) ≤ ↑i := by omega
    have c2 : (↑i : Int) ≤ ↑t.size := by omega
    have c3 : (0 : Int) ≤ ↑i + 1 := by omega
    have c4 : (↑i + 1 : Int) ≤ ↑t.size := by omega
    clear hm hix hroom
    go_enter Tryd.func83, Tryd.ntmps83
    go_wp2_with fail
    refine (Tryd.stringslite_Index_one t c _).mono ?_
    rintro e w' ⟨rfl, rfl⟩
    rw [← Lib.index_one, HIX.out]
    have mixed : Tryd.prog.follows .mixedOrders = true := by kernel_rfl
    go_wp2_with fail
    go_region_o
    go_wp2_with fail
    have ex : (t.extract 0 i).data.toList = t.data.toList.take i := by rw [Lib.extract_eq]; simp
    have ey : (t.extract (i + 1) t.size).data.toList = t.data.toList.drop (i + 1) := by
      rw [Lib.extract_eq]
      have hl : t.data.toList.length = t.size := Array.length_toList
      show (List.take (t.size - (i + 1)) (List.drop (i + 1) t.data.toList)) = _
      exact List.take_of_length_le (by rw [List.length_drop]; omega)
    have hd : t = t.extract 0 i ++ (⟨#[c]⟩ : ByteArray) ++ t.extract (i + 1) t.size := by
      apply ba_ext
      have := HM.out.1
      simp only [ByteArray.data_append, Array.toList_append, ex, ey]
      simpa using this
    refine bodyPost_ret (v := .tuple #[.string (t.extract 0 i), .string (t.extract (i + 1) t.size), .bool true]) (by simp [results, Tryd.results83, go_sem]) rfl ⟨_, _, true, rfl, (by repeat (first | exact More.refl _ | apply More.plus | apply More.alloc | apply More.drew | apply More.drewN)), by rw [ByteArray.size_extract]; omega, by rw [ByteArray.size_extract]; omega, fun _ => hd, fun a b ha hab => ?_⟩
    obtain ⟨h5, h6⟩ := cut_uniq (c := c) (a := (t.extract 0 i).data.toList) (a' := a.data.toList) (b := (t.extract (i + 1) t.size).data.toList) (b' := b.data.toList) (by rw [ex]; exact HM.out.2) ha (by
      have h7 := congrArg (fun q : ByteArray => q.data.toList) (hd.symm.trans hab)
      simpa using h7)
    exact ⟨ba_ext h5, ba_ext h6, rfl⟩

theorem Cut_any (t : ByteArray) (c : UInt8) (w : World) (hs : t.size ≤ 1048576) : Calls Tryd.prog 67 #[.string t, .string ⟨#[c]⟩] w (RetCt w c t) := by
  have HC := Lib.hid (liteCut_any t c)
  go_enter Tryd.func67, Tryd.ntmps67
  go_wp2_with fail
  refine (HC.out w hs).mono ?_
  rintro e w' ⟨x, y, ok, rfl, hm, hrest⟩
  have HR := Lib.hid hrest
  have HMo := Lib.hid hm
  clear hrest hm
  go_wp2_with fail
  exact bodyPost_ret (v := .tuple #[.string x, .string y, .bool ok]) (by simp [results, Tryd.results67, go_sem]) rfl ⟨x, y, ok, rfl, HMo.out, HR.out⟩

end Go.Proofs.YtmddcbebaijjkaaDoor

/- The program's reading of pairs and settings. -/
namespace Go.Proofs.YtmddcbebaijjkaaDoor
open Go.RowKit
set_option linter.unusedVariables false
set_option linter.unusedSimpArgs false

theorem Sml.i64 {n : Int} (h : Sml n) : I64 n := ⟨by have := h.1; omega, by have := h.2; omega⟩

theorem decB_ne {n : Int} {c : UInt8} (h1 : c.toNat ≠ 45) (h2 : c.toNat < 48 ∨ 57 < c.toNat) : ∀ z ∈ (decB n).data.toList, z ≠ c := by
  intro z hz e
  subst e
  rcases decB_byte hz with h | h <;> omega

/-- what reading a pair gives -/
def RetPp (w : World) (t : ByteArray) (e : Ending) (w' : World) : Prop := ∃ (n1 n2 : Int) (ok : Bool), e = .returned (.tuple #[.agg #[.int .i64 n1, .int .i64 n2], .bool ok]) ∧ More w w' ∧ (ok = true → t = prT ⟨n1, n2⟩) ∧ ∀ q : Pr, I64 q.p → I64 q.b → t = prT q → n1 = q.p ∧ n2 = q.b ∧ ok = true

theorem pp_yes {t x y : ByteArray} {n1 n2 : Int} {ok1 ok2 : Bool} (h : t = x ++ (⟨#[46]⟩ : ByteArray) ++ y) (h1 : ok1 = true → x = decB n1 ∧ I64 n1) (h2 : ok2 = true → y = decB n2 ∧ I64 n2) (h3 : ok1 = true) (h4 : ok2 = true) : t = prT ⟨n1, n2⟩ := by
  rw [h, (h1 h3).1, (h2 h4).1]; rfl

theorem pp_uni {t x y : ByteArray} {n1 n2 : Int} {ok1 ok2 : Bool} (hc : ∀ a b : ByteArray, (∀ z ∈ a.data.toList, z ≠ 46) → t = a ++ (⟨#[46]⟩ : ByteArray) ++ b → x = a ∧ y = b)
    (g1 : ∀ k, I64 k → x = decB k → n1 = k ∧ ok1 = true) (g2 : ∀ k, I64 k → y = decB k → n2 = k ∧ ok2 = true) : ∀ q : Pr, I64 q.p → I64 q.b → t = prT q → n1 = q.p ∧ n2 = q.b ∧ ok1 = true ∧ ok2 = true := by
  intro q hp hb ht
  obtain ⟨h1, h2⟩ := hc (decB q.p) (decB q.b) (decB_ne (by decide) (by decide)) ht
  obtain ⟨h3, h4⟩ := g1 q.p hp h1
  obtain ⟨h5, h6⟩ := g2 q.b hb h2
  exact ⟨h3, h5, h4, h6⟩

set_option maxRecDepth 100000 in
set_option maxHeartbeats 2000000 in
theorem parsePair_any (t : ByteArray) (w : World) (hs : t.size ≤ 1048576) (hl : Lw w) : Calls Tryd.prog 41 #[.string t] w (RetPp w t) := by
  have HL := Lib.hid hl
  clear hl
  go_enter Tryd.func41, Tryd.ntmps41
  go_wp2_with fail
  refine (Cut_any t 46 _ hs).mono ?_
  rintro e w' ⟨x, y, ok, rfl, ⟨x0, rfl⟩, hx, hy, hc1, hc2⟩
  have HC1 := Lib.hid hc1
  have HC2 := Lib.hid hc2
  clear hc1 hc2
  cases ok
  · go_wp2_with fail
    refine bodyPost_ret (v := .tuple #[.agg #[.int .i64 0, .int .i64 0], .bool false]) (by simp [results, Tryd.results41, go_sem, ↓IntWalk.iteOmega]) rfl ⟨0, 0, false, rfl, below_more (by repeat (first | exact Below.refl _ _ | refine below_plus ?_ (by first | omega | (simp <;> omega)) _ | refine Below.alloc ?_ (by first | omega | (simp <;> omega)) _ | refine below_patch ?_ (by omega) _ | refine Below.drew ?_)), fun h => by (cases h), fun q hp hb ht => ?_⟩
    obtain ⟨_, _, h3⟩ := HC2.out (decB q.p) (decB q.b) (decB_ne (by decide) (by decide)) ht
    cases h3
  · have HE := Lib.hid (HC1.out rfl)
    have HC3 := Lib.hid (fun a b h1 h2 => (⟨(HC2.out a b h1 h2).1, (HC2.out a b h1 h2).2.1⟩ : x = a ∧ y = b))
    clear HC1 HC2
    go_wp2_with fail
    refine (parseNumber_any x _ (by omega) (by repeat (first | (with_reducible exact HL.out) | (with_reducible apply lwq_seq) | (with_reducible apply Lw.plus) | (with_reducible apply Lw.alloc) | (with_reducible apply Lw.drew)))).mono ?_
    rintro e w' ⟨n1, ok1, rfl, ⟨x1, rfl⟩, h1, g1⟩
    have H1 := Lib.hid h1
    have G1 := Lib.hid g1
    clear h1 g1
    go_wp2_with fail
    refine (parseNumber_any y _ (by omega) (HL.out.below (by repeat (first | exact Below.refl _ _ | refine below_plus ?_ (by first | omega | (simp <;> omega)) _ | refine Below.alloc ?_ (by first | omega | (simp <;> omega)) _ | refine below_patch ?_ (by omega) _ | refine Below.drew ?_)))).mono ?_
    rintro e w' ⟨n2, ok2, rfl, ⟨x2, rfl⟩, h2, g2⟩
    have H2 := Lib.hid h2
    have G2 := Lib.hid g2
    clear h2 g2
    have HP := Lib.hid (fun a b => pp_yes (ok1 := ok1) (ok2 := ok2) HE.out H1.out H2.out a b)
    have HU := Lib.hid (pp_uni HC3.out G1.out G2.out)
    clear HC3 G1 G2 H1 H2
    cases ok1
    · go_wp2_with fail
      exact bodyPost_ret (v := .tuple #[.agg #[.int .i64 n1, .int .i64 n2], .bool false]) (by simp [results, Tryd.results41, go_sem, ↓IntWalk.iteOmega]) rfl ⟨n1, n2, false, rfl, below_more (by repeat (first | exact Below.refl _ _ | refine below_plus ?_ (by first | omega | (simp <;> omega)) _ | refine Below.alloc ?_ (by first | omega | (simp <;> omega)) _ | refine below_patch ?_ (by omega) _ | refine Below.drew ?_)), fun h => by (cases h), fun q hp hb ht => by obtain ⟨_, _, h3, _⟩ := HU.out q hp hb ht; cases h3⟩
    · cases ok2
      · go_wp2_with fail
        exact bodyPost_ret (v := .tuple #[.agg #[.int .i64 n1, .int .i64 n2], .bool false]) (by simp [results, Tryd.results41, go_sem, ↓IntWalk.iteOmega]) rfl ⟨n1, n2, false, rfl, below_more (by repeat (first | exact Below.refl _ _ | refine below_plus ?_ (by first | omega | (simp <;> omega)) _ | refine Below.alloc ?_ (by first | omega | (simp <;> omega)) _ | refine below_patch ?_ (by omega) _ | refine Below.drew ?_)), fun h => by (cases h), fun q hp hb ht => by obtain ⟨_, _, _, h3⟩ := HU.out q hp hb ht; cases h3⟩
      · go_wp2_with fail
        exact bodyPost_ret (v := .tuple #[.agg #[.int .i64 n1, .int .i64 n2], .bool true]) (by simp [results, Tryd.results41, go_sem, ↓IntWalk.iteOmega]) rfl ⟨n1, n2, true, rfl, below_more (by repeat (first | exact Below.refl _ _ | refine below_plus ?_ (by first | omega | (simp <;> omega)) _ | refine Below.alloc ?_ (by first | omega | (simp <;> omega)) _ | refine below_patch ?_ (by omega) _ | refine Below.drew ?_)), fun _ => (by first | exact HP.out trivial trivial | exact HP.out rfl rfl | exact HP.out), fun q hp hb ht => by obtain ⟨h1, h2, _, _⟩ := HU.out q hp hb ht; exact ⟨h1, h2, rfl⟩⟩

end Go.Proofs.YtmddcbebaijjkaaDoor

/- The program's reading of settings. -/
namespace Go.Proofs.YtmddcbebaijjkaaDoor
open Go.RowKit
set_option linter.unusedVariables false
set_option linter.unusedSimpArgs false

theorem joinB_three (s a b c : ByteArray) : joinB s [a, b, c] = a ++ s ++ b ++ s ++ c := by
  show a ++ s ++ (b ++ s ++ c) = _
  simp only [ByteArray.append_assoc]

/-- an order's text -/
def ordT (o : Int) : ByteArray := if o = 1 then ⟨#[104, 105, 103, 104]⟩ else ⟨#[108, 111, 119]⟩

theorem setT_join (o l m : Int) : setT o l m = joinB ⟨#[32]⟩ [ordT o, decB l, decB m] := by rw [joinB_three]; rfl

theorem setT_cut (o l m : Int) : cutB 32 (setT o l m) = [ordT o, decB l, decB m] := by
  rw [setT_join]
  refine cutB_joinB (by simp) (fun x hx => ?_)
  simp only [List.mem_cons, List.not_mem_nil, or_false] at hx
  rcases hx with rfl | rfl | rfl
  · intro y hy
    unfold ordT at hy
    split at hy
    · have : ∀ y ∈ [(104 : UInt8), 105, 103, 104], y ≠ 32 := by decide
      exact this y hy
    · have : ∀ y ∈ [(108 : UInt8), 111, 119], y ≠ 32 := by decide
      exact this y hy
  · exact decB_ne (by decide) (by decide)
  · exact decB_ne (by decide) (by decide)

theorem three_of {α : Type} : ∀ {xs : List α}, xs.length = 3 → ∃ a b c, xs = [a, b, c]
  | [a, b, c], _ => ⟨a, b, c, rfl⟩

theorem four_of {α : Type} : ∀ {xs : List α}, xs.length = 4 → ∃ a b c d, xs = [a, b, c, d]
  | [a, b, c, d], _ => ⟨a, b, c, d, rfl⟩

/-- what reading a setting gives -/
def RetPs (w : World) (t : ByteArray) (e : Ending) (w' : World) : Prop := ∃ (o l m : Int) (ok : Bool), e = .returned (.tuple #[.agg #[.int .i64 o, .int .i64 l, .int .i64 m], .bool ok]) ∧ More w w' ∧ (ok = true → sv o l m = true ∧ t = setT o l m) ∧ ∀ o' l' m', sv o' l' m' = true → t = setT o' l' m' → o = o' ∧ l = l' ∧ m = m' ∧ ok = true

theorem ps_hit {t : ByteArray} {f0 f1 f2 : ByteArray} (hx : cutB 32 t = [f0, f1, f2]) : (∀ o l m, t = setT o l m → f0 = ordT o ∧ f1 = decB l ∧ f2 = decB m) ∧ t = joinB ⟨#[32]⟩ [f0, f1, f2] := by
  refine ⟨fun o l m ht => ?_, by rw [← hx, joinB_cutB]⟩
  rw [ht, setT_cut] at hx
  injection hx with h1 h2
  injection h2 with h2 h3
  injection h3 with h3 h4
  exact ⟨h1.symm, h2.symm, h3.symm⟩

theorem ps_miss {t : ByteArray} (hx : (cutB 32 t).length ≠ 3) (o l m : Int) : t ≠ setT o l m := by
  intro h
  rw [h, setT_cut] at hx
  exact hx rfl

theorem sv_i64 {o l m : Int} (h : sv o l m = true) : I64 l ∧ I64 m := by
  obtain ⟨_, h1, h2, h3, h4⟩ := sv_iff.1 h
  exact ⟨⟨by omega, by omega⟩, ⟨by omega, by omega⟩⟩

theorem ps_bad {t f0 f1 f2 : ByteArray} (hx : cutB 32 t = [f0, f1, f2]) (h : f0 ≠ ⟨#[108, 111, 119]⟩) (h2 : f0 ≠ ⟨#[104, 105, 103, 104]⟩) (o l m : Int) : t ≠ setT o l m := by
  intro ht
  obtain ⟨h3, _⟩ := (ps_hit hx).1 o l m ht
  unfold ordT at h3
  split at h3
  · exact h2 h3
  · exact h h3

theorem ps_uni {t f1 f2 : ByteArray} {k n1 n2 : Int} {ok1 ok2 : Bool} (hk : k = 0 ∨ k = 1) (hx : cutB 32 t = [ordT k, f1, f2]) (h1 : ok1 = true → f1 = decB n1 ∧ I64 n1) (h2 : ok2 = true → f2 = decB n2 ∧ I64 n2)
    (g1 : ∀ k, I64 k → f1 = decB k → n1 = k ∧ ok1 = true) (g2 : ∀ k, I64 k → f2 = decB k → n2 = k ∧ ok2 = true) :
    (ok1 = true → ok2 = true → t = setT k n1 n2) ∧ ∀ o l m, sv o l m = true → t = setT o l m → k = o ∧ n1 = l ∧ n2 = m ∧ ok1 = true ∧ ok2 = true := by
  obtain ⟨ha, hb⟩ := ps_hit hx
  refine ⟨fun a b => ?_, fun o l m hs ht => ?_⟩
  · rw [hb, (h1 a).1, (h2 b).1, setT_join]
  · obtain ⟨e1, e2, e3⟩ := ha o l m ht
    obtain ⟨i1, i2⟩ := sv_i64 hs
    obtain ⟨h3, h4⟩ := g1 l i1 e2
    obtain ⟨h5, h6⟩ := g2 m i2 e3
    refine ⟨?_, h3, h5, h4, h6⟩
    have ho := (sv_iff.1 hs).1
    unfold ordT at e1
    rcases hk with rfl | rfl <;> rcases ho with rfl | rfl <;> first | rfl | (exfalso; exact absurd e1 (by decide))



set_option maxRecDepth 100000 in
set_option maxHeartbeats 4000000 in
theorem ParseSetting_any (t : ByteArray) (w : World) (hs : t.size ≤ 1048576) (hl : Lw w) : Calls Tryd.prog 39 #[.string t] w (RetPs w t) := by
  have HL := Lib.hid hl
  clear hl
  have hlim := cutB_lim 32 t
  have hmem := fun x => cutB_mem (c := 32) (s := t) (x := x)
  obtain ⟨xs, hxs⟩ : ∃ xs, cutB 32 t = xs := ⟨_, rfl⟩
  rw [hxs] at hlim hmem
  have HX := Lib.hid hxs
  have HSP := Lib.hid (Split_any t 32)
  rw [hxs] at HSP
  clear hxs
  go_enter Tryd.func39, Tryd.ntmps39
  go_wp2_with fail
  refine (HSP.out _ hs).mono ?_
  rintro e X ⟨b, rfl, hb0, hb, hm⟩
  have hm : More _ X := hm
  simp at hb0
  have HZ := Lib.hid (blk_mo (pushF w _ _ rfl) hm)
  have HB := Lib.hid (((Below.refl w.heap.size w).alloc (Nat.le_refl _) _).trans ((more_below hm).mono (by simp)))
  have rz := cell_of HZ.out
  have fz := free_of HZ.out
  have sz := fun i v => setCell_patch HZ.out i v
  have hX1 : w.heap.size < X.heap.size := (Array.getElem?_eq_some_iff.1 HZ.out).1
  have rb := cell_of hb
  have hX2 : b < X.heap.size := (Array.getElem?_eq_some_iff.1 hb).1
  clear hm hb
  by_cases h3 : xs.length = 3
  · obtain ⟨f0, f1, f2, rfl⟩ := three_of h3
    have hf0 := hmem f0 (by simp)
    have hf1 := hmem f1 (by simp)
    have hf2 := hmem f2 (by simp)
    clear hmem HSP h3
    simp only [List.map_cons, List.map_nil] at rb
    by_cases e0 : f0 = ⟨#[108, 111, 119]⟩
    · subst e0
      have hi1 : f1.size ≤ 1048576 := by omega
      have hi2 : f2.size ≤ 1048576 := by omega
      go_wp2_with fail
      refine (parseNumber_any f1 _ hi1 (HL.out.below (by repeat (first | (with_reducible exact HB.out) | refine below_plus ?_ (by first | omega | (simp <;> omega)) _ | refine Below.alloc ?_ (by first | omega | (simp <;> omega)) _ | refine below_patch ?_ (by omega) _ | refine Below.drew ?_)))).mono ?_
      rintro e w' ⟨n1, ok1, rfl, ⟨x1, rfl⟩, h1, g1⟩
      have H1 := Lib.hid h1
      have G1 := Lib.hid g1
      clear h1 g1
      go_wp2_with fail
      refine (parseNumber_any f2 _ hi2 (HL.out.below (by repeat (first | (with_reducible exact HB.out) | refine below_plus ?_ (by first | omega | (simp <;> omega)) _ | refine Below.alloc ?_ (by first | omega | (simp <;> omega)) _ | refine below_patch ?_ (by omega) _ | refine Below.drew ?_)))).mono ?_
      rintro e w' ⟨n2, ok2, rfl, ⟨x2, rfl⟩, h2, g2⟩
      have HU := Lib.hid (ps_uni (k := 0) (by omega) HX.out H1.out h2 G1.out g2)
      clear h2 g2 H1 G1
      cases ok1
      · go_wp2_with fail
        exact bodyPost_ret (v := .tuple #[.agg #[.int .i64 0, .int .i64 0, .int .i64 0], .bool false]) (by simp [results, Tryd.results39, go_sem, ↓IntWalk.iteOmega]) rfl ⟨0, 0, 0, false, rfl, below_more (by repeat (first | (with_reducible exact HB.out) | refine below_plus ?_ (by first | omega | (simp <;> omega)) _ | refine Below.alloc ?_ (by first | omega | (simp <;> omega)) _ | refine below_patch ?_ (by omega) _ | refine Below.drew ?_)), fun h => by (cases h), fun o l m h1 h2 => by obtain ⟨_, _, _, h3, _⟩ := HU.out.2 o l m h1 h2; cases h3⟩
      cases ok2
      · go_wp2_with fail
        exact bodyPost_ret (v := .tuple #[.agg #[.int .i64 0, .int .i64 0, .int .i64 0], .bool false]) (by simp [results, Tryd.results39, go_sem, ↓IntWalk.iteOmega]) rfl ⟨0, 0, 0, false, rfl, below_more (by repeat (first | (with_reducible exact HB.out) | refine below_plus ?_ (by first | omega | (simp <;> omega)) _ | refine Below.alloc ?_ (by first | omega | (simp <;> omega)) _ | refine below_patch ?_ (by omega) _ | refine Below.drew ?_)), fun h => by (cases h), fun o l m h1 h2 => by obtain ⟨_, _, _, _, h3⟩ := HU.out.2 o l m h1 h2; cases h3⟩
      have HE := Lib.hid (HU.out.1 rfl rfl)
      have HV := Lib.hid (fun o l m h1 h2 => (⟨(HU.out.2 o l m h1 h2).1, (HU.out.2 o l m h1 h2).2.1, (HU.out.2 o l m h1 h2).2.2.1⟩ : (0 : Int) = o ∧ n1 = l ∧ n2 = m))
      clear HU
      go_wp2_with fail
      refine (SettingValid_any 0 n1 n2 _).mono ?_
      rintro e w' ⟨rfl, x3, rfl⟩
      cases hs : sv 0 n1 n2
      · go_wp2_with fail
        exact bodyPost_ret (v := .tuple #[.agg #[.int .i64 0, .int .i64 0, .int .i64 0], .bool false]) (by simp [results, Tryd.results39, go_sem, ↓IntWalk.iteOmega]) rfl ⟨0, 0, 0, false, rfl, below_more (by repeat (first | (with_reducible exact HB.out) | refine below_plus ?_ (by first | omega | (simp <;> omega)) _ | refine Below.alloc ?_ (by first | omega | (simp <;> omega)) _ | refine below_patch ?_ (by omega) _ | refine Below.drew ?_)), fun h => by (cases h), fun o l m h1 h2 => by obtain ⟨rfl, rfl, rfl⟩ := HV.out o l m h1 h2; rw [hs] at h1; cases h1⟩
      · have HS := Lib.hid hs
        clear hs
        go_wp2_with fail
        exact bodyPost_ret (v := .tuple #[.agg #[.int .i64 0, .int .i64 n1, .int .i64 n2], .bool true]) (by simp [results, Tryd.results39, go_sem, ↓IntWalk.iteOmega]) rfl ⟨0, n1, n2, true, rfl, below_more (by repeat (first | (with_reducible exact HB.out) | refine below_plus ?_ (by first | omega | (simp <;> omega)) _ | refine Below.alloc ?_ (by first | omega | (simp <;> omega)) _ | refine below_patch ?_ (by omega) _ | refine Below.drew ?_)), fun _ => ⟨HS.out, HE.out⟩, fun o l m h1 h2 => ⟨(HV.out o l m h1 h2).1, (HV.out o l m h1 h2).2.1, (HV.out o l m h1 h2).2.2, rfl⟩⟩
    · by_cases e1 : f0 = ⟨#[104, 105, 103, 104]⟩
      · subst e1
        have hi1 : f1.size ≤ 1048576 := by omega
        have hi2 : f2.size ≤ 1048576 := by omega
        go_wp2_with fail
        refine (parseNumber_any f1 _ hi1 (HL.out.below (by repeat (first | (with_reducible exact HB.out) | refine below_plus ?_ (by first | omega | (simp <;> omega)) _ | refine Below.alloc ?_ (by first | omega | (simp <;> omega)) _ | refine below_patch ?_ (by omega) _ | refine Below.drew ?_)))).mono ?_
        rintro e w' ⟨n1, ok1, rfl, ⟨x1, rfl⟩, h1, g1⟩
        have H1 := Lib.hid h1
        have G1 := Lib.hid g1
        clear h1 g1
        go_wp2_with fail
        refine (parseNumber_any f2 _ hi2 (HL.out.below (by repeat (first | (with_reducible exact HB.out) | refine below_plus ?_ (by first | omega | (simp <;> omega)) _ | refine Below.alloc ?_ (by first | omega | (simp <;> omega)) _ | refine below_patch ?_ (by omega) _ | refine Below.drew ?_)))).mono ?_
        rintro e w' ⟨n2, ok2, rfl, ⟨x2, rfl⟩, h2, g2⟩
        have HU := Lib.hid (ps_uni (k := 1) (by omega) HX.out H1.out h2 G1.out g2)
        clear h2 g2 H1 G1
        cases ok1
        · go_wp2_with fail
          exact bodyPost_ret (v := .tuple #[.agg #[.int .i64 0, .int .i64 0, .int .i64 0], .bool false]) (by simp [results, Tryd.results39, go_sem, ↓IntWalk.iteOmega]) rfl ⟨0, 0, 0, false, rfl, below_more (by repeat (first | (with_reducible exact HB.out) | refine below_plus ?_ (by first | omega | (simp <;> omega)) _ | refine Below.alloc ?_ (by first | omega | (simp <;> omega)) _ | refine below_patch ?_ (by omega) _ | refine Below.drew ?_)), fun h => by (cases h), fun o l m h1 h2 => by obtain ⟨_, _, _, h3, _⟩ := HU.out.2 o l m h1 h2; cases h3⟩
        cases ok2
        · go_wp2_with fail
          exact bodyPost_ret (v := .tuple #[.agg #[.int .i64 0, .int .i64 0, .int .i64 0], .bool false]) (by simp [results, Tryd.results39, go_sem, ↓IntWalk.iteOmega]) rfl ⟨0, 0, 0, false, rfl, below_more (by repeat (first | (with_reducible exact HB.out) | refine below_plus ?_ (by first | omega | (simp <;> omega)) _ | refine Below.alloc ?_ (by first | omega | (simp <;> omega)) _ | refine below_patch ?_ (by omega) _ | refine Below.drew ?_)), fun h => by (cases h), fun o l m h1 h2 => by obtain ⟨_, _, _, _, h3⟩ := HU.out.2 o l m h1 h2; cases h3⟩
        have HE := Lib.hid (HU.out.1 rfl rfl)
        have HV := Lib.hid (fun o l m h1 h2 => (⟨(HU.out.2 o l m h1 h2).1, (HU.out.2 o l m h1 h2).2.1, (HU.out.2 o l m h1 h2).2.2.1⟩ : (1 : Int) = o ∧ n1 = l ∧ n2 = m))
        clear HU
        go_wp2_with fail
        refine (SettingValid_any 1 n1 n2 _).mono ?_
        rintro e w' ⟨rfl, x3, rfl⟩
        cases hs : sv 1 n1 n2
        · go_wp2_with fail
          exact bodyPost_ret (v := .tuple #[.agg #[.int .i64 0, .int .i64 0, .int .i64 0], .bool false]) (by simp [results, Tryd.results39, go_sem, ↓IntWalk.iteOmega]) rfl ⟨0, 0, 0, false, rfl, below_more (by repeat (first | (with_reducible exact HB.out) | refine below_plus ?_ (by first | omega | (simp <;> omega)) _ | refine Below.alloc ?_ (by first | omega | (simp <;> omega)) _ | refine below_patch ?_ (by omega) _ | refine Below.drew ?_)), fun h => by (cases h), fun o l m h1 h2 => by obtain ⟨rfl, rfl, rfl⟩ := HV.out o l m h1 h2; rw [hs] at h1; cases h1⟩
        · have HS := Lib.hid hs
          clear hs
          go_wp2_with fail
          exact bodyPost_ret (v := .tuple #[.agg #[.int .i64 1, .int .i64 n1, .int .i64 n2], .bool true]) (by simp [results, Tryd.results39, go_sem, ↓IntWalk.iteOmega]) rfl ⟨1, n1, n2, true, rfl, below_more (by repeat (first | (with_reducible exact HB.out) | refine below_plus ?_ (by first | omega | (simp <;> omega)) _ | refine Below.alloc ?_ (by first | omega | (simp <;> omega)) _ | refine below_patch ?_ (by omega) _ | refine Below.drew ?_)), fun _ => ⟨HS.out, HE.out⟩, fun o l m h1 h2 => ⟨(HV.out o l m h1 h2).1, (HV.out o l m h1 h2).2.1, (HV.out o l m h1 h2).2.2, rfl⟩⟩
      · have HN := Lib.hid (ps_bad HX.out e0 e1)
        have q0 : (f0.toList == [108, 111, 119]) = false := by have := ne_lists e0; rwa [ByteArray.toList_eq ⟨#[108, 111, 119]⟩] at this
        have q1 : (f0.toList == [104, 105, 103, 104]) = false := by have := ne_lists e1; rwa [ByteArray.toList_eq ⟨#[104, 105, 103, 104]⟩] at this
        go_wp2_with fail
        exact bodyPost_ret (v := .tuple #[.agg #[.int .i64 0, .int .i64 0, .int .i64 0], .bool false]) (by simp [results, Tryd.results39, go_sem, ↓IntWalk.iteOmega]) rfl ⟨0, 0, 0, false, rfl, below_more (by repeat (first | (with_reducible exact HB.out) | refine below_plus ?_ (by first | omega | (simp <;> omega)) _ | refine Below.alloc ?_ (by first | omega | (simp <;> omega)) _ | refine below_patch ?_ (by omega) _ | refine Below.drew ?_)), fun h => by (cases h), fun o l m h1 h2 => absurd h2 (HN.out o l m)⟩
  · have v3 : ((xs.length : Int) == 3) = false := by rw [beq_eq_false_iff_ne]; omega
    have HN := Lib.hid (ps_miss (t := t) (by rw [HX.out]; exact h3))
    go_wp2_with fail
    exact bodyPost_ret (v := .tuple #[.agg #[.int .i64 0, .int .i64 0, .int .i64 0], .bool false]) (by simp [results, Tryd.results39, go_sem, ↓IntWalk.iteOmega]) rfl ⟨0, 0, 0, false, rfl, below_more (by repeat (first | (with_reducible exact HB.out) | refine below_plus ?_ (by first | omega | (simp <;> omega)) _ | refine Below.alloc ?_ (by first | omega | (simp <;> omega)) _ | refine below_patch ?_ (by omega) _ | refine Below.drew ?_)), fun h => by (cases h), fun o l m h1 h2 => absurd h2 (HN.out o l m)⟩

end Go.Proofs.YtmddcbebaijjkaaDoor

/- Plain: the text of what is known, cut into its parts. -/
namespace Go.Proofs.YtmddcbebaijjkaaDoor
open Go.RowKit
set_option linter.unusedVariables false
set_option linter.unusedSimpArgs false

theorem joinB_in {s : ByteArray} {x : UInt8} : ∀ {xs : List ByteArray}, x ∈ (joinB s xs).data.toList → x ∈ s.data.toList ∨ ∃ y ∈ xs, x ∈ y.data.toList
  | [], h => by simp [joinB] at h
  | [y], h => .inr ⟨y, by simp, h⟩
  | y :: z :: r, h => by
    rw [joinB] at h
    simp only [ByteArray.data_append, Array.toList_append, List.mem_append] at h
    rcases h with (h | h) | h
    · exact .inr ⟨y, by simp, h⟩
    · exact .inl h
    · rcases joinB_in h with h | ⟨u, hu, h⟩
      · exact .inl h
      · exact .inr ⟨u, by simp at hu ⊢; right; exact hu, h⟩

theorem joinB_ge {s x : ByteArray} : ∀ {xs : List ByteArray}, x ∈ xs → x.size ≤ (joinB s xs).size
  | [y], h => by rw [List.mem_singleton] at h; subst h; exact Nat.le_refl _
  | y :: z :: r, h => by
    rw [joinB, ByteArray.size_append, ByteArray.size_append]
    rcases List.mem_cons.1 h with h | h
    · subst h; omega
    · have := joinB_ge (s := s) h; omega

theorem decB_pos (n : Int) : 1 ≤ (decB n).size := by
  have hd := fun k : Nat => show 1 ≤ (Lib.decDigits k).length by
    have := dig_ne k
    cases h : Lib.decDigits k with
    | nil => exact absurd h this
    | cons a r => simp
  show 1 ≤ (Lib.itoa n).toArray.size
  rw [List.size_toArray]
  unfold Lib.itoa
  split
  · simp
  · exact hd n.toNat

theorem prT_pos (p : Pr) : 3 ≤ (prT p).size := by
  unfold prT
  rw [ByteArray.size_append, ByteArray.size_append]
  have := decB_pos p.p
  have := decB_pos p.b
  show _ ≤ _ + 1 + _
  omega

theorem prT_byte {p : Pr} {x : UInt8} (h : x ∈ (prT p).data.toList) : x.toNat = 45 ∨ x.toNat = 46 ∨ (48 ≤ x.toNat ∧ x.toNat ≤ 57) := by
  unfold prT at h
  simp only [ByteArray.data_append, Array.toList_append, List.mem_append] at h
  rcases h with (h | h) | h
  · rcases decB_byte h with h | h
    · exact .inl h
    · exact .inr (.inr h)
  · have : x = 46 := by simpa using h
    subst this
    exact .inr (.inl rfl)
  · rcases decB_byte h with h | h
    · exact .inl h
    · exact .inr (.inr h)

/-- the pairs' text -/
def prsJ (ps : List Pr) : ByteArray := joinB ⟨#[44]⟩ (ps.map prT)

theorem prs_cut {ps : List Pr} (h : ps ≠ []) : cutB 44 (prsJ ps) = ps.map prT := by
  refine cutB_joinB (by simpa using h) (fun x hx y hy e => ?_)
  obtain ⟨p, _, rfl⟩ := List.mem_map.1 hx
  subst e
  have e4 : (44 : UInt8).toNat = 44 := rfl
  have := prT_byte hy
  rw [e4] at this
  omega

theorem prsJ_ge {ps : List Pr} (h : ps ≠ []) : 3 ≤ (prsJ ps).size := by
  cases ps with
  | nil => exact absurd rfl h
  | cons p r =>
    have h1 := joinB_ge (s := ⟨#[44]⟩) (x := prT p) (xs := (p :: r).map prT) (by simp)
    have := prT_pos p
    unfold prsJ
    omega

theorem orD_prs (ps : List Pr) : (ps = [] → orD (prsJ ps) = ⟨#[45]⟩) ∧ (ps ≠ [] → orD (prsJ ps) = prsJ ps ∧ prsJ ps ≠ ⟨#[45]⟩) := by
  refine ⟨fun h => by subst h; rfl, fun h => ?_⟩
  have := prsJ_ge h
  refine ⟨orD_some (by omega), fun e => ?_⟩
  rw [e] at this
  exact absurd this (by decide)

theorem prs_byte {ps : List Pr} {x : UInt8} (h : x ∈ (orD (prsJ ps)).data.toList) : x.toNat ≠ 59 := by
  by_cases h0 : ps = []
  · rw [(orD_prs ps).1 h0] at h
    have : x = 45 := by simpa using h
    subst this
    decide
  · rw [((orD_prs ps).2 h0).1] at h
    rcases joinB_in h with h | ⟨y, hy, h⟩
    · have : x = 44 := by simpa using h
      subst this
      decide
    · obtain ⟨p, _, rfl⟩ := List.mem_map.1 hy
      have := prT_byte h
      omega

theorem setT_byte {o l m : Int} {x : UInt8} (h : x ∈ (setT o l m).data.toList) : x.toNat ≠ 59 := by
  rw [setT_join] at h
  rcases joinB_in h with h | ⟨y, hy, h⟩
  · have : x = 32 := by simpa using h
    subst this
    decide
  · simp only [List.mem_cons, List.not_mem_nil, or_false] at hy
    rcases hy with rfl | rfl | rfl
    · unfold ordT at h
      split at h
      · have : ∀ y ∈ [(104 : UInt8), 105, 103, 104], y.toNat ≠ 59 := by decide
        exact this x h
      · have : ∀ y ∈ [(108 : UInt8), 111, 119], y.toNat ≠ 59 := by decide
        exact this x h
    · have := decB_byte h; omega
    · have := decB_byte h; omega

theorem knT_cut (o l m : Int) (ps : List Pr) (b la : Int) : cutB 59 (knT o l m ps b la) = [setT o l m, decB b, decB la, orD (prsJ ps)] := by
  refine cutB_joinB (by simp) (fun x hx y hy e => ?_)
  subst e
  have e5 : (59 : UInt8).toNat = 59 := rfl
  simp only [List.mem_cons, List.not_mem_nil, or_false] at hx
  rcases hx with rfl | rfl | rfl | rfl
  · exact setT_byte hy rfl
  · have := decB_byte hy; omega
  · have := decB_byte hy; omega
  · exact prs_byte hy rfl

theorem kn_parts {t f0 f1 f2 f3 : ByteArray} (hx : cutB 59 t = [f0, f1, f2, f3]) {o l m : Int} {ps : List Pr} {b la : Int} (ht : t = knT o l m ps b la) : f0 = setT o l m ∧ f1 = decB b ∧ f2 = decB la ∧ f3 = orD (prsJ ps) := by
  rw [ht, knT_cut] at hx
  injection hx with h1 h2
  injection h2 with h2 h3
  injection h3 with h3 h4
  injection h4 with h4 h5
  exact ⟨h1.symm, h2.symm, h3.symm, h4.symm⟩

theorem kn_miss {t : ByteArray} (hx : (cutB 59 t).length ≠ 4) (o l m : Int) (ps : List Pr) (b la : Int) : t ≠ knT o l m ps b la := by
  intro h
  rw [h, knT_cut] at hx
  exact hx rfl

theorem kn_back {t f0 f1 f2 f3 : ByteArray} (hx : cutB 59 t = [f0, f1, f2, f3]) : t = joinB ⟨#[59]⟩ [f0, f1, f2, f3] := by rw [← hx, joinB_cutB]

theorem KV.all64 {o l m : Int} {ps : List Pr} {base last : Int} (h : KV o l m ps base last) : I64 base ∧ I64 last ∧ ∀ (i : Nat) (p : Pr), ps[i]? = some p → I64 p.p ∧ I64 p.b := by
  obtain ⟨_, h1, h2, h3⟩ := h.nums
  exact ⟨h1.i64, h2.i64, fun i p hp => ⟨(h3 i p hp).1.i64, (h3 i p hp).2.i64⟩⟩

/-- what reading what is known gives -/
def RetPk (w : World) (t : ByteArray) (e : Ending) (w' : World) : Prop := ∃ (o l m : Int) (ps : List Pr) (b la : Int) (ok : Bool),
  RetO w (fun a0 c0 => .tuple #[.agg #[.int .i64 o, .int .i64 l, .int .i64 m, .slice a0 ps.length c0, .int .i64 b, .int .i64 la], .bool ok]) ps e w' ∧
  (ok = true → kvb o l m ps b la = true ∧ t = knT o l m ps b la) ∧ (ok = false → o = 0 ∧ l = 0 ∧ m = 0 ∧ ps = [] ∧ b = 0 ∧ la = 0) ∧
  ∀ (o' l' m' : Int) (ps' : List Pr) (b' la' : Int), kvb o' l' m' ps' b' la' = true → t = knT o' l' m' ps' b' la' → ok = true ∧ o = o' ∧ l = l' ∧ m = m' ∧ ps = ps' ∧ b = b' ∧ la = la'

/-- texts read as pairs, the first k of them -/
structure Ptx (tx : List ByteArray) (ys : List Pr) (k : Nat) : Prop where
  len : ys.length = k
  txt : tx.take k = ys.map prT
  uni : ∀ ps' : List Pr, (∀ (i : Nat) (p : Pr), ps'[i]? = some p → I64 p.p ∧ I64 p.b) → tx = ps'.map prT → ys = ps'.take k

theorem Ptx.zero (tx : List ByteArray) : Ptx tx [] 0 := ⟨rfl, rfl, fun _ _ _ => by simp⟩

theorem Ptx.nx {tx : List ByteArray} {ys : List Pr} {k : Nat} (h : Ptx tx ys k) {u : ByteArray} (hu : tx[k]? = some u) {n1 n2 : Int} (h1 : u = prT ⟨n1, n2⟩) (h2 : ∀ q : Pr, I64 q.p → I64 q.b → u = prT q → n1 = q.p ∧ n2 = q.b) : Ptx tx (ys ++ [⟨n1, n2⟩]) (k + 1) := by
  refine ⟨by rw [List.length_append, h.len]; rfl, ?_, fun ps' hp ht => ?_⟩
  · rw [take_snoc hu, List.map_append, h.txt, h1]; rfl
  · have h3 := h.uni ps' hp ht
    rw [ht, List.getElem?_map] at hu
    cases hq : ps'[k]? with
    | none => rw [hq] at hu; cases hu
    | some q =>
      rw [hq] at hu
      injection hu with hu
      obtain ⟨h4, h5⟩ := hp k q hq
      obtain ⟨h6, h7⟩ := h2 q h4 h5 hu.symm
      rw [take_snoc hq, h3, h6, h7]

/-- a text that is no pair -/
theorem ptx_bad {tx : List ByteArray} {k : Nat} {u : ByteArray} (hu : tx[k]? = some u) (h2 : ∀ q : Pr, I64 q.p → I64 q.b → u ≠ prT q) : ∀ ps' : List Pr, (∀ (i : Nat) (p : Pr), ps'[i]? = some p → I64 p.p ∧ I64 p.b) → tx ≠ ps'.map prT := by
  intro ps' hp ht
  rw [ht, List.getElem?_map] at hu
  cases hq : ps'[k]? with
  | none => rw [hq] at hu; cases hu
  | some q =>
    rw [hq] at hu
    injection hu with hu
    obtain ⟨h4, h5⟩ := hp k q hq
    exact h2 q h4 h5 hu.symm

/-- texts are pairs of a known's text -/
theorem ptx_of {t f0 f1 f2 f3 : ByteArray} (hx : cutB 59 t = [f0, f1, f2, f3]) (h3 : f3 ≠ ⟨#[45]⟩) {o l m : Int} {ps : List Pr} {b la : Int} (ht : t = knT o l m ps b la) : cutB 44 f3 = ps.map prT := by
  have h4 := (kn_parts hx ht).2.2.2
  by_cases h0 : ps = []
  · rw [(orD_prs ps).1 h0] at h4; exact absurd h4 h3
  · rw [((orD_prs ps).2 h0).1] at h4
    rw [h4, prs_cut h0]

theorem ptx_none {t f0 f1 f2 f3 : ByteArray} (hx : cutB 59 t = [f0, f1, f2, f3]) (h3 : f3 = ⟨#[45]⟩) {o l m : Int} {ps : List Pr} {b la : Int} (ht : t = knT o l m ps b la) : ps = [] := by
  have h4 := (kn_parts hx ht).2.2.2
  by_cases h0 : ps = []
  · exact h0
  · have h5 := (orD_prs ps).2 h0
    rw [h5.1, h3] at h4
    exact absurd h4.symm h5.2

/-- the whole text, out of its parts -/
theorem kn_whole {t f0 f1 f2 f3 : ByteArray} (hx : cutB 59 t = [f0, f1, f2, f3]) {o l m : Int} {ps : List Pr} {b la : Int} (h0 : f0 = setT o l m) (h1 : f1 = decB b) (h2 : f2 = decB la) (h3 : f3 = orD (prsJ ps)) : t = knT o l m ps b la := by
  rw [kn_back hx, h0, h1, h2, h3]; rfl

theorem f3_of {f3 : ByteArray} {ys : List Pr} (h : cutB 44 f3 = ys.map prT) : f3 = orD (prsJ ys) := by
  have h0 : ys ≠ [] := by
    intro e
    subst e
    have h1 := cutB_len 44 f3
    rw [h] at h1
    simp at h1
  rw [((orD_prs ys).2 h0).1]
  unfold prsJ
  rw [← h, joinB_cutB]

end Go.Proofs.YtmddcbebaijjkaaDoor

/- The text of a reader, cut into its parts; dashes read. -/
namespace Go.Proofs.YtmddcbebaijjkaaDoor
open Go.RowKit
set_option linter.unusedVariables false
set_option linter.unusedSimpArgs false

end Go.Proofs.YtmddcbebaijjkaaDoor

/- What reading a text gives, by cases; how long the texts are. -/
namespace Go.Proofs.YtmddcbebaijjkaaDoor
open Go.RowKit
set_option linter.unusedVariables false
set_option linter.unusedSimpArgs false

end Go.Proofs.YtmddcbebaijjkaaDoor
