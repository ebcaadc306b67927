/- The program's reading of numbers and of pairs; texts split. -/
import Derived.Test.YtmddcbebaijjkaaGreatDoorPcu
import Derived.Test.YtmddcbebaijjkaaGreatDoorShelfP
namespace Go.Proofs.YtmddcbebaijjkaaGreatDoor
open Go.RowKit
set_option linter.unusedVariables false
set_option linter.unusedSimpArgs false

/-- the tables and the two errors of strconv lie as laid -/
structure Lw (W : World) : Prop where
  tb : Tb W
  es : ∃ te pe, W.cell? ⟨1, 0, none⟩ = some (.iface te pe)
  er : ∃ te pe, W.cell? ⟨2, 0, none⟩ = some (.iface te pe)

theorem Lw.below {W W' : World} (h : Lw W) (hb : Below W.heap.size W W') : Lw W' := by
  obtain ⟨h1, ⟨te, pe, h2⟩, ⟨tf, pf, h3⟩⟩ := h
  exact ⟨h1.below hb, ⟨te, pe, (hb.cell (World.block_lt_of_cell? _ _ h2)).trans h2⟩, ⟨tf, pf, (hb.cell (World.block_lt_of_cell? _ _ h3)).trans h3⟩⟩

theorem Lw.more {W W' : World} (h : Lw W) (hm : More W W') : Lw W' := h.below (more_below hm)

theorem Lw.plus {W : World} (h : Lw W) (x : Ext) : Lw (plus W x) := h.more ⟨x, rfl⟩

theorem Lw.alloc {W : World} (h : Lw W) (o : Obj) : Lw (W.alloc o) := by rw [alloc_plus]; exact h.plus _

theorem Lw.drew {W : World} (h : Lw W) : Lw W.drew := by rw [drew_is_plus]; exact h.plus _

theorem lwq_seq {W : World} {x y : Ext} (h : Lw (Go.Proofs.YtmddcbebaijjkaaGreatDoor.plus (Go.Proofs.YtmddcbebaijjkaaGreatDoor.plus W x) y)) : Lw (Go.Proofs.YtmddcbebaijjkaaGreatDoor.plus W (x.seq y)) := by rwa [plus_plus] at h

theorem bytesWorld_more (w : World) (e : TypeId) (s : ByteArray) : More w (Lib.bytesWorld w e s) := below_more (Joins.below_bytesWorld _ w e s (Nat.le_refl _))

theorem Atoi_yes (s : ByteArray) (v : Int) (w : World) (hs : s.size ≤ 1048576) (h : Lib.atoiAll s.data.toList = .ok v) : Calls Tryz.prog 75 #[.string s] w (Ret w (.tuple #[.int .i64 v, .nilIface])) := by
  refine (Tryz.strconv_Atoi_ok s (by omega) v h w).mono ?_
  rintro e w' ⟨rfl, h | ⟨t, h⟩⟩
  · subst h; exact ⟨rfl, More.refl _⟩
  · subst h; exact ⟨rfl, bytesWorld_more _ _ _⟩

theorem Atoi_no (s : ByteArray) (w : World) (hs : s.size ≤ 1048576) (hl : Lw w) (h : ∀ v, Lib.atoiAll s.data.toList ≠ .ok v) : Calls Tryz.prog 75 #[.string s] w (fun e w' => ∃ v t p, e = .returned (.tuple #[.int .i64 v, .iface t (.pointer (some p))]) ∧ More w w') := by
  cases ha : Lib.atoiAll s.data.toList with
  | ok v => exact absurd ha (h v)
  | «syntax» =>
    obtain ⟨te, pe, he⟩ := hl.es
    refine (Tryz.strconv_Atoi_syntax s (by omega) ha _ w he (.inr ⟨te, pe, rfl⟩)).mono ?_
    rintro e w' ⟨N, rfl, _, _, hb⟩
    exact ⟨_, _, _, rfl, below_more hb⟩
  | range =>
    obtain ⟨te, pe, he⟩ := hl.er
    refine (Tryz.strconv_Atoi_range s (by omega) ha _ w he (.inr ⟨te, pe, rfl⟩)).mono ?_
    rintro e w' ⟨N, rfl, _, _, hb⟩
    exact ⟨_, _, _, rfl, below_more hb⟩

/-- a number of 64 bits -/
def I64 (n : Int) : Prop := -9223372036854775808 ≤ n ∧ n ≤ 9223372036854775807

theorem atoi_i64 {l : List UInt8} {v : Int} (h : Lib.atoiAll l = .ok v) : I64 v := by
  unfold Lib.atoiAll at h
  split at h
  · cases h
  · simp only at h
    split at h
    · cases h
    · cases h
    · rename_i u hu
      have hl := Lib.parseMag_lt hu
      split at h
      · cases h
      · rename_i h1
        split at h
        · cases h
        · rename_i h2
          injection h with h
          subst h
          unfold I64
          split
          · rename_i h3
            have : ¬ 9223372036854775808 < u := fun hh => h2 ⟨h3, hh⟩
            omega
          · rename_i h3
            have : ¬ 9223372036854775808 ≤ u := fun hh => h1 ⟨h3, hh⟩
            omega

/-- what reading a number gives -/
def RetNm (w : World) (t : ByteArray) (e : Ending) (w' : World) : Prop := ∃ (n : Int) (ok : Bool), e = .returned (.tuple #[.int .i64 n, .bool ok]) ∧ More w w' ∧ (ok = true → t = decB n ∧ I64 n) ∧ ∀ k, I64 k → t = decB k → n = k ∧ ok = true

theorem ne_lists {a b : ByteArray} (h : a ≠ b) : (a.toList == b.toList) = false := by
  rw [beq_eq_false_iff_ne]
  intro e
  apply h
  apply ByteArray.ext
  rw [ByteArray.toList_eq, ByteArray.toList_eq] at e
  exact Array.toList_inj.1 (by simpa using e)

set_option maxRecDepth 100000 in
theorem parseNumber_any (t : ByteArray) (w : World) (hs : t.size ≤ 1048576) (hl : Lw w) : Calls Tryz.prog 34 #[.string t] w (RetNm w t) := by
  have HL := Lib.hid hl
  clear hl
  by_cases ha : ∃ v, Lib.atoiAll t.data.toList = .ok v
  · obtain ⟨v, hv⟩ := ha
    have hi := atoi_i64 hv
    have HV := Lib.hid hv
    have HI := Lib.hid hi
    have hz : (decB v).size ≤ 100 := by
      rcases (by omega : v < 0 ∨ 0 ≤ v) with h | h
      · obtain ⟨k, rfl⟩ : ∃ k : Nat, v = -(k : Int) := ⟨v.natAbs, by omega⟩
        rw [decB_neg k (by omega), ByteArray.size_append]
        have := decN_size 19 k (by have := hi.1; omega)
        show 1 + _ ≤ _
        omega
      · obtain ⟨k, rfl⟩ : ∃ k : Nat, v = (k : Int) := ⟨v.toNat, by omega⟩
        rw [decB_nat]
        have := decN_size 19 k (by have := hi.2; omega)
        omega
    clear hv hi
    by_cases he : decB v = t
    · have e1 : ((decB v).toList == t.toList) = true := by rw [he]; simp
      have HE := Lib.hid he
      clear he
      go_enter Tryz.func34, Tryz.ntmps34
      go_wp2_with fail
      refine (Atoi_yes t v _ hs HV.out).mono ?_
      rintro e w' ⟨rfl, x1, rfl⟩
      go_wp2_with fail
      refine (Itoa_any v _ HI.out.1 HI.out.2 (HL.out.plus x1).tb).mono ?_
      rintro e w' ⟨rfl, x2, rfl⟩
      go_wp2_with fail
      refine bodyPost_ret (v := .tuple #[.int .i64 v, .bool true]) (by simp [results, Tryz.results34, go_sem]) rfl ⟨v, true, rfl, (by repeat (first | exact More.refl _ | apply More.plus | apply More.alloc | apply More.drew | apply More.drewN)), fun _ => ⟨HE.out.symm, HI.out⟩, fun k hk hkt => ⟨decB_inj HI.out.1 HI.out.2 hk.1 hk.2 (HE.out.trans hkt), rfl⟩⟩
    · have e1 := ne_lists he
      have HE := Lib.hid he
      clear he
      go_enter Tryz.func34, Tryz.ntmps34
      go_wp2_with fail
      refine (Atoi_yes t v _ hs HV.out).mono ?_
      rintro e w' ⟨rfl, x1, rfl⟩
      go_wp2_with fail
      refine (Itoa_any v _ HI.out.1 HI.out.2 (HL.out.plus x1).tb).mono ?_
      rintro e w' ⟨rfl, x2, rfl⟩
      go_wp2_with fail
      refine bodyPost_ret (v := .tuple #[.int .i64 0, .bool false]) (by simp [results, Tryz.results34, go_sem]) rfl ⟨0, false, rfl, (by repeat (first | exact More.refl _ | apply More.plus | apply More.alloc | apply More.drew | apply More.drewN)), fun h => by (cases h), fun k hk hkt => absurd ?_ HE.out⟩
      have := atoi_dec hk.1 hk.2
      rw [← hkt, HV.out] at this
      injection this with h3
      rw [h3, hkt]
  · have hno : ∀ v, Lib.atoiAll t.data.toList ≠ .ok v := fun v h => ha ⟨v, h⟩
    have HN := Lib.hid hno
    clear ha hno
    go_enter Tryz.func34, Tryz.ntmps34
    go_wp2_with fail
    refine (Atoi_no t _ hs HL.out HN.out).mono ?_
    rintro e w' ⟨v, q, p, rfl, x1, rfl⟩
    go_wp2_with fail
    refine bodyPost_ret (v := .tuple #[.int .i64 0, .bool false]) (by simp [results, Tryz.results34, go_sem]) rfl ⟨0, false, rfl, (by repeat (first | exact More.refl _ | apply More.plus | apply More.alloc | apply More.drew | apply More.drewN)), fun h => by (cases h), fun k hk hkt => absurd ?_ (HN.out k)⟩
    rw [hkt]
    exact atoi_dec hk.1 hk.2

end Go.Proofs.YtmddcbebaijjkaaGreatDoor
