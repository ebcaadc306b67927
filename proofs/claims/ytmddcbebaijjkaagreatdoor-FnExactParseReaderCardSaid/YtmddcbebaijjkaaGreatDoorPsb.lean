/- The reference's reading of numbers. -/
import Derived.Test.YtmddcbebaijjkaaGreatDoorPsa
namespace Go.Proofs.YtmddcbebaijjkaaGreatDoor
open Go.RowKit
set_option linter.unusedVariables false
set_option linter.unusedSimpArgs false

theorem dig_lead : ∀ (n : Nat), 1 ≤ n → ∃ x r, Lib.decDigits n = x :: r ∧ x.toNat ≠ 48 := by
  intro n
  induction n using Nat.strongRecOn with
  | ind n ih =>
    intro h1
    rw [Lib.decDigits]
    split
    · rename_i h
      refine ⟨_, [], rfl, ?_⟩
      rw [UInt8.toNat_ofNat']
      omega
    · rename_i h
      obtain ⟨x, r, h2, h3⟩ := ih (n / 10) (by omega) (by omega)
      exact ⟨x, r ++ [UInt8.ofNat (48 + n % 10)], by rw [h2]; rfl, h3⟩

/-- the digits of a small number -/
structure Dgs (D : ByteArray) (m : Nat) : Prop where
  lst : D.data.toList = Lib.decDigits m
  few : m < 100000

theorem Dgs.size {D : ByteArray} {m : Nat} (h : Dgs D m) : 1 ≤ D.size ∧ D.size ≤ 5 := by
  have h1 := decN_size 4 m h.few
  have h2 : D.size = (decN m).size := by
    rw [← len_list, h.lst]
    exact (len_list (decN m)).symm
  have h3 : 1 ≤ D.size := by
    rw [← len_list, h.lst]
    have := dig_ne m
    cases hd : Lib.decDigits m with
    | nil => exact absurd hd this
    | cons a r => simp
  omega

theorem Dgs.byte {D : ByteArray} {m : Nat} (h : Dgs D m) (k : Nat) (hk : k < D.size) : 48 ≤ D[k].toNat ∧ D[k].toNat ≤ 57 := by
  have h1 := ba_get D k hk
  rw [h.lst] at h1
  exact dig_all m _ (List.mem_of_getElem? h1)

theorem Dgs.lead {D : ByteArray} {m : Nat} (h : Dgs D m) (h0 : 0 < D.size) (hz : D[0].toNat = 48) : m = 0 ∧ D.size = 1 := by
  have h1 := ba_get D 0 h0
  rw [h.lst] at h1
  rcases Nat.eq_zero_or_pos m with hm | hm
  · subst hm
    refine ⟨rfl, ?_⟩
    rw [← len_list, h.lst, Lib.decDigits, dif_pos (by omega)]
    rfl
  · obtain ⟨x, r, h2, h3⟩ := dig_lead m hm
    rw [h2] at h1
    injection h1 with h1
    rw [h1] at h3
    exact absurd hz h3

/-- what the reference's reading of a number gives -/
def RetNr (w : World) (s : ByteArray) (e : Ending) (w' : World) : Prop := ∃ (n : Int) (ok : Bool), e = .returned (.tuple #[.int .i64 n, .bool ok]) ∧ More w w' ∧ ∀ k, Sml k → s = decB k → n = k ∧ ok = true

theorem par_one {v : Nat} {x : UInt8} (h1 : 48 ≤ x.toNat) (h2 : x.toNat ≤ 57) (hv : v < 10000000000000000) : Lib.parseUint10 v [x] = .ok (v * 10 + (x.toNat - 48)) := by
  simp only [Lib.parseUint10]
  rw [if_pos ⟨h1, h2⟩, if_neg (by omega), if_neg (by omega)]

theorem pow_lt {v k : Nat} (h : v < 10 ^ k) (hk : k ≤ 16) : v < 10000000000000000 :=
  Nat.lt_of_lt_of_le h (Nat.pow_le_pow_right (by omega) hk)

set_option maxRecDepth 100000 in
set_option maxHeartbeats 8000000 in
theorem l9Num_any (s : ByteArray) (w : World) (hs : s.size ≤ 1048576) : Calls Tryz.prog 30 #[.string s] w (RetNr w s) := by
  rcases Nat.eq_zero_or_pos s.size with h0 | h0
  · have v0 : decide ((0 : Int) < (s.size : Int)) = false := decide_eq_false (by omega)
    have v1 : ((s.size : Int) == 0) = true := by rw [h0]; rfl
    have HZ := Lib.hid h0
    clear h0
    go_enter Tryz.func30, Tryz.ntmps30
    go_wp2_with fail
    exact bodyPost_ret (v := .tuple #[.int .i64 0, .bool false]) (by simp [results, Tryz.results30, go_sem]) rfl ⟨0, false, rfl, (by repeat (first | exact More.refl _ | apply More.plus | apply More.alloc | apply More.drew | apply More.drewN)), fun k hk he => by have := decB_pos k; rw [← he, HZ.out] at this; omega⟩
  · have v0 : decide ((0 : Int) < (s.size : Int)) = true := decide_eq_true (by omega)
    have hg := ba_get s 0 h0
    have hdec : ∀ k, Sml k → s = decB k → (k < 0 ∧ s.data.toList = 45 :: Lib.decDigits k.natAbs) ∨ (0 ≤ k ∧ s.data.toList = Lib.decDigits k.natAbs) := by
      intro k hk he
      subst he
      unfold decB Lib.itoa
      split
      · exact .inl ⟨by assumption, rfl⟩
      · exact .inr ⟨by omega, by rw [show k.toNat = k.natAbs by omega]⟩
    by_cases hm : s[0].toNat = 45
    · have v1 : ((s[0].toNat : Int) == 45) = true := by rw [hm]; rfl
      obtain ⟨D, hD⟩ : ∃ D, s.extract 1 s.size = D := ⟨_, rfl⟩
      have HP := Lib.hid (show ∀ k, Sml k → s = decB k → Dgs D k.natAbs ∧ true = decide (k < 0) from fun k hk he => by
        rcases hdec k hk he with ⟨h1, h2⟩ | ⟨h1, h2⟩
        · refine ⟨⟨?_, by have := hk.1; have := hk.2; omega⟩, by simp [h1]⟩
          rw [← hD, ext_list, h2]
          have hl := len_list s
          rw [h2] at hl
          simp at hl
          rw [List.drop_succ_cons, List.drop_zero, List.take_of_length_le (by omega)]
        · rw [h2] at hg
          have := dig_all k.natAbs _ (List.mem_of_getElem? hg)
          omega)
      have hDs : D.size ≤ 1048576 := by rw [← hD, ByteArray.size_extract]; omega
      clear hg hdec hm
      go_enter Tryz.func30, Tryz.ntmps30
      rcases Nat.eq_zero_or_pos D.size with hz | hz
      · have q0 : ((D.size : Int) == 0) = true := by rw [hz]; rfl
        have HZ := Lib.hid hz
        clear hz
        go_wp2_with fail
        exact bodyPost_ret (v := .tuple #[.int .i64 0, .bool false]) (by simp [results, Tryz.results30, go_sem]) rfl ⟨0, false, rfl, (by repeat (first | exact More.refl _ | apply More.plus | apply More.alloc | apply More.drew | apply More.drewN)), fun kk hk he => absurd (HP.out kk hk he).1 (fun hd => (by have := hd.size; have := HZ.out; omega))⟩
      have q0 : ((D.size : Int) == 0) = false := by rw [beq_eq_false_iff_ne]; omega
      rcases dec (17 < D.size) with ⟨hgt, q1'⟩ | ⟨hgt, q1'⟩
      · have q1 : decide ((17 : Int) < (D.size : Int)) = true := decide_eq_true (by omega)
        go_wp2_with fail
        exact bodyPost_ret (v := .tuple #[.int .i64 0, .bool false]) (by simp [results, Tryz.results30, go_sem]) rfl ⟨0, false, rfl, (by repeat (first | exact More.refl _ | apply More.plus | apply More.alloc | apply More.drew | apply More.drewN)), fun kk hk he => absurd (HP.out kk hk he).1 (fun hd => (by have := hd.size; omega))⟩
      have q1 : decide ((17 : Int) < (D.size : Int)) = false := decide_eq_false (by omega)
      by_cases hl : D[0].toNat = 48 ∧ (true = true ∨ 1 < D.size)
      · have q2 : ((D[0].toNat : Int) == 48) = true := by rw [hl.1]; rfl
        have HLd := Lib.hid hl
        clear hl
        rcases dec (1 < D.size) with ⟨h1, q3'⟩ | ⟨h1, q3'⟩
        · have q3 : decide ((1 : Int) < (D.size : Int)) = true := decide_eq_true (by omega)
          go_wp2_with fail
          exact bodyPost_ret (v := .tuple #[.int .i64 0, .bool false]) (by simp [results, Tryz.results30, go_sem]) rfl ⟨0, false, rfl, (by repeat (first | exact More.refl _ | apply More.plus | apply More.alloc | apply More.drew | apply More.drewN)), fun kk hk he => absurd (HP.out kk hk he).1 (fun hd => (by have := (hd.lead hz HLd.out.1).2; omega))⟩
        · have q3 : decide ((1 : Int) < (D.size : Int)) = false := decide_eq_false (by omega)
          have hneg : true = true := by rcases HLd.out.2 with h | h <;> first | exact h | omega
          first | (exact absurd hneg (by decide)) | skip
          all_goals
            go_wp2_with fail
            exact bodyPost_ret (v := .tuple #[.int .i64 0, .bool false]) (by simp [results, Tryz.results30, go_sem]) rfl ⟨0, false, rfl, (by repeat (first | exact More.refl _ | apply More.plus | apply More.alloc | apply More.drew | apply More.drewN)), fun k hk he => absurd (HP.out k hk he).1 (fun hd => by have h5 := (hd.lead hz HLd.out.1).1; have h6 := (HP.out k hk he).2; simp at h6; omega)⟩
      have HNl := Lib.hid hl
      have hgo : (D[0].toNat = 48 ∧ true = false ∧ D.size = 1) ∨ D[0].toNat ≠ 48 := by
        by_cases h : D[0].toNat = 48
        · refine .inl ⟨h, ?_, ?_⟩
          · cases hb : true with
            | false => rfl
            | true => exact absurd ⟨h, .inl hb⟩ hl
          · have : ¬ 1 < D.size := fun h2 => hl ⟨h, .inr h2⟩
            omega
        · exact .inr h
      clear hl
      have hbig : D.size ≤ 17 := by omega
      have HST := Lib.hid (show ∃ b : Bool, (((D[0].toNat : Int) == 48) && (decide ((1 : Int) < (D.size : Int)) || true)) = b from ⟨_, rfl⟩)
      rcases hgo with ⟨g1, g2, g3⟩ | g1
      · (try (exact absurd g2 (by decide)))
        all_goals
          have q2 : ((D[0].toNat : Int) == 48) = true := by rw [g1]; rfl
          have q3 : decide ((1 : Int) < (D.size : Int)) = false := decide_eq_false (by omega)
          clear g1 g2 g3 HNl HST
          go_wp2
          go_loopw [5, 6] (fun n i wr => ∃ (v k : Nat), n = .int .i64 v ∧ i = .int .i64 k ∧ k ≤ D.size ∧ v < 10 ^ k ∧ Lib.parseUint10 0 (D.data.toList.take k) = .ok v ∧ More w wr) (fun _ i _ => D.size - (intOf i).toNat)
          case atStart => exact ⟨0, 0, rfl, rfl, Nat.zero_le _, by decide, rfl, More.refl _⟩
          case round =>
            obtain ⟨v, k, rfl, rfl, hk, hv, hp, x, rfl⟩ := hrel
            have HPa := Lib.hid hp
            have HPw := Lib.hid hv
            clear hp
            rcases dec (k < D.size) with ⟨hlt, v1⟩ | ⟨hlt, v1⟩
            · have hv16 := pow_lt hv (by omega)
              clear hv
              rcases (by omega : D[k].toNat < 48 ∨ 57 < D[k].toNat ∨ (48 ≤ D[k].toNat ∧ D[k].toNat ≤ 57)) with hb | hb | ⟨hb1, hb2⟩
              · have q8 : decide ((D[k].toNat : Int) < 48) = true := decide_eq_true (by omega)
                go_wp2_with fail
                exact bodyPost_ret (v := .tuple #[.int .i64 0, .bool false]) (by simp [results, Tryz.results30, go_sem]) rfl ⟨0, false, rfl, (by repeat (first | exact More.refl _ | apply More.plus | apply More.alloc | apply More.drew | apply More.drewN)), fun kk hk he => absurd (HP.out kk hk he).1 (fun hd => (by have := hd.byte k hlt; omega))⟩
              · have q8 : decide ((D[k].toNat : Int) < 48) = false := decide_eq_false (by omega)
                have q9 : decide ((57 : Int) < (D[k].toNat : Int)) = true := decide_eq_true (by omega)
                go_wp2_with fail
                exact bodyPost_ret (v := .tuple #[.int .i64 0, .bool false]) (by simp [results, Tryz.results30, go_sem]) rfl ⟨0, false, rfl, (by repeat (first | exact More.refl _ | apply More.plus | apply More.alloc | apply More.drew | apply More.drewN)), fun kk hk he => absurd (HP.out kk hk he).1 (fun hd => (by have := hd.byte k hlt; omega))⟩
              · have q8 : decide ((D[k].toNat : Int) < 48) = false := decide_eq_false (by omega)
                have q9 : decide ((57 : Int) < (D[k].toNat : Int)) = false := decide_eq_false (by omega)
                have HPn := Lib.hid (show Lib.parseUint10 0 (D.data.toList.take (k + 1)) = .ok (v * 10 + (D[k].toNat - 48)) by rw [take_snoc (ba_get D k hlt), par_app _ _ _ _ HPa.out, par_one hb1 hb2 hv16])
                have HPx := Lib.hid (show v * 10 + (D[k].toNat - 48) < 10 ^ (k + 1) by have := HPw.out; rw [Nat.pow_succ]; omega)
                go_wp2_with fail
                go_roundw
                case rel => exact ⟨v * 10 + (D[k].toNat - 48), k + 1, int_val (by omega), by go_num, by omega, HPx.out, HPn.out, (by repeat (first | exact More.refl _ | apply More.plus | apply More.alloc | apply More.drew | apply More.drewN))⟩
                case measure => simp [intOf]; omega
            · obtain rfl : k = D.size := by omega
              have hv17 : v < 1000000000000000000 := Nat.lt_of_lt_of_le hv (Nat.pow_le_pow_right (by omega) (by omega : D.size ≤ 18))
              clear hv
              have HV := Lib.hid (show Lib.parseUint10 0 D.data.toList = .ok v by have := HPa.out; rwa [← len_list, List.take_length] at this)
              go_wp2_with fail
              exact bodyPost_ret (v := .tuple #[.int .i64 (-(v : Int)), .bool true]) (by simp [results, Tryz.results30, go_sem]) rfl ⟨(-(v : Int)), true, rfl, (by repeat (first | exact More.refl _ | apply More.plus | apply More.alloc | apply More.drew | apply More.drewN)), fun k hk he => ⟨by
                obtain ⟨hd, hn⟩ := HP.out k hk he
                have h1 := par_dig k.natAbs (by have := hd.few; omega)
                rw [← hd.lst, HV.out] at h1
                injection h1 with h1
                simp at hn
                omega, rfl⟩⟩
      · have q2 : ((D[0].toNat : Int) == 48) = false := by rw [beq_eq_false_iff_ne]; omega
        clear g1 HNl HST
        go_wp2
        go_loopw [5, 6] (fun n i wr => ∃ (v k : Nat), n = .int .i64 v ∧ i = .int .i64 k ∧ k ≤ D.size ∧ v < 10 ^ k ∧ Lib.parseUint10 0 (D.data.toList.take k) = .ok v ∧ More w wr) (fun _ i _ => D.size - (intOf i).toNat)
        case atStart => exact ⟨0, 0, rfl, rfl, Nat.zero_le _, by decide, rfl, More.refl _⟩
        case round =>
          obtain ⟨v, k, rfl, rfl, hk, hv, hp, x, rfl⟩ := hrel
          have HPa := Lib.hid hp
          have HPw := Lib.hid hv
          clear hp
          rcases dec (k < D.size) with ⟨hlt, v1⟩ | ⟨hlt, v1⟩
          · have hv16 := pow_lt hv (by omega)
            clear hv
            rcases (by omega : D[k].toNat < 48 ∨ 57 < D[k].toNat ∨ (48 ≤ D[k].toNat ∧ D[k].toNat ≤ 57)) with hb | hb | ⟨hb1, hb2⟩
            · have q8 : decide ((D[k].toNat : Int) < 48) = true := decide_eq_true (by omega)
              go_wp2_with fail
              exact bodyPost_ret (v := .tuple #[.int .i64 0, .bool false]) (by simp [results, Tryz.results30, go_sem]) rfl ⟨0, false, rfl, (by repeat (first | exact More.refl _ | apply More.plus | apply More.alloc | apply More.drew | apply More.drewN)), fun kk hk he => absurd (HP.out kk hk he).1 (fun hd => (by have := hd.byte k hlt; omega))⟩
            · have q8 : decide ((D[k].toNat : Int) < 48) = false := decide_eq_false (by omega)
              have q9 : decide ((57 : Int) < (D[k].toNat : Int)) = true := decide_eq_true (by omega)
              go_wp2_with fail
              exact bodyPost_ret (v := .tuple #[.int .i64 0, .bool false]) (by simp [results, Tryz.results30, go_sem]) rfl ⟨0, false, rfl, (by repeat (first | exact More.refl _ | apply More.plus | apply More.alloc | apply More.drew | apply More.drewN)), fun kk hk he => absurd (HP.out kk hk he).1 (fun hd => (by have := hd.byte k hlt; omega))⟩
            · have q8 : decide ((D[k].toNat : Int) < 48) = false := decide_eq_false (by omega)
              have q9 : decide ((57 : Int) < (D[k].toNat : Int)) = false := decide_eq_false (by omega)
              have HPn := Lib.hid (show Lib.parseUint10 0 (D.data.toList.take (k + 1)) = .ok (v * 10 + (D[k].toNat - 48)) by rw [take_snoc (ba_get D k hlt), par_app _ _ _ _ HPa.out, par_one hb1 hb2 hv16])
              have HPx := Lib.hid (show v * 10 + (D[k].toNat - 48) < 10 ^ (k + 1) by have := HPw.out; rw [Nat.pow_succ]; omega)
              go_wp2_with fail
              go_roundw
              case rel => exact ⟨v * 10 + (D[k].toNat - 48), k + 1, int_val (by omega), by go_num, by omega, HPx.out, HPn.out, (by repeat (first | exact More.refl _ | apply More.plus | apply More.alloc | apply More.drew | apply More.drewN))⟩
              case measure => simp [intOf]; omega
          · obtain rfl : k = D.size := by omega
            have hv17 : v < 1000000000000000000 := Nat.lt_of_lt_of_le hv (Nat.pow_le_pow_right (by omega) (by omega : D.size ≤ 18))
            clear hv
            have HV := Lib.hid (show Lib.parseUint10 0 D.data.toList = .ok v by have := HPa.out; rwa [← len_list, List.take_length] at this)
            go_wp2_with fail
            exact bodyPost_ret (v := .tuple #[.int .i64 (-(v : Int)), .bool true]) (by simp [results, Tryz.results30, go_sem]) rfl ⟨(-(v : Int)), true, rfl, (by repeat (first | exact More.refl _ | apply More.plus | apply More.alloc | apply More.drew | apply More.drewN)), fun k hk he => ⟨by
              obtain ⟨hd, hn⟩ := HP.out k hk he
              have h1 := par_dig k.natAbs (by have := hd.few; omega)
              rw [← hd.lst, HV.out] at h1
              injection h1 with h1
              simp at hn
              omega, rfl⟩⟩
    · have v1 : ((s[0].toNat : Int) == 45) = false := by rw [beq_eq_false_iff_ne]; omega
      have HP := Lib.hid (show ∀ k, Sml k → s = decB k → Dgs s k.natAbs ∧ false = decide (k < 0) from fun k hk he => by
        rcases hdec k hk he with ⟨h1, h2⟩ | ⟨h1, h2⟩
        · rw [h2] at hg
          injection hg with hg
          exact absurd (by rw [← hg]; rfl) hm
        · exact ⟨⟨h2, by have := hk.1; have := hk.2; omega⟩, by simp; omega⟩)
      clear hg hdec hm v0
      have v0 : decide ((0 : Int) < (s.size : Int)) = true := decide_eq_true (by omega)
      obtain ⟨D, rfl⟩ : ∃ D, D = s := ⟨s, rfl⟩
      go_enter Tryz.func30, Tryz.ntmps30
      rcases Nat.eq_zero_or_pos D.size with hz | hz
      · have q0 : ((D.size : Int) == 0) = true := by rw [hz]; rfl
        have HZ := Lib.hid hz
        clear hz
        go_wp2_with fail
        exact bodyPost_ret (v := .tuple #[.int .i64 0, .bool false]) (by simp [results, Tryz.results30, go_sem]) rfl ⟨0, false, rfl, (by repeat (first | exact More.refl _ | apply More.plus | apply More.alloc | apply More.drew | apply More.drewN)), fun kk hk he => absurd (HP.out kk hk he).1 (fun hd => (by have := hd.size; have := HZ.out; omega))⟩
      have q0 : ((D.size : Int) == 0) = false := by rw [beq_eq_false_iff_ne]; omega
      rcases dec (17 < D.size) with ⟨hgt, q1'⟩ | ⟨hgt, q1'⟩
      · have q1 : decide ((17 : Int) < (D.size : Int)) = true := decide_eq_true (by omega)
        go_wp2_with fail
        exact bodyPost_ret (v := .tuple #[.int .i64 0, .bool false]) (by simp [results, Tryz.results30, go_sem]) rfl ⟨0, false, rfl, (by repeat (first | exact More.refl _ | apply More.plus | apply More.alloc | apply More.drew | apply More.drewN)), fun kk hk he => absurd (HP.out kk hk he).1 (fun hd => (by have := hd.size; omega))⟩
      have q1 : decide ((17 : Int) < (D.size : Int)) = false := decide_eq_false (by omega)
      by_cases hl : D[0].toNat = 48 ∧ (false = true ∨ 1 < D.size)
      · have q2 : ((D[0].toNat : Int) == 48) = true := by rw [hl.1]; rfl
        have HLd := Lib.hid hl
        clear hl
        rcases dec (1 < D.size) with ⟨h1, q3'⟩ | ⟨h1, q3'⟩
        · have q3 : decide ((1 : Int) < (D.size : Int)) = true := decide_eq_true (by omega)
          go_wp2_with fail
          exact bodyPost_ret (v := .tuple #[.int .i64 0, .bool false]) (by simp [results, Tryz.results30, go_sem]) rfl ⟨0, false, rfl, (by repeat (first | exact More.refl _ | apply More.plus | apply More.alloc | apply More.drew | apply More.drewN)), fun kk hk he => absurd (HP.out kk hk he).1 (fun hd => (by have := (hd.lead hz HLd.out.1).2; omega))⟩
        · have q3 : decide ((1 : Int) < (D.size : Int)) = false := decide_eq_false (by omega)
          have hneg : false = true := by rcases HLd.out.2 with h | h <;> first | exact h | omega
          first | (exact absurd hneg (by decide)) | skip
          all_goals
            go_wp2_with fail
            exact bodyPost_ret (v := .tuple #[.int .i64 0, .bool false]) (by simp [results, Tryz.results30, go_sem]) rfl ⟨0, false, rfl, (by repeat (first | exact More.refl _ | apply More.plus | apply More.alloc | apply More.drew | apply More.drewN)), fun k hk he => absurd (HP.out k hk he).1 (fun hd => by have h5 := (hd.lead hz HLd.out.1).1; have h6 := (HP.out k hk he).2; simp at h6; omega)⟩
      have HNl := Lib.hid hl
      have hgo : (D[0].toNat = 48 ∧ false = false ∧ D.size = 1) ∨ D[0].toNat ≠ 48 := by
        by_cases h : D[0].toNat = 48
        · refine .inl ⟨h, ?_, ?_⟩
          · cases hb : false with
            | false => rfl
            | true => exact absurd ⟨h, .inl hb⟩ hl
          · have : ¬ 1 < D.size := fun h2 => hl ⟨h, .inr h2⟩
            omega
        · exact .inr h
      clear hl
      have hbig : D.size ≤ 17 := by omega
      have HST := Lib.hid (show ∃ b : Bool, (((D[0].toNat : Int) == 48) && (decide ((1 : Int) < (D.size : Int)) || false)) = b from ⟨_, rfl⟩)
      rcases hgo with ⟨g1, g2, g3⟩ | g1
      · (try (exact absurd g2 (by decide)))
        all_goals
          have q2 : ((D[0].toNat : Int) == 48) = true := by rw [g1]; rfl
          have q3 : decide ((1 : Int) < (D.size : Int)) = false := decide_eq_false (by omega)
          clear g1 g2 g3 HNl HST
          go_wp2
          go_loopw [5, 6] (fun n i wr => ∃ (v k : Nat), n = .int .i64 v ∧ i = .int .i64 k ∧ k ≤ D.size ∧ v < 10 ^ k ∧ Lib.parseUint10 0 (D.data.toList.take k) = .ok v ∧ More w wr) (fun _ i _ => D.size - (intOf i).toNat)
          case atStart => exact ⟨0, 0, rfl, rfl, Nat.zero_le _, by decide, rfl, More.refl _⟩
          case round =>
            obtain ⟨v, k, rfl, rfl, hk, hv, hp, x, rfl⟩ := hrel
            have HPa := Lib.hid hp
            have HPw := Lib.hid hv
            clear hp
            rcases dec (k < D.size) with ⟨hlt, v1⟩ | ⟨hlt, v1⟩
            · have hv16 := pow_lt hv (by omega)
              clear hv
              rcases (by omega : D[k].toNat < 48 ∨ 57 < D[k].toNat ∨ (48 ≤ D[k].toNat ∧ D[k].toNat ≤ 57)) with hb | hb | ⟨hb1, hb2⟩
              · have q8 : decide ((D[k].toNat : Int) < 48) = true := decide_eq_true (by omega)
                go_wp2_with fail
                exact bodyPost_ret (v := .tuple #[.int .i64 0, .bool false]) (by simp [results, Tryz.results30, go_sem]) rfl ⟨0, false, rfl, (by repeat (first | exact More.refl _ | apply More.plus | apply More.alloc | apply More.drew | apply More.drewN)), fun kk hk he => absurd (HP.out kk hk he).1 (fun hd => (by have := hd.byte k hlt; omega))⟩
              · have q8 : decide ((D[k].toNat : Int) < 48) = false := decide_eq_false (by omega)
                have q9 : decide ((57 : Int) < (D[k].toNat : Int)) = true := decide_eq_true (by omega)
                go_wp2_with fail
                exact bodyPost_ret (v := .tuple #[.int .i64 0, .bool false]) (by simp [results, Tryz.results30, go_sem]) rfl ⟨0, false, rfl, (by repeat (first | exact More.refl _ | apply More.plus | apply More.alloc | apply More.drew | apply More.drewN)), fun kk hk he => absurd (HP.out kk hk he).1 (fun hd => (by have := hd.byte k hlt; omega))⟩
              · have q8 : decide ((D[k].toNat : Int) < 48) = false := decide_eq_false (by omega)
                have q9 : decide ((57 : Int) < (D[k].toNat : Int)) = false := decide_eq_false (by omega)
                have HPn := Lib.hid (show Lib.parseUint10 0 (D.data.toList.take (k + 1)) = .ok (v * 10 + (D[k].toNat - 48)) by rw [take_snoc (ba_get D k hlt), par_app _ _ _ _ HPa.out, par_one hb1 hb2 hv16])
                have HPx := Lib.hid (show v * 10 + (D[k].toNat - 48) < 10 ^ (k + 1) by have := HPw.out; rw [Nat.pow_succ]; omega)
                go_wp2_with fail
                go_roundw
                case rel => exact ⟨v * 10 + (D[k].toNat - 48), k + 1, int_val (by omega), by go_num, by omega, HPx.out, HPn.out, (by repeat (first | exact More.refl _ | apply More.plus | apply More.alloc | apply More.drew | apply More.drewN))⟩
                case measure => simp [intOf]; omega
            · obtain rfl : k = D.size := by omega
              have hv17 : v < 1000000000000000000 := Nat.lt_of_lt_of_le hv (Nat.pow_le_pow_right (by omega) (by omega : D.size ≤ 18))
              clear hv
              have HV := Lib.hid (show Lib.parseUint10 0 D.data.toList = .ok v by have := HPa.out; rwa [← len_list, List.take_length] at this)
              go_wp2_with fail
              exact bodyPost_ret (v := .tuple #[.int .i64 (v : Int), .bool true]) (by simp [results, Tryz.results30, go_sem]) rfl ⟨(v : Int), true, rfl, (by repeat (first | exact More.refl _ | apply More.plus | apply More.alloc | apply More.drew | apply More.drewN)), fun k hk he => ⟨by
                obtain ⟨hd, hn⟩ := HP.out k hk he
                have h1 := par_dig k.natAbs (by have := hd.few; omega)
                rw [← hd.lst, HV.out] at h1
                injection h1 with h1
                simp at hn
                omega, rfl⟩⟩
      · have q2 : ((D[0].toNat : Int) == 48) = false := by rw [beq_eq_false_iff_ne]; omega
        clear g1 HNl HST
        go_wp2
        go_loopw [5, 6] (fun n i wr => ∃ (v k : Nat), n = .int .i64 v ∧ i = .int .i64 k ∧ k ≤ D.size ∧ v < 10 ^ k ∧ Lib.parseUint10 0 (D.data.toList.take k) = .ok v ∧ More w wr) (fun _ i _ => D.size - (intOf i).toNat)
        case atStart => exact ⟨0, 0, rfl, rfl, Nat.zero_le _, by decide, rfl, More.refl _⟩
        case round =>
          obtain ⟨v, k, rfl, rfl, hk, hv, hp, x, rfl⟩ := hrel
          have HPa := Lib.hid hp
          have HPw := Lib.hid hv
          clear hp
          rcases dec (k < D.size) with ⟨hlt, v1⟩ | ⟨hlt, v1⟩
          · have hv16 := pow_lt hv (by omega)
            clear hv
            rcases (by omega : D[k].toNat < 48 ∨ 57 < D[k].toNat ∨ (48 ≤ D[k].toNat ∧ D[k].toNat ≤ 57)) with hb | hb | ⟨hb1, hb2⟩
            · have q8 : decide ((D[k].toNat : Int) < 48) = true := decide_eq_true (by omega)
              go_wp2_with fail
              exact bodyPost_ret (v := .tuple #[.int .i64 0, .bool false]) (by simp [results, Tryz.results30, go_sem]) rfl ⟨0, false, rfl, (by repeat (first | exact More.refl _ | apply More.plus | apply More.alloc | apply More.drew | apply More.drewN)), fun kk hk he => absurd (HP.out kk hk he).1 (fun hd => (by have := hd.byte k hlt; omega))⟩
            · have q8 : decide ((D[k].toNat : Int) < 48) = false := decide_eq_false (by omega)
              have q9 : decide ((57 : Int) < (D[k].toNat : Int)) = true := decide_eq_true (by omega)
              go_wp2_with fail
              exact bodyPost_ret (v := .tuple #[.int .i64 0, .bool false]) (by simp [results, Tryz.results30, go_sem]) rfl ⟨0, false, rfl, (by repeat (first | exact More.refl _ | apply More.plus | apply More.alloc | apply More.drew | apply More.drewN)), fun kk hk he => absurd (HP.out kk hk he).1 (fun hd => (by have := hd.byte k hlt; omega))⟩
            · have q8 : decide ((D[k].toNat : Int) < 48) = false := decide_eq_false (by omega)
              have q9 : decide ((57 : Int) < (D[k].toNat : Int)) = false := decide_eq_false (by omega)
              have HPn := Lib.hid (show Lib.parseUint10 0 (D.data.toList.take (k + 1)) = .ok (v * 10 + (D[k].toNat - 48)) by rw [take_snoc (ba_get D k hlt), par_app _ _ _ _ HPa.out, par_one hb1 hb2 hv16])
              have HPx := Lib.hid (show v * 10 + (D[k].toNat - 48) < 10 ^ (k + 1) by have := HPw.out; rw [Nat.pow_succ]; omega)
              go_wp2_with fail
              go_roundw
              case rel => exact ⟨v * 10 + (D[k].toNat - 48), k + 1, int_val (by omega), by go_num, by omega, HPx.out, HPn.out, (by repeat (first | exact More.refl _ | apply More.plus | apply More.alloc | apply More.drew | apply More.drewN))⟩
              case measure => simp [intOf]; omega
          · obtain rfl : k = D.size := by omega
            have hv17 : v < 1000000000000000000 := Nat.lt_of_lt_of_le hv (Nat.pow_le_pow_right (by omega) (by omega : D.size ≤ 18))
            clear hv
            have HV := Lib.hid (show Lib.parseUint10 0 D.data.toList = .ok v by have := HPa.out; rwa [← len_list, List.take_length] at this)
            go_wp2_with fail
            exact bodyPost_ret (v := .tuple #[.int .i64 (v : Int), .bool true]) (by simp [results, Tryz.results30, go_sem]) rfl ⟨(v : Int), true, rfl, (by repeat (first | exact More.refl _ | apply More.plus | apply More.alloc | apply More.drew | apply More.drewN)), fun k hk he => ⟨by
              obtain ⟨hd, hn⟩ := HP.out k hk he
              have h1 := par_dig k.natAbs (by have := hd.few; omega)
              rw [← hd.lst, HV.out] at h1
              injection h1 with h1
              simp at hn
              omega, rfl⟩⟩

end Go.Proofs.YtmddcbebaijjkaaGreatDoor
