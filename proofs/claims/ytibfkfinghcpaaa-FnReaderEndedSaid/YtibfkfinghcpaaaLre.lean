/- The law ReaderEnded: the walk. -/
import Derived.Test.YtibfkfinghcpaaaGw
import Derived.Test.YtibfkfinghcpaaaLrs
import Derived.Test.YtibfkfinghcpaaaGv
namespace Go.Proofs.Ytibfkfinghcpaaa
open Go.RowKit
set_option linter.unusedVariables false
set_option linter.unusedSimpArgs false

/-- a reader that has ended needs no bits -/
theorem rnd_ended {o l m : Int} {ps : List Pr} {base last : Int} {s : ByteArray} {z c e : Int} (h : rdb o l m ps base last s z c e = true) (he : e ≠ 1) : rnd o l m ps base last s z c e = 0 := by
  unfold rnd
  rw [h, if_pos rfl, if_neg he]

set_option maxRecDepth 100000 in
set_option maxHeartbeats 4000000 in
theorem lawReaderEnded_any (a : Option Addr) (cap : Nat) (bs : List UInt8) (w : World) (hr : Rd encB w a cap bs) :
    Calls Try.prog 9 #[.slice a bs.length cap] w (fun e w' => e = .returned (.bool true) ∧ Below w.heap.size w w') := by
  have g1 := hr.1
  have g2 := hr.2.1
  by_cases h1 : bs.length ≤ 1048576
  case neg =>
    go_enter Try.func9, Try.ntmps9
    go_wp2
    go_ret
    exact ⟨rfl, (by repeat (first | exact Below.refl _ _ | refine below_plus ?_ (by first | omega | (simp <;> omega)) _ | refine Below.alloc ?_ (by first | omega | (simp <;> omega)) _ | refine below_patch ?_ (by omega) _ | refine Below.drew ?_))⟩
  go_enter Try.func9, Try.ntmps9
  go_wp2_with fail
  refine (DrawReadStream_any a cap bs _ (by repeat (first | exact hr | apply rd_seq | apply Rd.plus | apply Rd.alloc | apply Rd.drew | apply Rd.drewN | refine rd_patch ?_ _ _ (by intro A hA; first | (cases hA; show _ ≠ _; omega) | (have := hal A hA; omega))))).mono ?_
  rintro e w' ⟨o, l, m, pa, pc, ps, base, last, s, z, c, e1, u, rfl, hl3, hs1, hu5, hrd, hoff, x1, rfl⟩
  have HR := Lib.hid (show Rd encP _ pa pc ps from hrd)
  clear hrd hoff hr
  by_cases hbad : rdb o l m ps base last s z c e1 = false ∨ 4000 < u.size
  · have HB := reads_no (sb := s) (u := u) (by unfold maxLen; omega) (by unfold maxLen; omega) hbad
    have HI := Lib.hid HB.2
    have HS := Lib.hid HB.1
    clear hbad HB
    go_wp2_with fail
    refine (HI.out _ pa pc (by (try unfold RdP); repeat (first | (with_reducible exact HR.out) | (with_reducible apply rd_seq) | (with_reducible apply Rd.plus) | (with_reducible apply Rd.alloc) | (with_reducible apply Rd.drew) | (with_reducible apply Rd.drewN)))).mono ?_
    rintro e w' ⟨qa, qc, rfl, hown, y1, rfl⟩
    (try simp only [plus_plus] at hown)
    have HQ := Lib.hid (show Rd encP _ qa qc ([] : List Pr) from hown.rd)
    clear hown
    go_wp2_with fail
    refine (HS.out _ pa pc (by (try unfold RdP); repeat (first | (with_reducible exact HR.out) | (with_reducible apply rd_seq) | (with_reducible apply Rd.plus) | (with_reducible apply Rd.alloc) | (with_reducible apply Rd.drew) | (with_reducible apply Rd.drewN)))).mono ?_
    rintro e w' ⟨ra, rc, rfl, hown, y2, rfl⟩
    (try simp only [plus_plus] at hown)
    have HP := Lib.hid (show Rd encP _ ra rc ([] : List Pr) from hown.rd)
    clear hown
    go_wp2_with fail
    refine (soReaders_yes _ _ _ qa ra qc rc ([] : List Pr) _ _ _ _ _ _ _ (by (try unfold RdP); repeat (first | (with_reducible exact HQ.out) | (with_reducible apply rd_seq) | (with_reducible apply Rd.plus) | (with_reducible apply Rd.alloc) | (with_reducible apply Rd.drew) | (with_reducible apply Rd.drewN))) (by (try unfold RdP); repeat (first | (with_reducible exact HP.out) | (with_reducible apply rd_seq) | (with_reducible apply Rd.plus) | (with_reducible apply Rd.alloc) | (with_reducible apply Rd.drew) | (with_reducible apply Rd.drewN)))).mono ?_
    rintro e w' ⟨rfl, y3, rfl⟩
    go_wp2_with fail
    refine (soReaders_yes _ _ _ qa ra qc rc ([] : List Pr) _ _ _ _ _ _ _ (by (try unfold RdP); repeat (first | (with_reducible exact HQ.out) | (with_reducible apply rd_seq) | (with_reducible apply Rd.plus) | (with_reducible apply Rd.alloc) | (with_reducible apply Rd.drew) | (with_reducible apply Rd.drewN))) (by (try unfold RdP); repeat (first | (with_reducible exact HP.out) | (with_reducible apply rd_seq) | (with_reducible apply Rd.plus) | (with_reducible apply Rd.alloc) | (with_reducible apply Rd.drew) | (with_reducible apply Rd.drewN)))).mono ?_
    rintro e w' ⟨rfl, y4, rfl⟩
    go_wp2_with fail
    go_ret
    exact ⟨rfl, (by repeat (first | exact Below.refl _ _ | refine below_plus ?_ (by first | omega | (simp <;> omega)) _ | refine Below.alloc ?_ (by first | omega | (simp <;> omega)) _ | refine below_patch ?_ (by omega) _ | refine Below.drew ?_))⟩
  have hk : rdb o l m ps base last s z c e1 = true := by
    cases hk : rdb o l m ps base last s z c e1
    · exact absurd (.inl hk) hbad
    · rfl
  have hsz : u.size ≤ 4000 := by
    rcases Nat.lt_or_ge 4000 u.size with h1 | h1
    · exact absurd (.inr h1) hbad
    · exact h1
  have hb0 := (rdb_parts hk).1.b0
  obtain ⟨b, rfl⟩ : ∃ b : Nat, base = b := ⟨base.toNat, by omega⟩
  have hz0 := (rdb_parts hk).2.z0
  have hz1 := (rdb_parts hk).2.z1
  have F := rfx (x := ⟨ps, last, s, z, c, e1⟩) (u := u) hk hsz
  obtain ⟨X, hX⟩ : ∃ X, rsX o l m b ⟨ps, last, s, z, c, e1⟩ u = X := ⟨_, rfl⟩
  obtain ⟨dt, hD⟩ : ∃ dt, rsD o l m b ⟨ps, last, s, z, c, e1⟩ u = dt := ⟨_, rfl⟩
  obtain ⟨n, hU⟩ : ∃ n, rsU o l m b ⟨ps, last, s, z, c, e1⟩ u = n := ⟨_, rfl⟩
  obtain ⟨HB, F2, F3, F4, F5, F6⟩ := F
  rw [hX] at F2 F3 F4
  rw [hX, hD, hU] at HB
  rw [hD] at F3
  rw [hU] at F4 F5 F6
  clear hX hD hU
  have F7 := rfx (x := X) (u := u) F2 hsz
  obtain ⟨qs, la, sb, z1, c1, e2⟩ := X
  have F2' : rdb o l m qs b la sb z1 c1 e2 = true := F2
  obtain ⟨kv2, rv2⟩ := rdb_parts F2'
  have hz2 := rv2.z1
  have hsb : sb.size ≤ 20 := by
    have := (wd_pos kv2).2
    rcases rv2.e with h1 | h1
    · have := h1.2.1; omega
    · omega
  have HI := Lib.hid HB.2
  have HS := Lib.hid HB.1
  have v1 : (dt.toList != dt.toList) = false := by simp
  have v2 : (n != n) = false := by simp
  obtain rfl : z1 = z + dt.size := F3
  have v3 : (z + (dt.size : Int) == z + (dt.size : Int)) = true := by simp
  have v4 : wrap64 (z + (dt.size : Int)) = z + (dt.size : Int) := wrap64_of (by omega) (by omega)
  by_cases he : e2 = 1
  · subst he
    obtain rfl : n = u.size := F4 rfl
    have v5 : ((u.size : Int) == (u.size : Int)) = true := by simp
    have V4 := Lib.hid v4
    obtain ⟨y, hy⟩ : ∃ y, rsX o l m b ⟨qs, la, sb, z + dt.size, c1, 1⟩ u = y := ⟨_, rfl⟩
    obtain ⟨d2, hd2⟩ : ∃ y, rsD o l m b ⟨qs, la, sb, z + dt.size, c1, 1⟩ u = y := ⟨_, rfl⟩
    obtain ⟨n2, hn2⟩ : ∃ y, rsU o l m b ⟨qs, la, sb, z + dt.size, c1, 1⟩ u = y := ⟨_, rfl⟩
    have HJ0 := F7.reads
    rw [hy, hd2, hn2] at HJ0
    obtain ⟨ts, la2, sb2, z2, c2, e3⟩ := y
    have HJ := Lib.hid HJ0.2
    clear HJ0 hy hd2 hn2 F7 F2 F2' kv2 rv2 HB hbad hk v4
    go_wp2_with fail
    refine (HI.out _ pa pc (by (try unfold RdP); repeat (first | (with_reducible exact HR.out) | (with_reducible apply rd_seq) | (with_reducible apply Rd.plus) | (with_reducible apply Rd.alloc) | (with_reducible apply Rd.drew) | (with_reducible apply Rd.drewN)))).mono ?_
    rintro e w' ⟨qa, qc, rfl, hown, y1, rfl⟩
    (try simp only [plus_plus] at hown)
    have HQ := Lib.hid (show Rd encP _ qa qc qs from hown.rd)
    clear hown
    go_wp2_with fail
    refine (HS.out _ pa pc (by (try unfold RdP); repeat (first | (with_reducible exact HR.out) | (with_reducible apply rd_seq) | (with_reducible apply Rd.plus) | (with_reducible apply Rd.alloc) | (with_reducible apply Rd.drew) | (with_reducible apply Rd.drewN)))).mono ?_
    rintro e w' ⟨ra, rc, rfl, hown, y2, rfl⟩
    (try simp only [plus_plus] at hown)
    have HP := Lib.hid (show Rd encP _ ra rc qs from hown.rd)
    clear hown
    go_wp2_with fail
    refine (soReaders_yes _ _ _ qa ra qc rc qs _ _ _ _ _ _ _ (by (try unfold RdP); repeat (first | (with_reducible exact HQ.out) | (with_reducible apply rd_seq) | (with_reducible apply Rd.plus) | (with_reducible apply Rd.alloc) | (with_reducible apply Rd.drew) | (with_reducible apply Rd.drewN))) (by (try unfold RdP); repeat (first | (with_reducible exact HP.out) | (with_reducible apply rd_seq) | (with_reducible apply Rd.plus) | (with_reducible apply Rd.alloc) | (with_reducible apply Rd.drew) | (with_reducible apply Rd.drewN)))).mono ?_
    rintro e w' ⟨rfl, y3, rfl⟩
    go_wp2_with fail
    refine (HJ.out _ qa qc (by (try unfold RdP); repeat (first | (with_reducible exact HQ.out) | (with_reducible apply rd_seq) | (with_reducible apply Rd.plus) | (with_reducible apply Rd.alloc) | (with_reducible apply Rd.drew) | (with_reducible apply Rd.drewN)))).mono ?_
    rintro e w' ⟨ta, tc, rfl, hown, y4, rfl⟩
    clear hown
    go_wp2_with fail
    go_ret
    exact ⟨rfl, (by repeat (first | exact Below.refl _ _ | refine below_plus ?_ (by first | omega | (simp <;> omega)) _ | refine Below.alloc ?_ (by first | omega | (simp <;> omega)) _ | refine below_patch ?_ (by omega) _ | refine Below.drew ?_))⟩
  · have hx : rsX o l m b ⟨qs, la, sb, z + dt.size, c1, e2⟩ u = ⟨qs, la, sb, z + dt.size, c1, e2⟩ := by unfold rsX; rw [if_neg he]
    have hd : rsD o l m b ⟨qs, la, sb, z + dt.size, c1, e2⟩ u = ⟨#[]⟩ := by unfold rsD; rw [if_neg he]
    have hu : rsU o l m b ⟨qs, la, sb, z + dt.size, c1, e2⟩ u = 0 := by unfold rsU; rw [if_neg he]
    have HJ0 := F7.reads
    rw [hx, hd, hu] at HJ0
    have HJ := Lib.hid HJ0.2
    have HN := Lib.hid (rnd_ended F2' he)
    have v5 : (e2 == 1) = false := by simp [he]
    have v6 : decide (n ≤ (u.size : Int)) = true := by simp; omega
    have V4 := Lib.hid v4
    clear HJ0 hx hd hu F7 F2 F2' kv2 rv2 HB hbad hk F4 v4
    go_wp2_with fail
    refine (HI.out _ pa pc (by (try unfold RdP); repeat (first | (with_reducible exact HR.out) | (with_reducible apply rd_seq) | (with_reducible apply Rd.plus) | (with_reducible apply Rd.alloc) | (with_reducible apply Rd.drew) | (with_reducible apply Rd.drewN)))).mono ?_
    rintro e w' ⟨qa, qc, rfl, hown, y1, rfl⟩
    (try simp only [plus_plus] at hown)
    have HQ := Lib.hid (show Rd encP _ qa qc qs from hown.rd)
    clear hown
    go_wp2_with fail
    refine (HS.out _ pa pc (by (try unfold RdP); repeat (first | (with_reducible exact HR.out) | (with_reducible apply rd_seq) | (with_reducible apply Rd.plus) | (with_reducible apply Rd.alloc) | (with_reducible apply Rd.drew) | (with_reducible apply Rd.drewN)))).mono ?_
    rintro e w' ⟨ra, rc, rfl, hown, y2, rfl⟩
    (try simp only [plus_plus] at hown)
    have HP := Lib.hid (show Rd encP _ ra rc qs from hown.rd)
    clear hown
    go_wp2_with fail
    refine (soReaders_yes _ _ _ qa ra qc rc qs _ _ _ _ _ _ _ (by (try unfold RdP); repeat (first | (with_reducible exact HQ.out) | (with_reducible apply rd_seq) | (with_reducible apply Rd.plus) | (with_reducible apply Rd.alloc) | (with_reducible apply Rd.drew) | (with_reducible apply Rd.drewN))) (by (try unfold RdP); repeat (first | (with_reducible exact HP.out) | (with_reducible apply rd_seq) | (with_reducible apply Rd.plus) | (with_reducible apply Rd.alloc) | (with_reducible apply Rd.drew) | (with_reducible apply Rd.drewN)))).mono ?_
    rintro e w' ⟨rfl, y3, rfl⟩
    go_wp2_with fail
    refine (HJ.out _ qa qc (by (try unfold RdP); repeat (first | (with_reducible exact HQ.out) | (with_reducible apply rd_seq) | (with_reducible apply Rd.plus) | (with_reducible apply Rd.alloc) | (with_reducible apply Rd.drew) | (with_reducible apply Rd.drewN)))).mono ?_
    rintro e w' ⟨ta, tc, rfl, hown, y4, rfl⟩
    (try simp only [plus_plus] at hown)
    have HT := Lib.hid (show Rd encP _ ta tc qs from hown.rd)
    clear hown
    go_wp2_with fail
    refine (soReaders_yes _ _ _ ta qa tc qc qs _ _ _ _ _ _ _ (by (try unfold RdP); repeat (first | (with_reducible exact HT.out) | (with_reducible apply rd_seq) | (with_reducible apply Rd.plus) | (with_reducible apply Rd.alloc) | (with_reducible apply Rd.drew) | (with_reducible apply Rd.drewN))) (by (try unfold RdP); repeat (first | (with_reducible exact HQ.out) | (with_reducible apply rd_seq) | (with_reducible apply Rd.plus) | (with_reducible apply Rd.alloc) | (with_reducible apply Rd.drew) | (with_reducible apply Rd.drewN)))).mono ?_
    rintro e w' ⟨rfl, y5, rfl⟩
    go_wp2_with fail
    refine (ReaderNeeds_any _ _ _ qa qc qs _ _ sb _ _ _ _ (by (try unfold RdP); repeat (first | (with_reducible exact HQ.out) | (with_reducible apply rd_seq) | (with_reducible apply Rd.plus) | (with_reducible apply Rd.alloc) | (with_reducible apply Rd.drew) | (with_reducible apply Rd.drewN))) (by unfold maxLen; omega)).mono ?_
    rintro e w' ⟨rfl, y6, rfl⟩
    rw [HN.out]
    go_wp2_with fail
    go_ret
    exact ⟨rfl, (by repeat (first | exact Below.refl _ _ | refine below_plus ?_ (by first | omega | (simp <;> omega)) _ | refine Below.alloc ?_ (by first | omega | (simp <;> omega)) _ | refine below_patch ?_ (by omega) _ | refine Below.drew ?_))⟩

end Go.Proofs.Ytibfkfinghcpaaa
