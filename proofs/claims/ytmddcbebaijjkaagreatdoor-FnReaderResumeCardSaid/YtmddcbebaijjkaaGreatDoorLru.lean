/- The law ReaderResume: the walk. -/
import Derived.Test.YtmddcbebaijjkaaGreatDoorDss
import Derived.Test.YtmddcbebaijjkaaGreatDoorLrs
import Derived.Test.YtmddcbebaijjkaaGreatDoorGv
import Derived.Test.YtmddcbebaijjkaaGreatDoorGm
import Derived.Test.YtmddcbebaijjkaaGreatDoorPrk
import Derived.Test.YtmddcbebaijjkaaGreatDoorGl
namespace Go.Proofs.YtmddcbebaijjkaaGreatDoor
open Go.RowKit
set_option linter.unusedVariables false
set_option linter.unusedSimpArgs false

set_option maxRecDepth 100000 in
set_option maxHeartbeats 4000000 in
theorem lawReaderResume_any (a : Option Addr) (cap : Nat) (bs : List UInt8) (w : World) (hr : Rd encB w a cap bs) (hlw : Lw w) :
    Calls Tryz.prog 4 #[.slice a bs.length cap] w (fun e w' => e = .returned (.bool true) ∧ Below w.heap.size w w') := by
  have g1 := hr.1
  have g2 := hr.2.1
  by_cases h1 : bs.length ≤ 1048576
  case neg =>
    go_enter Tryz.func4, Tryz.ntmps4
    go_wp2
    go_ret
    exact ⟨rfl, (by repeat (first | exact Below.refl _ _ | refine below_plus ?_ (by first | omega | (simp <;> omega)) _ | refine Below.alloc ?_ (by first | omega | (simp <;> omega)) _ | refine below_patch ?_ (by omega) _ | refine Below.drew ?_))⟩
  have HLW := Lib.hid hlw
  clear hlw
  go_enter Tryz.func4, Tryz.ntmps4
  go_wp2_with fail
  refine (DrawReadStream_any a cap bs _ (by repeat (first | exact hr | apply rd_seq | apply Rd.plus | apply Rd.alloc | apply Rd.drew | apply Rd.drewN | refine rd_patch ?_ _ _ (by intro A hA; first | (cases hA; show _ ≠ _; omega) | (have := hal A hA; omega))))).mono ?_
  rintro e w' ⟨o, l, m, pa, pc, ps, base, last, s, z, c, e1, u, rfl, hl3, hs1, hu5, hrd, hoff, x1, rfl⟩
  have HR := Lib.hid (show Rd encP _ pa pc ps from hrd)
  clear hrd hoff hr
  by_cases hbad : rdb o l m ps base last s z c e1 = false ∨ 4000 < u.size
  · have HB := reads_no (sb := s) (u := u) (by unfold maxLen; omega) (by unfold maxLen; omega) hbad
    have HI := Lib.hid HB.2
    have HS := Lib.hid HB.1
    clear hbad HB
    go_wp2_with fail
    refine (HI.out _ pa pc (by (try unfold RdP); repeat (first | (with_reducible exact HR.out) | (with_reducible apply rd_seq) | (with_reducible apply Rd.plus) | (with_reducible apply Rd.alloc) | (with_reducible apply Rd.drew) | (with_reducible apply Rd.drewN)))).mono ?_
    rintro e w' ⟨qa, qc, rfl, hown, y1, rfl⟩
    (try simp only [plus_plus] at hown)
    have HQ := Lib.hid (show Rd encP _ qa qc ([] : List Pr) from hown.rd)
    clear hown
    go_wp2_with fail
    refine (HS.out _ pa pc (by (try unfold RdP); repeat (first | (with_reducible exact HR.out) | (with_reducible apply rd_seq) | (with_reducible apply Rd.plus) | (with_reducible apply Rd.alloc) | (with_reducible apply Rd.drew) | (with_reducible apply Rd.drewN)))).mono ?_
    rintro e w' ⟨ra, rc, rfl, hown, y2, rfl⟩
    (try simp only [plus_plus] at hown)
    have HP := Lib.hid (show Rd encP _ ra rc ([] : List Pr) from hown.rd)
    clear hown
    go_wp2_with fail
    refine (soReaders_yes _ _ _ qa ra qc rc ([] : List Pr) _ _ _ _ _ _ _ (by (try unfold RdP); repeat (first | (with_reducible exact HQ.out) | (with_reducible apply rd_seq) | (with_reducible apply Rd.plus) | (with_reducible apply Rd.alloc) | (with_reducible apply Rd.drew) | (with_reducible apply Rd.drewN))) (by (try unfold RdP); repeat (first | (with_reducible exact HP.out) | (with_reducible apply rd_seq) | (with_reducible apply Rd.plus) | (with_reducible apply Rd.alloc) | (with_reducible apply Rd.drew) | (with_reducible apply Rd.drewN)))).mono ?_
    rintro e w' ⟨rfl, y3, rfl⟩
    go_wp2_with fail
    refine (soReaders_yes _ _ _ qa ra qc rc ([] : List Pr) _ _ _ _ _ _ _ (by (try unfold RdP); repeat (first | (with_reducible exact HQ.out) | (with_reducible apply rd_seq) | (with_reducible apply Rd.plus) | (with_reducible apply Rd.alloc) | (with_reducible apply Rd.drew) | (with_reducible apply Rd.drewN))) (by (try unfold RdP); repeat (first | (with_reducible exact HP.out) | (with_reducible apply rd_seq) | (with_reducible apply Rd.plus) | (with_reducible apply Rd.alloc) | (with_reducible apply Rd.drew) | (with_reducible apply Rd.drewN)))).mono ?_
    rintro e w' ⟨rfl, y4, rfl⟩
    go_wp2_with fail
    go_ret
    exact ⟨rfl, (by repeat (first | exact Below.refl _ _ | refine below_plus ?_ (by first | omega | (simp <;> omega)) _ | refine Below.alloc ?_ (by first | omega | (simp <;> omega)) _ | refine below_patch ?_ (by omega) _ | refine Below.drew ?_))⟩
  have hk : rdb o l m ps base last s z c e1 = true := by
    cases hk : rdb o l m ps base last s z c e1
    · exact absurd (.inl hk) hbad
    · rfl
  have hsz : u.size ≤ 4000 := by
    rcases Nat.lt_or_ge 4000 u.size with h1 | h1
    · exact absurd (.inr h1) hbad
    · exact h1
  have hb0 := (rdb_parts hk).1.b0
  obtain ⟨b, rfl⟩ : ∃ b : Nat, base = b := ⟨base.toNat, by omega⟩
  have hTs := rdT_size hk hs1
  obtain ⟨T, hT⟩ : ∃ T, rdT o l m ps b last s z c e1 = T := ⟨_, rfl⟩
  have HT := Lib.hid hT
  have HK := Lib.hid hk
  rw [hT] at hTs
  have HFI := Lib.hid (fun (W : World) (h : RdP W pa pc ps) (hl : Lw W) => implFormatReader_yes o l m pa pc ps b last s z c e1 W h (by omega) hk hl.tb)
  rw [hT] at HFI
  clear hT
  have F := rfx (x := ⟨ps, last, s, z, c, e1⟩) (u := u) hk hsz
  obtain ⟨X, hX⟩ : ∃ X, rsX o l m b ⟨ps, last, s, z, c, e1⟩ u = X := ⟨_, rfl⟩
  obtain ⟨dt, hD⟩ : ∃ dt, rsD o l m b ⟨ps, last, s, z, c, e1⟩ u = dt := ⟨_, rfl⟩
  obtain ⟨n, hU⟩ : ∃ n, rsU o l m b ⟨ps, last, s, z, c, e1⟩ u = n := ⟨_, rfl⟩
  obtain ⟨HB, F2, F3, F4, F5, F6⟩ := F
  rw [hX, hD, hU] at HB
  clear hX hD hU F2 F3 F4 F5 F6
  obtain ⟨qs, la, sb, z1, c1, e2⟩ := X
  have HI := Lib.hid HB.2
  have HS := Lib.hid HB.1
  have v1 : (dt.toList != dt.toList) = false := by simp
  have v2 : (n != n) = false := by simp
  have v3 : (dt.toList == dt.toList) = true := by simp
  have v4 : (n == n) = true := by simp
  clear HB hbad hk hb0
  go_wp2_with fail
  refine (HI.out _ pa pc (by (try unfold RdP); repeat (first | (with_reducible exact HR.out) | (with_reducible apply rd_seq) | (with_reducible apply Rd.plus) | (with_reducible apply Rd.alloc) | (with_reducible apply Rd.drew) | (with_reducible apply Rd.drewN)))).mono ?_
  rintro e w' ⟨qa, qc, rfl, hown, y1, rfl⟩
  (try simp only [plus_plus] at hown)
  have HQ := Lib.hid (show Rd encP _ qa qc qs from hown.rd)
  clear hown
  go_wp2_with fail
  refine (HS.out _ pa pc (by (try unfold RdP); repeat (first | (with_reducible exact HR.out) | (with_reducible apply rd_seq) | (with_reducible apply Rd.plus) | (with_reducible apply Rd.alloc) | (with_reducible apply Rd.drew) | (with_reducible apply Rd.drewN)))).mono ?_
  rintro e w' ⟨ra, rc, rfl, hown, y2, rfl⟩
  (try simp only [plus_plus] at hown)
  have HP := Lib.hid (show Rd encP _ ra rc qs from hown.rd)
  clear hown
  go_wp2_with fail
  refine (soReaders_yes _ _ _ qa ra qc rc qs _ _ _ _ _ _ _ (by (try unfold RdP); repeat (first | (with_reducible exact HQ.out) | (with_reducible apply rd_seq) | (with_reducible apply Rd.plus) | (with_reducible apply Rd.alloc) | (with_reducible apply Rd.drew) | (with_reducible apply Rd.drewN))) (by (try unfold RdP); repeat (first | (with_reducible exact HP.out) | (with_reducible apply rd_seq) | (with_reducible apply Rd.plus) | (with_reducible apply Rd.alloc) | (with_reducible apply Rd.drew) | (with_reducible apply Rd.drewN)))).mono ?_
  rintro e w' ⟨rfl, y3, rfl⟩
  go_wp2_with fail
  refine (HFI.out _ (by (try unfold RdP); repeat (first | (with_reducible exact HR.out) | (with_reducible apply rd_seq) | (with_reducible apply Rd.plus) | (with_reducible apply Rd.alloc) | (with_reducible apply Rd.drew) | (with_reducible apply Rd.drewN))) (HLW.out.below (by repeat (first | exact Below.refl _ _ | refine below_plus ?_ (by first | omega | (simp <;> omega)) _ | refine Below.alloc ?_ (by first | omega | (simp <;> omega)) _ | refine below_patch ?_ (by omega) _ | refine Below.drew ?_)))).mono ?_
  rintro e w' ⟨rfl, y4, rfl⟩
  go_wp2_with fail
  refine (ParseReader_any T _ (by omega) (HLW.out.below (by repeat (first | exact Below.refl _ _ | refine below_plus ?_ (by first | omega | (simp <;> omega)) _ | refine Below.alloc ?_ (by first | omega | (simp <;> omega)) _ | refine below_patch ?_ (by omega) _ | refine Below.drew ?_)))).mono ?_
  intro e w' h
  obtain ⟨za, zc, rfl, hown, y5, rfl⟩ := rkT_yes h HK.out HT.out.symm
  clear h
  (try simp only [plus_plus] at hown)
  have HZ := Lib.hid (show Rd encP _ za zc ps from hown.rd)
  clear hown
  go_wp2_with fail
  refine (HI.out _ za zc (by (try unfold RdP); repeat (first | (with_reducible exact HZ.out) | (with_reducible apply rd_seq) | (with_reducible apply Rd.plus) | (with_reducible apply Rd.alloc) | (with_reducible apply Rd.drew) | (with_reducible apply Rd.drewN)))).mono ?_
  rintro e w' ⟨ta, tc, rfl, hown, y6, rfl⟩
  (try simp only [plus_plus] at hown)
  have HV := Lib.hid (show Rd encP _ ta tc qs from hown.rd)
  clear hown
  go_wp2_with fail
  refine (soReaders_yes _ _ _ ta qa tc qc qs _ _ _ _ _ _ _ (by (try unfold RdP); repeat (first | (with_reducible exact HV.out) | (with_reducible apply rd_seq) | (with_reducible apply Rd.plus) | (with_reducible apply Rd.alloc) | (with_reducible apply Rd.drew) | (with_reducible apply Rd.drewN))) (by (try unfold RdP); repeat (first | (with_reducible exact HQ.out) | (with_reducible apply rd_seq) | (with_reducible apply Rd.plus) | (with_reducible apply Rd.alloc) | (with_reducible apply Rd.drew) | (with_reducible apply Rd.drewN)))).mono ?_
  rintro e w' ⟨rfl, y7, rfl⟩
  go_wp2_with fail
  go_ret
  exact ⟨rfl, (by repeat (first | exact Below.refl _ _ | refine below_plus ?_ (by first | omega | (simp <;> omega)) _ | refine Below.alloc ?_ (by first | omega | (simp <;> omega)) _ | refine below_patch ?_ (by omega) _ | refine Below.drew ?_))⟩

end Go.Proofs.YtmddcbebaijjkaaGreatDoor
