/- The law ReaderText: the walk. -/
import Derived.Test.YtmddcbebaijjkaaGreatDoorDpr
import Derived.Test.YtmddcbebaijjkaaGreatDoorGm
import Derived.Test.YtmddcbebaijjkaaGreatDoorPrs
import Derived.Test.YtmddcbebaijjkaaGreatDoorPrk
import Derived.Test.YtmddcbebaijjkaaGreatDoorGl
import Derived.Test.YtmddcbebaijjkaaGreatDoorLrs
namespace Go.Proofs.YtmddcbebaijjkaaGreatDoor
open Go.RowKit
set_option linter.unusedVariables false
set_option linter.unusedSimpArgs false

set_option maxRecDepth 100000 in
set_option maxHeartbeats 4000000 in
theorem lawReaderText_any (a : Option Addr) (cap : Nat) (bs : List UInt8) (a2 : Option Addr) (cap2 : Nat) (bs2 : List UInt8) (w : World) (hr : Rd encB w a cap bs) (hr2 : Rd encB w a2 cap2 bs2) (hlw : Lw w) :
    Calls Tryz.prog 5 #[.slice a bs.length cap, .slice a2 bs2.length cap2] w (fun e w' => e = .returned (.bool true) ∧ Below w.heap.size w w') := by
  have g1 := hr.1
  have g2 := hr.2.1
  have g3 := hr2.1
  have g4 := hr2.2.1
  by_cases h1 : bs.length ≤ 1048576
  case neg =>
    go_enter Tryz.func5, Tryz.ntmps5
    go_wp2
    go_ret
    exact ⟨rfl, (by repeat (first | exact Below.refl _ _ | refine below_plus ?_ (by first | omega | (simp <;> omega)) _ | refine Below.alloc ?_ (by first | omega | (simp <;> omega)) _ | refine below_patch ?_ (by omega) _ | refine Below.drew ?_))⟩
  by_cases h2 : bs2.length ≤ 1048576
  case neg =>
    go_enter Tryz.func5, Tryz.ntmps5
    go_wp2
    go_ret
    exact ⟨rfl, (by repeat (first | exact Below.refl _ _ | refine below_plus ?_ (by first | omega | (simp <;> omega)) _ | refine Below.alloc ?_ (by first | omega | (simp <;> omega)) _ | refine below_patch ?_ (by omega) _ | refine Below.drew ?_))⟩
  have HR2 := Lib.hid hr2
  have HLW := Lib.hid hlw
  clear hr2 hlw
  go_enter Tryz.func5, Tryz.ntmps5
  go_wp2_with fail
  refine (DrawFormatReader_any a cap bs _ (by repeat (first | exact hr | apply rd_seq | apply Rd.plus | apply Rd.alloc | apply Rd.drew | apply Rd.drewN | refine rd_patch ?_ _ _ (by intro A hA; first | (cases hA; show _ ≠ _; omega) | (have := hal A hA; omega))))).mono ?_
  rintro e w' ⟨o, l, m, pa, pc, ps, base, last, s, z, c, e9, rfl, hl3, hs9, hrd, hoff, x1, rfl⟩
  have HR := Lib.hid (show Rd encP _ pa pc ps from hrd)
  have hm : s.size ≤ maxLen := by unfold maxLen; omega
  clear hrd hr hoff
  cases hk : rdb o l m ps base last s z c e9
  · have HK := Lib.hid hk
    clear hk
    go_wp2_with fail
    refine (implFormatReader_no o l m pa pc ps base last s z c e9 _ (by (try unfold RdP); repeat (first | (with_reducible exact HR.out) | (with_reducible apply rd_seq) | (with_reducible apply Rd.plus) | (with_reducible apply Rd.alloc) | (with_reducible apply Rd.drew) | (with_reducible apply Rd.drewN))) hm HK.out).mono ?_
    rintro e w' ⟨rfl, x2, rfl⟩
    go_wp2_with fail
    refine (specFormatReader_no o l m pa pc ps base last s z c e9 _ (by (try unfold RdP); repeat (first | (with_reducible exact HR.out) | (with_reducible apply rd_seq) | (with_reducible apply Rd.plus) | (with_reducible apply Rd.alloc) | (with_reducible apply Rd.drew) | (with_reducible apply Rd.drewN))) hm HK.out).mono ?_
    rintro e w' ⟨rfl, x3, rfl⟩
    go_wp2_with fail
    refine (ReaderValid_any o l m pa pc ps base last s z c e9 _ (by (try unfold RdP); repeat (first | (with_reducible exact HR.out) | (with_reducible apply rd_seq) | (with_reducible apply Rd.plus) | (with_reducible apply Rd.alloc) | (with_reducible apply Rd.drew) | (with_reducible apply Rd.drewN))) hm).mono ?_
    rintro e w' ⟨rfl, x4, rfl⟩
    rw [HK.out]
    go_wp2_with fail
    refine (DrawParseReader_any a2 cap2 bs2 _ (rdF HR2.out (by repeat (first | exact Below.refl _ _ | refine below_plus ?_ (by first | omega | (simp <;> omega)) _ | refine Below.alloc ?_ (by first | omega | (simp <;> omega)) _ | refine below_patch ?_ (by omega) _ | refine Below.drew ?_)))).mono ?_
    rintro e w' ⟨t, rfl, ht, y1, rfl⟩
    by_cases hh : ∃ (o l m : Int) (ps : List Pr) (b la : Int) (s : ByteArray) (z c e : Int), rdb o l m ps b la s z c e = true ∧ t = rdT o l m ps b la s z c e
    · obtain ⟨o1, l1, m1, qs, b1, la1, s1, z1, c1, e1, hk1, hs1⟩ := hh
      have hs2 := rdT_str o1 l1 m1 qs b1 la1 s1 z1 c1 e1
      rw [← hs1] at hs2
      have HK1 := Lib.hid hk1
      have HS1 := Lib.hid hs1
      clear hk1 hs1
      go_wp2_with fail
      refine (ParseReader_any t _ (by omega) (HLW.out.below (by repeat (first | exact Below.refl _ _ | refine below_plus ?_ (by first | omega | (simp <;> omega)) _ | refine Below.alloc ?_ (by first | omega | (simp <;> omega)) _ | refine below_patch ?_ (by omega) _ | refine Below.drew ?_)))).mono ?_
      intro e w' h
      obtain ⟨qa, qc, rfl, hown, y2, rfl⟩ := rkT_yes h HK1.out HS1.out
      clear h
      (try simp only [plus_plus] at hown)
      have HQ := Lib.hid (show Rd encP _ qa qc qs from hown.rd)
      clear hown
      go_wp2_with fail
      refine (specParseReader_any t _ (by omega)).mono ?_
      intro e w' h
      obtain ⟨ra, rc, rfl, hown, y3, rfl⟩ := rkT_yes h HK1.out HS1.out
      clear h
      (try simp only [plus_plus] at hown)
      have HP := Lib.hid (show Rd encP _ ra rc qs from hown.rd)
      clear hown
      go_wp2_with fail
      refine (soReaders_yes o1 l1 m1 qa ra qc rc qs b1 la1 s1 z1 c1 e1 _ (by (try unfold RdP); repeat (first | (with_reducible exact HQ.out) | (with_reducible apply rd_seq) | (with_reducible apply Rd.plus) | (with_reducible apply Rd.alloc) | (with_reducible apply Rd.drew) | (with_reducible apply Rd.drewN))) (by (try unfold RdP); repeat (first | (with_reducible exact HP.out) | (with_reducible apply rd_seq) | (with_reducible apply Rd.plus) | (with_reducible apply Rd.alloc) | (with_reducible apply Rd.drew) | (with_reducible apply Rd.drewN)))).mono ?_
      rintro e w' ⟨rfl, y4, rfl⟩
      go_wp2_with fail
      refine (implFormatReader_yes o1 l1 m1 qa qc qs b1 la1 s1 z1 c1 e1 _ (by (try unfold RdP); repeat (first | (with_reducible exact HQ.out) | (with_reducible apply rd_seq) | (with_reducible apply Rd.plus) | (with_reducible apply Rd.alloc) | (with_reducible apply Rd.drew) | (with_reducible apply Rd.drewN))) (by omega) HK1.out (HLW.out.below (by repeat (first | exact Below.refl _ _ | refine below_plus ?_ (by first | omega | (simp <;> omega)) _ | refine Below.alloc ?_ (by first | omega | (simp <;> omega)) _ | refine below_patch ?_ (by omega) _ | refine Below.drew ?_))).tb).mono ?_
      rintro e w' ⟨rfl, y5, rfl⟩
      rw [← HS1.out]
      go_wp2_with fail
      go_ret
      exact ⟨rfl, (by repeat (first | exact Below.refl _ _ | refine below_plus ?_ (by first | omega | (simp <;> omega)) _ | refine Below.alloc ?_ (by first | omega | (simp <;> omega)) _ | refine below_patch ?_ (by omega) _ | refine Below.drew ?_))⟩
    · have HN := Lib.hid (fun (o l m : Int) (ps : List Pr) (b la : Int) (s : ByteArray) (z c e : Int) (hk : rdb o l m ps b la s z c e = true) (ht : t = rdT o l m ps b la s z c e) => hh ⟨o, l, m, ps, b, la, s, z, c, e, hk, ht⟩)
      clear hh
      go_wp2_with fail
      refine (ParseReader_any t _ (by omega) (HLW.out.below (by repeat (first | exact Below.refl _ _ | refine below_plus ?_ (by first | omega | (simp <;> omega)) _ | refine Below.alloc ?_ (by first | omega | (simp <;> omega)) _ | refine below_patch ?_ (by omega) _ | refine Below.drew ?_)))).mono ?_
      intro e w' h
      obtain ⟨qa, qc, rfl, hown, y2, rfl⟩ := rkT_no h HN.out
      clear h
      (try simp only [plus_plus] at hown)
      have HQ := Lib.hid (show Rd encP _ qa qc ([] : List Pr) from hown.rd)
      clear hown
      go_wp2_with fail
      refine (specParseReader_any t _ (by omega)).mono ?_
      intro e w' h
      obtain ⟨ra, rc, rfl, hown, y3, rfl⟩ := rkT_no h HN.out
      clear h
      (try simp only [plus_plus] at hown)
      have HP := Lib.hid (show Rd encP _ ra rc ([] : List Pr) from hown.rd)
      clear hown
      go_wp2_with fail
      refine (soReaders_yes 0 0 0 qa ra qc rc ([] : List Pr) 0 0 ⟨#[]⟩ 0 0 0 _ (by (try unfold RdP); repeat (first | (with_reducible exact HQ.out) | (with_reducible apply rd_seq) | (with_reducible apply Rd.plus) | (with_reducible apply Rd.alloc) | (with_reducible apply Rd.drew) | (with_reducible apply Rd.drewN))) (by (try unfold RdP); repeat (first | (with_reducible exact HP.out) | (with_reducible apply rd_seq) | (with_reducible apply Rd.plus) | (with_reducible apply Rd.alloc) | (with_reducible apply Rd.drew) | (with_reducible apply Rd.drewN)))).mono ?_
      rintro e w' ⟨rfl, y4, rfl⟩
      go_wp2_with fail
      go_ret
      exact ⟨rfl, (by repeat (first | exact Below.refl _ _ | refine below_plus ?_ (by first | omega | (simp <;> omega)) _ | refine Below.alloc ?_ (by first | omega | (simp <;> omega)) _ | refine below_patch ?_ (by omega) _ | refine Below.drew ?_))⟩
  · have HK := Lib.hid hk
    have hTs := rdT_size hk hs9
    have hTp := rdT_pos o l m ps base last s z c e9
    obtain ⟨T, hT⟩ : ∃ T, rdT o l m ps base last s z c e9 = T := ⟨_, rfl⟩
    have HT := Lib.hid hT
    rw [hT] at hTs hTp
    have hTe := isEmpty_size T
    rw [decide_eq_false (by omega)] at hTe
    have HFI := Lib.hid (fun (W : World) (h : RdP W pa pc ps) (hl : Lw W) => implFormatReader_yes o l m pa pc ps base last s z c e9 W h (by omega) hk hl.tb)
    have HFS := Lib.hid (fun (W : World) (h : RdP W pa pc ps) => specFormatReader_yes o l m pa pc ps base last s z c e9 W h (by omega) hk)
    rw [hT] at HFI HFS
    clear hk hT
    go_wp2_with fail
    refine (HFI.out _ (by (try unfold RdP); repeat (first | (with_reducible exact HR.out) | (with_reducible apply rd_seq) | (with_reducible apply Rd.plus) | (with_reducible apply Rd.alloc) | (with_reducible apply Rd.drew) | (with_reducible apply Rd.drewN))) (HLW.out.below (by repeat (first | exact Below.refl _ _ | refine below_plus ?_ (by first | omega | (simp <;> omega)) _ | refine Below.alloc ?_ (by first | omega | (simp <;> omega)) _ | refine below_patch ?_ (by omega) _ | refine Below.drew ?_)))).mono ?_
    rintro e w' ⟨rfl, x2, rfl⟩
    go_wp2_with fail
    refine (HFS.out _ (by (try unfold RdP); repeat (first | (with_reducible exact HR.out) | (with_reducible apply rd_seq) | (with_reducible apply Rd.plus) | (with_reducible apply Rd.alloc) | (with_reducible apply Rd.drew) | (with_reducible apply Rd.drewN)))).mono ?_
    rintro e w' ⟨rfl, x3, rfl⟩
    go_wp2_with fail
    refine (ReaderValid_any o l m pa pc ps base last s z c e9 _ (by (try unfold RdP); repeat (first | (with_reducible exact HR.out) | (with_reducible apply rd_seq) | (with_reducible apply Rd.plus) | (with_reducible apply Rd.alloc) | (with_reducible apply Rd.drew) | (with_reducible apply Rd.drewN))) hm).mono ?_
    rintro e w' ⟨rfl, x4, rfl⟩
    rw [HK.out]
    go_wp2_with fail
    refine (ParseReader_any T _ (by omega) (HLW.out.below (by repeat (first | exact Below.refl _ _ | refine below_plus ?_ (by first | omega | (simp <;> omega)) _ | refine Below.alloc ?_ (by first | omega | (simp <;> omega)) _ | refine below_patch ?_ (by omega) _ | refine Below.drew ?_)))).mono ?_
    intro e w' h
    obtain ⟨za, zc, rfl, hown, x5, rfl⟩ := rkT_yes h HK.out HT.out.symm
    clear h
    (try simp only [plus_plus] at hown)
    have HZ := Lib.hid (show Rd encP _ za zc ps from hown.rd)
    clear hown
    go_wp2_with fail
    refine (soReaders_yes o l m za pa zc pc ps base last s z c e9 _ (by (try unfold RdP); repeat (first | (with_reducible exact HZ.out) | (with_reducible apply rd_seq) | (with_reducible apply Rd.plus) | (with_reducible apply Rd.alloc) | (with_reducible apply Rd.drew) | (with_reducible apply Rd.drewN))) (by (try unfold RdP); repeat (first | (with_reducible exact HR.out) | (with_reducible apply rd_seq) | (with_reducible apply Rd.plus) | (with_reducible apply Rd.alloc) | (with_reducible apply Rd.drew) | (with_reducible apply Rd.drewN)))).mono ?_
    rintro e w' ⟨rfl, x6, rfl⟩
    go_wp2_with fail
    refine (DrawParseReader_any a2 cap2 bs2 _ (rdF HR2.out (by repeat (first | exact Below.refl _ _ | refine below_plus ?_ (by first | omega | (simp <;> omega)) _ | refine Below.alloc ?_ (by first | omega | (simp <;> omega)) _ | refine below_patch ?_ (by omega) _ | refine Below.drew ?_)))).mono ?_
    rintro e w' ⟨t, rfl, ht, y1, rfl⟩
    by_cases hh : ∃ (o l m : Int) (ps : List Pr) (b la : Int) (s : ByteArray) (z c e : Int), rdb o l m ps b la s z c e = true ∧ t = rdT o l m ps b la s z c e
    · obtain ⟨o1, l1, m1, qs, b1, la1, s1, z1, c1, e1, hk1, hs1⟩ := hh
      have hs2 := rdT_str o1 l1 m1 qs b1 la1 s1 z1 c1 e1
      rw [← hs1] at hs2
      have HK1 := Lib.hid hk1
      have HS1 := Lib.hid hs1
      clear hk1 hs1
      go_wp2_with fail
      refine (ParseReader_any t _ (by omega) (HLW.out.below (by repeat (first | exact Below.refl _ _ | refine below_plus ?_ (by first | omega | (simp <;> omega)) _ | refine Below.alloc ?_ (by first | omega | (simp <;> omega)) _ | refine below_patch ?_ (by omega) _ | refine Below.drew ?_)))).mono ?_
      intro e w' h
      obtain ⟨qa, qc, rfl, hown, y2, rfl⟩ := rkT_yes h HK1.out HS1.out
      clear h
      (try simp only [plus_plus] at hown)
      have HQ := Lib.hid (show Rd encP _ qa qc qs from hown.rd)
      clear hown
      go_wp2_with fail
      refine (specParseReader_any t _ (by omega)).mono ?_
      intro e w' h
      obtain ⟨ra, rc, rfl, hown, y3, rfl⟩ := rkT_yes h HK1.out HS1.out
      clear h
      (try simp only [plus_plus] at hown)
      have HP := Lib.hid (show Rd encP _ ra rc qs from hown.rd)
      clear hown
      go_wp2_with fail
      refine (soReaders_yes o1 l1 m1 qa ra qc rc qs b1 la1 s1 z1 c1 e1 _ (by (try unfold RdP); repeat (first | (with_reducible exact HQ.out) | (with_reducible apply rd_seq) | (with_reducible apply Rd.plus) | (with_reducible apply Rd.alloc) | (with_reducible apply Rd.drew) | (with_reducible apply Rd.drewN))) (by (try unfold RdP); repeat (first | (with_reducible exact HP.out) | (with_reducible apply rd_seq) | (with_reducible apply Rd.plus) | (with_reducible apply Rd.alloc) | (with_reducible apply Rd.drew) | (with_reducible apply Rd.drewN)))).mono ?_
      rintro e w' ⟨rfl, y4, rfl⟩
      go_wp2_with fail
      refine (implFormatReader_yes o1 l1 m1 qa qc qs b1 la1 s1 z1 c1 e1 _ (by (try unfold RdP); repeat (first | (with_reducible exact HQ.out) | (with_reducible apply rd_seq) | (with_reducible apply Rd.plus) | (with_reducible apply Rd.alloc) | (with_reducible apply Rd.drew) | (with_reducible apply Rd.drewN))) (by omega) HK1.out (HLW.out.below (by repeat (first | exact Below.refl _ _ | refine below_plus ?_ (by first | omega | (simp <;> omega)) _ | refine Below.alloc ?_ (by first | omega | (simp <;> omega)) _ | refine below_patch ?_ (by omega) _ | refine Below.drew ?_))).tb).mono ?_
      rintro e w' ⟨rfl, y5, rfl⟩
      rw [← HS1.out]
      go_wp2_with fail
      go_ret
      exact ⟨rfl, (by repeat (first | exact Below.refl _ _ | refine below_plus ?_ (by first | omega | (simp <;> omega)) _ | refine Below.alloc ?_ (by first | omega | (simp <;> omega)) _ | refine below_patch ?_ (by omega) _ | refine Below.drew ?_))⟩
    · have HN := Lib.hid (fun (o l m : Int) (ps : List Pr) (b la : Int) (s : ByteArray) (z c e : Int) (hk : rdb o l m ps b la s z c e = true) (ht : t = rdT o l m ps b la s z c e) => hh ⟨o, l, m, ps, b, la, s, z, c, e, hk, ht⟩)
      clear hh
      go_wp2_with fail
      refine (ParseReader_any t _ (by omega) (HLW.out.below (by repeat (first | exact Below.refl _ _ | refine below_plus ?_ (by first | omega | (simp <;> omega)) _ | refine Below.alloc ?_ (by first | omega | (simp <;> omega)) _ | refine below_patch ?_ (by omega) _ | refine Below.drew ?_)))).mono ?_
      intro e w' h
      obtain ⟨qa, qc, rfl, hown, y2, rfl⟩ := rkT_no h HN.out
      clear h
      (try simp only [plus_plus] at hown)
      have HQ := Lib.hid (show Rd encP _ qa qc ([] : List Pr) from hown.rd)
      clear hown
      go_wp2_with fail
      refine (specParseReader_any t _ (by omega)).mono ?_
      intro e w' h
      obtain ⟨ra, rc, rfl, hown, y3, rfl⟩ := rkT_no h HN.out
      clear h
      (try simp only [plus_plus] at hown)
      have HP := Lib.hid (show Rd encP _ ra rc ([] : List Pr) from hown.rd)
      clear hown
      go_wp2_with fail
      refine (soReaders_yes 0 0 0 qa ra qc rc ([] : List Pr) 0 0 ⟨#[]⟩ 0 0 0 _ (by (try unfold RdP); repeat (first | (with_reducible exact HQ.out) | (with_reducible apply rd_seq) | (with_reducible apply Rd.plus) | (with_reducible apply Rd.alloc) | (with_reducible apply Rd.drew) | (with_reducible apply Rd.drewN))) (by (try unfold RdP); repeat (first | (with_reducible exact HP.out) | (with_reducible apply rd_seq) | (with_reducible apply Rd.plus) | (with_reducible apply Rd.alloc) | (with_reducible apply Rd.drew) | (with_reducible apply Rd.drewN)))).mono ?_
      rintro e w' ⟨rfl, y4, rfl⟩
      go_wp2_with fail
      go_ret
      exact ⟨rfl, (by repeat (first | exact Below.refl _ _ | refine below_plus ?_ (by first | omega | (simp <;> omega)) _ | refine Below.alloc ?_ (by first | omega | (simp <;> omega)) _ | refine below_patch ?_ (by omega) _ | refine Below.drew ?_))⟩

end Go.Proofs.YtmddcbebaijjkaaGreatDoor
