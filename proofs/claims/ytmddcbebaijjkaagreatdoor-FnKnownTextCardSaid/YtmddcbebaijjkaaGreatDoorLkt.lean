/- The law KnownText: the walk. -/
import Derived.Test.YtmddcbebaijjkaaGreatDoorDkf
import Derived.Test.YtmddcbebaijjkaaGreatDoorDpk
import Derived.Test.YtmddcbebaijjkaaGreatDoorGm
import Derived.Test.YtmddcbebaijjkaaGreatDoorGn

import Derived.Test.YtmddcbebaijjkaaGreatDoorGl

import Derived.Test.YtmddcbebaijjkaaGreatDoorSok
namespace Go.Proofs.YtmddcbebaijjkaaGreatDoor
open Go.RowKit
set_option linter.unusedVariables false
set_option linter.unusedSimpArgs false

set_option maxRecDepth 100000 in
set_option maxHeartbeats 4000000 in
theorem lawKnownText_any (a : Option Addr) (cap : Nat) (bs : List UInt8) (a2 : Option Addr) (cap2 : Nat) (bs2 : List UInt8) (w : World) (hr : Rd encB w a cap bs) (hr2 : Rd encB w a2 cap2 bs2) (hlw : Lw w) :
    Calls Tryz.prog 6 #[.slice a bs.length cap, .slice a2 bs2.length cap2] w (fun e w' => e = .returned (.bool true) ∧ Below w.heap.size w w') := by
  have g1 := hr.1
  have g2 := hr.2.1
  have g3 := hr2.1
  have g4 := hr2.2.1
  by_cases h1 : bs.length ≤ 1048576
  case neg =>
    go_enter Tryz.func6, Tryz.ntmps6
    go_wp2
    go_ret
    exact ⟨rfl, (by repeat (first | exact Below.refl _ _ | refine below_plus ?_ (by first | omega | (simp <;> omega)) _ | refine Below.alloc ?_ (by first | omega | (simp <;> omega)) _ | refine below_patch ?_ (by omega) _ | refine Below.drew ?_))⟩
  by_cases h2 : bs2.length ≤ 1048576
  case neg =>
    go_enter Tryz.func6, Tryz.ntmps6
    go_wp2
    go_ret
    exact ⟨rfl, (by repeat (first | exact Below.refl _ _ | refine below_plus ?_ (by first | omega | (simp <;> omega)) _ | refine Below.alloc ?_ (by first | omega | (simp <;> omega)) _ | refine below_patch ?_ (by omega) _ | refine Below.drew ?_))⟩
  have HR2 := Lib.hid hr2
  have HLW := Lib.hid hlw
  clear hr2 hlw
  go_enter Tryz.func6, Tryz.ntmps6
  go_wp2_with fail
  refine (DrawFormatKnown_any a cap bs _ (by repeat (first | exact hr | apply rd_seq | apply Rd.plus | apply Rd.alloc | apply Rd.drew | apply Rd.drewN | refine rd_patch ?_ _ _ (by intro A hA; first | (cases hA; show _ ≠ _; omega) | (have := hal A hA; omega))))).mono ?_
  rintro e w' ⟨o, l, m, pa, pc, ps, base, last, rfl, hl3, hrd, x1, rfl⟩
  have HR := Lib.hid (show Rd encP _ pa pc ps from hrd)
  clear hrd hr
  cases hk : kvb o l m ps base last
  · have HK := Lib.hid hk
    clear hk
    go_wp2_with fail
    refine (implFormatKnown_no o l m pa pc ps base last _ (by (try unfold RdP); repeat (first | (with_reducible exact HR.out) | (with_reducible apply rd_seq) | (with_reducible apply Rd.plus) | (with_reducible apply Rd.alloc) | (with_reducible apply Rd.drew) | (with_reducible apply Rd.drewN))) HK.out).mono ?_
    rintro e w' ⟨rfl, x2, rfl⟩
    go_wp2_with fail
    refine (specFormatKnown_no o l m pa pc ps base last _ (by (try unfold RdP); repeat (first | (with_reducible exact HR.out) | (with_reducible apply rd_seq) | (with_reducible apply Rd.plus) | (with_reducible apply Rd.alloc) | (with_reducible apply Rd.drew) | (with_reducible apply Rd.drewN))) HK.out).mono ?_
    rintro e w' ⟨rfl, x3, rfl⟩
    go_wp2_with fail
    refine (KnownValid_any o l m pa pc ps base last _ (by (try unfold RdP); repeat (first | (with_reducible exact HR.out) | (with_reducible apply rd_seq) | (with_reducible apply Rd.plus) | (with_reducible apply Rd.alloc) | (with_reducible apply Rd.drew) | (with_reducible apply Rd.drewN)))).mono ?_
    rintro e w' ⟨rfl, x4, rfl⟩
    rw [HK.out]
    go_wp2_with fail
    refine (DrawParseKnown_any a2 cap2 bs2 _ (rdF HR2.out (by repeat (first | exact Below.refl _ _ | refine below_plus ?_ (by first | omega | (simp <;> omega)) _ | refine Below.alloc ?_ (by first | omega | (simp <;> omega)) _ | refine below_patch ?_ (by omega) _ | refine Below.drew ?_)))).mono ?_
    rintro e w' ⟨t, rfl, ht, y1, rfl⟩
    by_cases hh : ∃ (o l m : Int) (ps : List Pr) (b la : Int), kvb o l m ps b la = true ∧ t = knT o l m ps b la
    · obtain ⟨o1, l1, m1, qs, b1, la1, hk1, hs1⟩ := hh
      have HK1 := Lib.hid hk1
      have HS1 := Lib.hid hs1
      clear hk1 hs1
      go_wp2_with fail
      refine (ParseKnown_any t _ (by omega) (HLW.out.below (by repeat (first | exact Below.refl _ _ | refine below_plus ?_ (by first | omega | (simp <;> omega)) _ | refine Below.alloc ?_ (by first | omega | (simp <;> omega)) _ | refine below_patch ?_ (by omega) _ | refine Below.drew ?_)))).mono ?_
      intro e w' h
      obtain ⟨qa, qc, rfl, hown, y2, rfl⟩ := pkT_yes h HK1.out HS1.out
      clear h
      (try simp only [plus_plus] at hown)
      have HQ := Lib.hid (show Rd encP _ qa qc qs from hown.rd)
      clear hown
      go_wp2_with fail
      refine (specParseKnown_any t _ (by omega)).mono ?_
      intro e w' h
      obtain ⟨ra, rc, rfl, hown, y3, rfl⟩ := pkT_yes h HK1.out HS1.out
      clear h
      (try simp only [plus_plus] at hown)
      have HP := Lib.hid (show Rd encP _ ra rc qs from hown.rd)
      clear hown
      go_wp2_with fail
      refine (soKnown_yes o1 l1 m1 qa ra qc rc qs b1 la1 _ (by (try unfold RdP); repeat (first | (with_reducible exact HQ.out) | (with_reducible apply rd_seq) | (with_reducible apply Rd.plus) | (with_reducible apply Rd.alloc) | (with_reducible apply Rd.drew) | (with_reducible apply Rd.drewN))) (by (try unfold RdP); repeat (first | (with_reducible exact HP.out) | (with_reducible apply rd_seq) | (with_reducible apply Rd.plus) | (with_reducible apply Rd.alloc) | (with_reducible apply Rd.drew) | (with_reducible apply Rd.drewN)))).mono ?_
      rintro e w' ⟨rfl, y4, rfl⟩
      go_wp2_with fail
      refine (implFormatKnown_yes o1 l1 m1 qa qc qs b1 la1 _ (by (try unfold RdP); repeat (first | (with_reducible exact HQ.out) | (with_reducible apply rd_seq) | (with_reducible apply Rd.plus) | (with_reducible apply Rd.alloc) | (with_reducible apply Rd.drew) | (with_reducible apply Rd.drewN))) HK1.out (HLW.out.below (by repeat (first | exact Below.refl _ _ | refine below_plus ?_ (by first | omega | (simp <;> omega)) _ | refine Below.alloc ?_ (by first | omega | (simp <;> omega)) _ | refine below_patch ?_ (by omega) _ | refine Below.drew ?_))).tb).mono ?_
      rintro e w' ⟨rfl, y5, rfl⟩
      rw [← HS1.out]
      go_wp2_with fail
      go_ret
      exact ⟨rfl, (by repeat (first | exact Below.refl _ _ | refine below_plus ?_ (by first | omega | (simp <;> omega)) _ | refine Below.alloc ?_ (by first | omega | (simp <;> omega)) _ | refine below_patch ?_ (by omega) _ | refine Below.drew ?_))⟩
    · have HN := Lib.hid (fun (o l m : Int) (ps : List Pr) (b la : Int) (hk : kvb o l m ps b la = true) (ht : t = knT o l m ps b la) => hh ⟨o, l, m, ps, b, la, hk, ht⟩)
      clear hh
      go_wp2_with fail
      refine (ParseKnown_any t _ (by omega) (HLW.out.below (by repeat (first | exact Below.refl _ _ | refine below_plus ?_ (by first | omega | (simp <;> omega)) _ | refine Below.alloc ?_ (by first | omega | (simp <;> omega)) _ | refine below_patch ?_ (by omega) _ | refine Below.drew ?_)))).mono ?_
      intro e w' h
      obtain ⟨qa, qc, rfl, hown, y2, rfl⟩ := pkT_no h HN.out
      clear h
      (try simp only [plus_plus] at hown)
      have HQ := Lib.hid (show Rd encP _ qa qc ([] : List Pr) from hown.rd)
      clear hown
      go_wp2_with fail
      refine (specParseKnown_any t _ (by omega)).mono ?_
      intro e w' h
      obtain ⟨ra, rc, rfl, hown, y3, rfl⟩ := pkT_no h HN.out
      clear h
      (try simp only [plus_plus] at hown)
      have HP := Lib.hid (show Rd encP _ ra rc ([] : List Pr) from hown.rd)
      clear hown
      go_wp2_with fail
      refine (soKnown_yes 0 0 0 qa ra qc rc ([] : List Pr) 0 0 _ (by (try unfold RdP); repeat (first | (with_reducible exact HQ.out) | (with_reducible apply rd_seq) | (with_reducible apply Rd.plus) | (with_reducible apply Rd.alloc) | (with_reducible apply Rd.drew) | (with_reducible apply Rd.drewN))) (by (try unfold RdP); repeat (first | (with_reducible exact HP.out) | (with_reducible apply rd_seq) | (with_reducible apply Rd.plus) | (with_reducible apply Rd.alloc) | (with_reducible apply Rd.drew) | (with_reducible apply Rd.drewN)))).mono ?_
      rintro e w' ⟨rfl, y4, rfl⟩
      go_wp2_with fail
      go_ret
      exact ⟨rfl, (by repeat (first | exact Below.refl _ _ | refine below_plus ?_ (by first | omega | (simp <;> omega)) _ | refine Below.alloc ?_ (by first | omega | (simp <;> omega)) _ | refine below_patch ?_ (by omega) _ | refine Below.drew ?_))⟩
  · have HK := Lib.hid hk
    have hkv := kvb_iff.1 hk
    have hTs := knT_size hkv
    have hTp := knT_pos o l m ps base last
    obtain ⟨T, hT⟩ : ∃ T, knT o l m ps base last = T := ⟨_, rfl⟩
    have HT := Lib.hid hT
    rw [hT] at hTs hTp
    have hTe := isEmpty_size T
    rw [decide_eq_false (by omega)] at hTe
    have HFI := Lib.hid (fun (W : World) (h : RdP W pa pc ps) (hl : Lw W) => implFormatKnown_yes o l m pa pc ps base last W h hk hl.tb)
    have HFS := Lib.hid (fun (W : World) (h : RdP W pa pc ps) => specFormatKnown_yes o l m pa pc ps base last W h hk)
    rw [hT] at HFI HFS
    clear hk hkv hT
    go_wp2_with fail
    refine (HFI.out _ (by (try unfold RdP); repeat (first | (with_reducible exact HR.out) | (with_reducible apply rd_seq) | (with_reducible apply Rd.plus) | (with_reducible apply Rd.alloc) | (with_reducible apply Rd.drew) | (with_reducible apply Rd.drewN))) (HLW.out.below (by repeat (first | exact Below.refl _ _ | refine below_plus ?_ (by first | omega | (simp <;> omega)) _ | refine Below.alloc ?_ (by first | omega | (simp <;> omega)) _ | refine below_patch ?_ (by omega) _ | refine Below.drew ?_)))).mono ?_
    rintro e w' ⟨rfl, x2, rfl⟩
    go_wp2_with fail
    refine (HFS.out _ (by (try unfold RdP); repeat (first | (with_reducible exact HR.out) | (with_reducible apply rd_seq) | (with_reducible apply Rd.plus) | (with_reducible apply Rd.alloc) | (with_reducible apply Rd.drew) | (with_reducible apply Rd.drewN)))).mono ?_
    rintro e w' ⟨rfl, x3, rfl⟩
    go_wp2_with fail
    refine (KnownValid_any o l m pa pc ps base last _ (by (try unfold RdP); repeat (first | (with_reducible exact HR.out) | (with_reducible apply rd_seq) | (with_reducible apply Rd.plus) | (with_reducible apply Rd.alloc) | (with_reducible apply Rd.drew) | (with_reducible apply Rd.drewN)))).mono ?_
    rintro e w' ⟨rfl, x4, rfl⟩
    rw [HK.out]
    go_wp2_with fail
    refine (ParseKnown_any T _ (by omega) (HLW.out.below (by repeat (first | exact Below.refl _ _ | refine below_plus ?_ (by first | omega | (simp <;> omega)) _ | refine Below.alloc ?_ (by first | omega | (simp <;> omega)) _ | refine below_patch ?_ (by omega) _ | refine Below.drew ?_)))).mono ?_
    intro e w' h
    obtain ⟨za, zc, rfl, hown, x5, rfl⟩ := pkT_yes h HK.out HT.out.symm
    clear h
    (try simp only [plus_plus] at hown)
    have HZ := Lib.hid (show Rd encP _ za zc ps from hown.rd)
    clear hown
    go_wp2_with fail
    refine (soKnown_yes o l m za pa zc pc ps base last _ (by (try unfold RdP); repeat (first | (with_reducible exact HZ.out) | (with_reducible apply rd_seq) | (with_reducible apply Rd.plus) | (with_reducible apply Rd.alloc) | (with_reducible apply Rd.drew) | (with_reducible apply Rd.drewN))) (by (try unfold RdP); repeat (first | (with_reducible exact HR.out) | (with_reducible apply rd_seq) | (with_reducible apply Rd.plus) | (with_reducible apply Rd.alloc) | (with_reducible apply Rd.drew) | (with_reducible apply Rd.drewN)))).mono ?_
    rintro e w' ⟨rfl, x6, rfl⟩
    go_wp2_with fail
    refine (DrawParseKnown_any a2 cap2 bs2 _ (rdF HR2.out (by repeat (first | exact Below.refl _ _ | refine below_plus ?_ (by first | omega | (simp <;> omega)) _ | refine Below.alloc ?_ (by first | omega | (simp <;> omega)) _ | refine below_patch ?_ (by omega) _ | refine Below.drew ?_)))).mono ?_
    rintro e w' ⟨t, rfl, ht, y1, rfl⟩
    by_cases hh : ∃ (o l m : Int) (ps : List Pr) (b la : Int), kvb o l m ps b la = true ∧ t = knT o l m ps b la
    · obtain ⟨o1, l1, m1, qs, b1, la1, hk1, hs1⟩ := hh
      have HK1 := Lib.hid hk1
      have HS1 := Lib.hid hs1
      clear hk1 hs1
      go_wp2_with fail
      refine (ParseKnown_any t _ (by omega) (HLW.out.below (by repeat (first | exact Below.refl _ _ | refine below_plus ?_ (by first | omega | (simp <;> omega)) _ | refine Below.alloc ?_ (by first | omega | (simp <;> omega)) _ | refine below_patch ?_ (by omega) _ | refine Below.drew ?_)))).mono ?_
      intro e w' h
      obtain ⟨qa, qc, rfl, hown, y2, rfl⟩ := pkT_yes h HK1.out HS1.out
      clear h
      (try simp only [plus_plus] at hown)
      have HQ := Lib.hid (show Rd encP _ qa qc qs from hown.rd)
      clear hown
      go_wp2_with fail
      refine (specParseKnown_any t _ (by omega)).mono ?_
      intro e w' h
      obtain ⟨ra, rc, rfl, hown, y3, rfl⟩ := pkT_yes h HK1.out HS1.out
      clear h
      (try simp only [plus_plus] at hown)
      have HP := Lib.hid (show Rd encP _ ra rc qs from hown.rd)
      clear hown
      go_wp2_with fail
      refine (soKnown_yes o1 l1 m1 qa ra qc rc qs b1 la1 _ (by (try unfold RdP); repeat (first | (with_reducible exact HQ.out) | (with_reducible apply rd_seq) | (with_reducible apply Rd.plus) | (with_reducible apply Rd.alloc) | (with_reducible apply Rd.drew) | (with_reducible apply Rd.drewN))) (by (try unfold RdP); repeat (first | (with_reducible exact HP.out) | (with_reducible apply rd_seq) | (with_reducible apply Rd.plus) | (with_reducible apply Rd.alloc) | (with_reducible apply Rd.drew) | (with_reducible apply Rd.drewN)))).mono ?_
      rintro e w' ⟨rfl, y4, rfl⟩
      go_wp2_with fail
      refine (implFormatKnown_yes o1 l1 m1 qa qc qs b1 la1 _ (by (try unfold RdP); repeat (first | (with_reducible exact HQ.out) | (with_reducible apply rd_seq) | (with_reducible apply Rd.plus) | (with_reducible apply Rd.alloc) | (with_reducible apply Rd.drew) | (with_reducible apply Rd.drewN))) HK1.out (HLW.out.below (by repeat (first | exact Below.refl _ _ | refine below_plus ?_ (by first | omega | (simp <;> omega)) _ | refine Below.alloc ?_ (by first | omega | (simp <;> omega)) _ | refine below_patch ?_ (by omega) _ | refine Below.drew ?_))).tb).mono ?_
      rintro e w' ⟨rfl, y5, rfl⟩
      rw [← HS1.out]
      go_wp2_with fail
      go_ret
      exact ⟨rfl, (by repeat (first | exact Below.refl _ _ | refine below_plus ?_ (by first | omega | (simp <;> omega)) _ | refine Below.alloc ?_ (by first | omega | (simp <;> omega)) _ | refine below_patch ?_ (by omega) _ | refine Below.drew ?_))⟩
    · have HN := Lib.hid (fun (o l m : Int) (ps : List Pr) (b la : Int) (hk : kvb o l m ps b la = true) (ht : t = knT o l m ps b la) => hh ⟨o, l, m, ps, b, la, hk, ht⟩)
      clear hh
      go_wp2_with fail
      refine (ParseKnown_any t _ (by omega) (HLW.out.below (by repeat (first | exact Below.refl _ _ | refine below_plus ?_ (by first | omega | (simp <;> omega)) _ | refine Below.alloc ?_ (by first | omega | (simp <;> omega)) _ | refine below_patch ?_ (by omega) _ | refine Below.drew ?_)))).mono ?_
      intro e w' h
      obtain ⟨qa, qc, rfl, hown, y2, rfl⟩ := pkT_no h HN.out
      clear h
      (try simp only [plus_plus] at hown)
      have HQ := Lib.hid (show Rd encP _ qa qc ([] : List Pr) from hown.rd)
      clear hown
      go_wp2_with fail
      refine (specParseKnown_any t _ (by omega)).mono ?_
      intro e w' h
      obtain ⟨ra, rc, rfl, hown, y3, rfl⟩ := pkT_no h HN.out
      clear h
      (try simp only [plus_plus] at hown)
      have HP := Lib.hid (show Rd encP _ ra rc ([] : List Pr) from hown.rd)
      clear hown
      go_wp2_with fail
      refine (soKnown_yes 0 0 0 qa ra qc rc ([] : List Pr) 0 0 _ (by (try unfold RdP); repeat (first | (with_reducible exact HQ.out) | (with_reducible apply rd_seq) | (with_reducible apply Rd.plus) | (with_reducible apply Rd.alloc) | (with_reducible apply Rd.drew) | (with_reducible apply Rd.drewN))) (by (try unfold RdP); repeat (first | (with_reducible exact HP.out) | (with_reducible apply rd_seq) | (with_reducible apply Rd.plus) | (with_reducible apply Rd.alloc) | (with_reducible apply Rd.drew) | (with_reducible apply Rd.drewN)))).mono ?_
      rintro e w' ⟨rfl, y4, rfl⟩
      go_wp2_with fail
      go_ret
      exact ⟨rfl, (by repeat (first | exact Below.refl _ _ | refine below_plus ?_ (by first | omega | (simp <;> omega)) _ | refine Below.alloc ?_ (by first | omega | (simp <;> omega)) _ | refine below_patch ?_ (by omega) _ | refine Below.drew ?_))⟩

end Go.Proofs.YtmddcbebaijjkaaGreatDoor
