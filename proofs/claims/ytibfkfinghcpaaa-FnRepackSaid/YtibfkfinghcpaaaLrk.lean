/- The law Repack: the walk. -/
import Derived.Test.YtibfkfinghcpaaaGu
import Derived.Test.YtibfkfinghcpaaaGp
import Derived.Test.YtibfkfinghcpaaaRps
namespace Go.Proofs.Ytibfkfinghcpaaa
open Go.RowKit
set_option linter.unusedVariables false
set_option linter.unusedSimpArgs false

set_option maxRecDepth 100000 in
set_option maxHeartbeats 2000000 in
theorem DrawRepackStream_any (a : Option Addr) (cap : Nat) (bs : List UInt8) (w : World) (hr : Rd encB w a cap bs) :
    Calls Try.prog 29 #[.slice a bs.length cap] w (RetKs w) := by
  go_enter Try.func29, Try.ntmps29
  go_wp2_with fail
  refine (DrawUnpackCodes_at a cap bs _ (by repeat (first | exact hr | apply rd_seq | apply Rd.plus | apply Rd.alloc | apply Rd.drew | apply Rd.drewN | refine rd_patch ?_ _ _ (by intro A hA; first | (cases hA; show _ ≠ _; omega) | (have := hal A hA; omega))))).mono ?_
  rintro e w' ⟨o, l, m, pa, pc, ps, base, last, s, rfl, hl3, hs5, hrd, ⟨x1, rfl⟩, hoff⟩
  simp at hoff
  have HR := Lib.hid (show Rd encP _ pa pc ps from hrd)
  clear hrd
  go_wp2_with fail
  exact bodyPost_ret (v := .tuple #[.agg #[.int .i64 o, .int .i64 l, .int .i64 m, .slice pa ps.length pc, .int .i64 base, .int .i64 last], .string s]) (by simp [results, Try.results29, go_sem, ↓IntWalk.iteOmega]) rfl ⟨o, l, m, pa, pc, ps, base, last, s, rfl, hl3, hs5, rd_sn (D1 := w.heap.size) (D2 := w.heap.size) HR.out (by repeat (first | (with_reducible exact sn_refl _ _ _) | (with_reducible apply sn_plus) | (with_reducible apply sn_patch) | (with_reducible apply sn_drew) | (with_reducible refine sn_right ?_ (by first | exact .inl rfl | exact .inr rfl | omega) _) | (with_reducible refine sn_left ?_ (by first | exact .inl rfl | exact .inr rfl | omega) _) | (with_reducible apply sn_alloc) | (with_reducible refine sn_alloc2 ?_ (by simp <;> omega) _ _))) (fun X hX => ⟨by have := hoff X hX; omega, by have := hoff X hX; omega⟩), below_more (by repeat (first | exact Below.refl _ _ | refine below_plus ?_ (by first | omega | (simp <;> omega)) _ | refine Below.alloc ?_ (by first | omega | (simp <;> omega)) _ | refine below_patch ?_ (by omega) _ | refine Below.drew ?_))⟩

set_option maxRecDepth 100000 in
set_option maxHeartbeats 1000000 in
theorem lawRepack_any (a : Option Addr) (cap : Nat) (bs : List UInt8) (w : World) (hr : Rd encB w a cap bs) :
    Calls Try.prog 7 #[.slice a bs.length cap] w (fun e w' => e = .returned (.bool true) ∧ Below w.heap.size w w') := by
  have g1 := hr.1
  have g2 := hr.2.1
  by_cases h1 : bs.length ≤ 1048576
  case neg =>
    go_enter Try.func7, Try.ntmps7
    go_wp2
    go_ret
    exact ⟨rfl, (by repeat (first | exact Below.refl _ _ | refine below_plus ?_ (by first | omega | (simp <;> omega)) _ | refine Below.alloc ?_ (by first | omega | (simp <;> omega)) _ | refine below_patch ?_ (by omega) _ | refine Below.drew ?_))⟩
  go_enter Try.func7, Try.ntmps7
  go_wp2_with fail
  refine (DrawRepackStream_any a cap bs _ (by repeat (first | exact hr | apply rd_seq | apply Rd.plus | apply Rd.alloc | apply Rd.drew | apply Rd.drewN | refine rd_patch ?_ _ _ (by intro A hA; first | (cases hA; show _ ≠ _; omega) | (have := hal A hA; omega))))).mono ?_
  rintro e w' ⟨o, l, m, pa, pc, ps, base, last, s, rfl, hl3, hs5, hrd, x1, rfl⟩
  have hm : s.size ≤ maxLen := by unfold maxLen; omega
  have HR := Lib.hid (show Rd encP _ pa pc ps from hrd)
  clear hrd
  by_cases hbad : kvb o l m ps base last = false ∨ 4000 < s.size
  · have HU := Lib.hid (fun (W : World) (h : RdP W pa pc ps) => implUnpackCodes_no o l m pa pc ps base last s W h hm hbad)
    have HI := Lib.hid (fun (W : World) (h : RdP W pa pc ps) => implRepack_no o l m pa pc ps base last s W h [] 4 0 (by decide) fun W a cap hr => implUnpackCodes_no o l m a cap ps base last s W hr hm hbad)
    have HS := Lib.hid (fun (W : World) (h : RdP W pa pc ps) => specRepack_no o l m pa pc ps base last s W h [] 4 0 (by decide) fun W a cap hr => specUnpackCodes_no o l m a cap ps base last s W hr hm hbad)
    clear hbad
    go_wp2_with fail
    refine (HI.out _ (by (try unfold RdP); repeat (first | (with_reducible exact HR.out) | (with_reducible apply rd_seq) | (with_reducible apply Rd.plus) | (with_reducible apply Rd.alloc) | (with_reducible apply Rd.drew) | (with_reducible apply Rd.drewN)))).mono ?_
    rintro e w' ⟨rfl, y1, rfl⟩
    go_wp2_with fail
    refine (HS.out _ (by (try unfold RdP); repeat (first | (with_reducible exact HR.out) | (with_reducible apply rd_seq) | (with_reducible apply Rd.plus) | (with_reducible apply Rd.alloc) | (with_reducible apply Rd.drew) | (with_reducible apply Rd.drewN)))).mono ?_
    rintro e w' ⟨rfl, y2, rfl⟩
    go_wp2_with fail
    refine (HU.out _ (by (try unfold RdP); repeat (first | (with_reducible exact HR.out) | (with_reducible apply rd_seq) | (with_reducible apply Rd.plus) | (with_reducible apply Rd.alloc) | (with_reducible apply Rd.drew) | (with_reducible apply Rd.drewN)))).mono ?_
    rintro e w' ⟨ia, ic, rfl, hown, y3, rfl⟩
    (try simp only [plus_plus] at hown)
    have HG := Lib.hid (show Rd encI _ ia ic _ from hown.rd)
    clear hown
    go_wp2_with fail
    go_ret
    exact ⟨rfl, (by repeat (first | exact Below.refl _ _ | refine below_plus ?_ (by first | omega | (simp <;> omega)) _ | refine Below.alloc ?_ (by first | omega | (simp <;> omega)) _ | refine below_patch ?_ (by omega) _ | refine Below.drew ?_))⟩
  have hk : kvb o l m ps base last = true := by
    cases hk : kvb o l m ps base last
    · exact absurd (.inl hk) hbad
    · rfl
  have hsz : s.size ≤ 4000 := by
    rcases Nat.lt_or_ge 4000 s.size with h1 | h1
    · exact absurd (.inr h1) hbad
    · exact h1
  have hb0 := (kvb_iff.1 hk).b0
  obtain ⟨b, rfl⟩ : ∃ b : Nat, base = b := ⟨base.toNat, by omega⟩
  obtain ⟨⟨W, hW⟩, h2, h3, h4⟩ := unR_facts (s := s) hk
  have he4 : (unR o l m b ps last s).e ≤ 3 := (rdc_e _ _ _ _ _ _).2
  have hlast : (unR o l m b ps last s).e = 0 → (unR o l m b ps last s).C.getLast? = some (two l + 1) := rdc_last _ _ _ _ _ _
  obtain ⟨R, hR⟩ : ∃ R, unR o l m b ps last s = R := ⟨_, rfl⟩
  rw [hR] at hW h2 h3 h4 he4 hlast
  have hIU := fun (W : World) (a : Option Addr) (cap : Nat) (h : RdP W a cap ps) => implUnpackCodes_yes o l m a cap ps b last s W h hk hsz R hR
  have hSU := fun (W : World) (a : Option Addr) (cap : Nat) (h : RdP W a cap ps) => specUnpackCodes_yes2 o l m a cap ps b last s W h hk hsz R hR
  by_cases he : R.e = 0
  case neg =>
    have v1 : (R.e == 0) = false := by simp [he]
    have HU := Lib.hid (fun (W : World) (h : RdP W pa pc ps) => hIU W pa pc h)
    have HI := Lib.hid (fun (W : World) (h : RdP W pa pc ps) => implRepack_no o l m pa pc ps b last s W h R.C R.e (usedV s.size R) he hIU)
    have HS := Lib.hid (fun (W : World) (h : RdP W pa pc ps) => specRepack_no o l m pa pc ps b last s W h R.C R.e (usedV s.size R) he hSU)
    clear hbad hk hW hR hIU hSU he hlast
    go_wp2_with fail
    refine (HI.out _ (by (try unfold RdP); repeat (first | (with_reducible exact HR.out) | (with_reducible apply rd_seq) | (with_reducible apply Rd.plus) | (with_reducible apply Rd.alloc) | (with_reducible apply Rd.drew) | (with_reducible apply Rd.drewN)))).mono ?_
    rintro e w' ⟨rfl, y1, rfl⟩
    go_wp2_with fail
    refine (HS.out _ (by (try unfold RdP); repeat (first | (with_reducible exact HR.out) | (with_reducible apply rd_seq) | (with_reducible apply Rd.plus) | (with_reducible apply Rd.alloc) | (with_reducible apply Rd.drew) | (with_reducible apply Rd.drewN)))).mono ?_
    rintro e w' ⟨rfl, y2, rfl⟩
    go_wp2_with fail
    refine (HU.out _ (by (try unfold RdP); repeat (first | (with_reducible exact HR.out) | (with_reducible apply rd_seq) | (with_reducible apply Rd.plus) | (with_reducible apply Rd.alloc) | (with_reducible apply Rd.drew) | (with_reducible apply Rd.drewN)))).mono ?_
    rintro e w' ⟨ia, ic, rfl, hown, y3, rfl⟩
    (try simp only [plus_plus] at hown)
    have HG := Lib.hid (show Rd encI _ ia ic _ from hown.rd)
    clear hown
    go_wp2_with fail
    go_ret
    exact ⟨rfl, (by repeat (first | exact Below.refl _ _ | refine below_plus ?_ (by first | omega | (simp <;> omega)) _ | refine Below.alloc ?_ (by first | omega | (simp <;> omega)) _ | refine below_patch ?_ (by omega) _ | refine Below.drew ?_))⟩
  have hl := hlast he
  rw [he] at hIU hSU
  have hk2 := turn_k hk
  obtain ⟨C, hC⟩ : ∃ C, R.C = C := ⟨_, rfl⟩
  obtain ⟨D, hD⟩ : ∃ D, R.D = D := ⟨_, rfl⟩
  rw [hC] at hW h2 hl hIU hSU
  rw [hD] at hW
  obtain ⟨T, hT⟩ : ∃ T, bstr (pckL (1 - o) (cbits (1 - o) C W)) = T := ⟨_, rfl⟩
  obtain ⟨Q, hQ⟩ : ∃ Q, bstr (pckL o (cbits o C W)) = Q := ⟨_, rfl⟩
  obtain ⟨u1, u2, u3, u4, u5⟩ := unR_pack hk2 hW hl h2 hT
  have hIU2 := fun (V : World) (a : Option Addr) (cap : Nat) (h : RdP V a cap ps) => implUnpackCodes_yes (1 - o) l m a cap ps b last T V h hk2 u1 _ rfl
  rw [u2, u4, u5] at hIU2
  have HU := Lib.hid (fun (W : World) (h : RdP W pa pc ps) => hIU W pa pc h)
  have HU2 := Lib.hid (fun (W : World) (h : RdP W pa pc ps) => hIU2 W pa pc h)
  have HI := Lib.hid (fun (V : World) (h : RdP V pa pc ps) => implRepack_yes o l m pa pc ps b last s V h hk C (usedV s.size R) h2 W D hW hIU)
  have HS := Lib.hid (fun (V : World) (h : RdP V pa pc ps) => specRepack_yes o l m pa pc ps b last s V h hk C (usedV s.size R) h2 W D hW hSU)
  have HI2 := Lib.hid (fun (V : World) (h : RdP V pa pc ps) => implRepack_yes (1 - o) l m pa pc ps b last T V h hk2 C (T.size : Int) h2 W D hW hIU2)
  rw [show (1 - (1 - o) : Int) = o by omega, hQ] at HI2
  rw [hT] at HI HS
  have HP := Lib.hid (fun (V : World) (ia : Option Addr) (ic : Nat) (h1 : RdP V pa pc ps) (h2' : Rd encI V ia ic C) => PackCodes_yes o l m pa pc ps b last ia ic C V h1 h2' hk h2 b rfl W D hW)
  rw [hQ] at HP
  have v6 : (T.toList != T.toList) = false := by simp
  have hob := (sv_iff.1 (kvb_iff.1 hk).s).1
  have hob0 : 0 ≤ o := by omega
  have hob1 : o ≤ 1 := by omega
  clear hob
  have v7 : (Q.toList == Q.toList) = true := by simp
  clear hbad hk hW hR hIU hSU hIU2 he hlast hk2 hC hD hT hQ u2 u3 u4 u5 hl
  go_wp2_with fail
  refine (HI.out _ (by (try unfold RdP); repeat (first | (with_reducible exact HR.out) | (with_reducible apply rd_seq) | (with_reducible apply Rd.plus) | (with_reducible apply Rd.alloc) | (with_reducible apply Rd.drew) | (with_reducible apply Rd.drewN)))).mono ?_
  rintro e w' ⟨rfl, y1, rfl⟩
  go_wp2_with fail
  refine (HS.out _ (by (try unfold RdP); repeat (first | (with_reducible exact HR.out) | (with_reducible apply rd_seq) | (with_reducible apply Rd.plus) | (with_reducible apply Rd.alloc) | (with_reducible apply Rd.drew) | (with_reducible apply Rd.drewN)))).mono ?_
  rintro e w' ⟨rfl, y2, rfl⟩
  go_wp2_with fail
  refine (HU.out _ (by (try unfold RdP); repeat (first | (with_reducible exact HR.out) | (with_reducible apply rd_seq) | (with_reducible apply Rd.plus) | (with_reducible apply Rd.alloc) | (with_reducible apply Rd.drew) | (with_reducible apply Rd.drewN)))).mono ?_
  rintro e w' ⟨ia, ic, rfl, hown, y3, rfl⟩
  (try simp only [plus_plus] at hown)
  have HG := Lib.hid (show Rd encI _ ia ic _ from hown.rd)
  clear hown
  go_wp2_with fail
  refine (HU2.out _ (by (try unfold RdP); repeat (first | (with_reducible exact HR.out) | (with_reducible apply rd_seq) | (with_reducible apply Rd.plus) | (with_reducible apply Rd.alloc) | (with_reducible apply Rd.drew) | (with_reducible apply Rd.drewN)))).mono ?_
  rintro e w' ⟨ja, jc, rfl, hown, y4, rfl⟩
  (try simp only [plus_plus] at hown)
  have HG2 := Lib.hid (show Rd encI _ ja jc C from hown.rd)
  clear hown
  go_wp2_with fail
  refine (HI2.out _ (by (try unfold RdP); repeat (first | (with_reducible exact HR.out) | (with_reducible apply rd_seq) | (with_reducible apply Rd.plus) | (with_reducible apply Rd.alloc) | (with_reducible apply Rd.drew) | (with_reducible apply Rd.drewN)))).mono ?_
  rintro e w' ⟨rfl, y5, rfl⟩
  go_wp2_with fail
  refine (HP.out _ ia ic (by (try unfold RdP); repeat (first | (with_reducible exact HR.out) | (with_reducible apply rd_seq) | (with_reducible apply Rd.plus) | (with_reducible apply Rd.alloc) | (with_reducible apply Rd.drew) | (with_reducible apply Rd.drewN))) (by (try unfold RdP); repeat (first | (with_reducible exact HG.out) | (with_reducible apply rd_seq) | (with_reducible apply Rd.plus) | (with_reducible apply Rd.alloc) | (with_reducible apply Rd.drew) | (with_reducible apply Rd.drewN)))).mono ?_
  rintro e w' ⟨rfl, y6, rfl⟩
  go_wp2_with fail
  refine (soInts_yes ja ia jc ic C _ (by (try unfold RdP); repeat (first | (with_reducible exact HG2.out) | (with_reducible apply rd_seq) | (with_reducible apply Rd.plus) | (with_reducible apply Rd.alloc) | (with_reducible apply Rd.drew) | (with_reducible apply Rd.drewN))) (by (try unfold RdP); repeat (first | (with_reducible exact HG.out) | (with_reducible apply rd_seq) | (with_reducible apply Rd.plus) | (with_reducible apply Rd.alloc) | (with_reducible apply Rd.drew) | (with_reducible apply Rd.drewN)))).mono ?_
  rintro e w' ⟨rfl, y7, rfl⟩
  go_wp2_with fail
  go_ret
  exact ⟨rfl, (by repeat (first | exact Below.refl _ _ | refine below_plus ?_ (by first | omega | (simp <;> omega)) _ | refine Below.alloc ?_ (by first | omega | (simp <;> omega)) _ | refine below_patch ?_ (by omega) _ | refine Below.drew ?_))⟩

end Go.Proofs.Ytibfkfinghcpaaa
