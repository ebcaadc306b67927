/- The law ReaderNeeds: the walk. -/
import Derived.Test.YtibfkfinghcpaaaGw
import Derived.Test.YtibfkfinghcpaaaLrs
import Derived.Test.YtibfkfinghcpaaaGv
namespace Go.Proofs.Ytibfkfinghcpaaa
open Go.RowKit
set_option linter.unusedVariables false
set_option linter.unusedSimpArgs false

/-- a reader that has ended needs no bits -/
theorem rnd_endedN {o l m : Int} {ps : List Pr} {base last : Int} {s : ByteArray} {z c e : Int} (h : rdb o l m ps base last s z c e = true) (he : e ≠ 1) : rnd o l m ps base last s z c e = 0 := by
  unfold rnd
  rw [h, if_pos rfl, if_neg he]

/-- behind the first reading -/
def LnA (w : World) (o l m : Int) (b : Nat) (pa : Option Addr) (pc : Nat) (ps : List Pr) (last : Int) (s : ByteArray) (z c : Int) (D q : Nat) (s7 s8 s10 : Value) (wx : World) : Prop :=
  ∃ (E : Nat) (qa : Option Addr) (qc : Nat) (sb : ByteArray), s7 = .pointer (some ⟨E, 0, none⟩) ∧ s8 = .string ⟨#[]⟩ ∧ s10 = .bool true ∧ sb.size = q ∧
    wx.heap[E]? = some (.cells #[.int .i64 o, .int .i64 l, .int .i64 m, .slice qa ps.length qc, .int .i64 b, .int .i64 last, .string sb, .int .i64 z, .int .i64 c, .int .i64 1] 50 (0, 0)) ∧
    wx.heap[D]? = some (.cells #[.int .i64 o, .int .i64 l, .int .i64 m, .slice pa ps.length pc, .int .i64 b, .int .i64 last, .string s, .int .i64 z, .int .i64 c, .int .i64 1] 50 (0, 0)) ∧ Rd encP wx pa pc ps ∧ Below w.heap.size w wx ∧ w.heap.size ≤ D

/-- behind the second reading -/
def LnB (w : World) (o l m : Int) (b : Nat) (c : Int) (D E : Nat) (kd ke : Obj) (s11 s14 : Value) (wx : World) : Prop :=
  ∃ (F : Nat) (ta : Option Addr) (tc : Nat) (us : List Pr) (la : Int) (sb : ByteArray) (z2 c2 e2 : Int), s11 = .pointer (some ⟨F, 0, none⟩) ∧ s14 = .bool true ∧ (c < c2 ∨ e2 ≠ 1) ∧
    wx.heap[F]? = some (.cells #[.int .i64 o, .int .i64 l, .int .i64 m, .slice ta us.length tc, .int .i64 b, .int .i64 la, .string sb, .int .i64 z2, .int .i64 c2, .int .i64 e2] 50 (0, 0)) ∧
    wx.heap[E]? = some ke ∧ wx.heap[D]? = some kd ∧ Below w.heap.size w wx

set_option maxRecDepth 100000 in
set_option maxHeartbeats 8000000 in
theorem lawReaderNeeds2_any (a : Option Addr) (cap : Nat) (bs : List UInt8) (a2 : Option Addr) (cap2 : Nat) (bs2 : List UInt8) (w : World) (hr : Rd encB w a cap bs) (hr2 : Rd encB w a2 cap2 bs2) :
    Calls Try.prog 10 #[.slice a bs.length cap, .slice a2 bs2.length cap2] w (fun e w' => e = .returned (.bool true) ∧ Below w.heap.size w w') := by
  have g1 := hr.1
  have g2 := hr.2.1
  have g3 := hr2.1
  have g4 := hr2.2.1
  by_cases h1 : bs.length ≤ 1048576
  case neg =>
    go_enter Try.func10, Try.ntmps10
    go_wp2
    go_ret
    exact ⟨rfl, (by repeat (first | exact Below.refl _ _ | refine below_plus ?_ (by first | omega | (simp <;> omega)) _ | refine Below.alloc ?_ (by first | omega | (simp <;> omega)) _ | refine below_patch ?_ (by omega) _ | refine Below.drew ?_))⟩
  by_cases h2 : bs2.length ≤ 1048576
  case neg =>
    go_enter Try.func10, Try.ntmps10
    go_wp2
    go_ret
    exact ⟨rfl, (by repeat (first | exact Below.refl _ _ | refine below_plus ?_ (by first | omega | (simp <;> omega)) _ | refine Below.alloc ?_ (by first | omega | (simp <;> omega)) _ | refine below_patch ?_ (by omega) _ | refine Below.drew ?_))⟩
  obtain ⟨k2, hk2⟩ : ∃ k2, bs2.length = k2 := ⟨_, rfl⟩
  rw [hk2] at h2 g3 ⊢
  clear hr2 hk2
  go_enter Try.func10, Try.ntmps10
  go_wp2_with fail
  refine (DrawReaderNeeds_any a cap bs _ (by repeat (first | exact hr | apply rd_seq | apply Rd.plus | apply Rd.alloc | apply Rd.drew | apply Rd.drewN | refine rd_patch ?_ _ _ (by intro A hA; first | (cases hA; show _ ≠ _; omega) | (have := hal A hA; omega))))).mono ?_
  rintro e w' ⟨o, l, m, pa, pc, ps, base, last, s, z, c, e1, rfl, hl3, hs1, hrd, hoff, x1, rfl⟩
  have HR := Lib.hid (show Rd encP _ pa pc ps from hrd)
  clear hrd hoff hr
  cases hk : rdb o l m ps base last s z c e1
  · have HN := Lib.hid (show rnd o l m ps base last s z c e1 = -1 by unfold rnd; rw [hk]; rfl)
    have HK := Lib.hid hk
    clear hk
    go_wp2_with fail
    refine (ReaderNeeds_any _ _ _ pa pc ps _ _ s _ _ _ _ (by (try unfold RdP); repeat (first | (with_reducible exact HR.out) | (with_reducible apply rd_seq) | (with_reducible apply Rd.plus) | (with_reducible apply Rd.alloc) | (with_reducible apply Rd.drew) | (with_reducible apply Rd.drewN))) (by unfold maxLen; omega)).mono ?_
    rintro e w' ⟨rfl, y1, rfl⟩
    rw [HN.out]
    go_wp2_with fail
    refine (specReaderNeeds_any _ _ _ pa pc ps _ _ s _ _ _ _ (by (try unfold RdP); repeat (first | (with_reducible exact HR.out) | (with_reducible apply rd_seq) | (with_reducible apply Rd.plus) | (with_reducible apply Rd.alloc) | (with_reducible apply Rd.drew) | (with_reducible apply Rd.drewN))) (by unfold maxLen; omega)).mono ?_
    rintro e w' ⟨rfl, y2, rfl⟩
    rw [HN.out]
    go_wp2_with fail
    refine (ReaderValid_any _ _ _ pa pc ps _ _ s _ _ _ _ (by (try unfold RdP); repeat (first | (with_reducible exact HR.out) | (with_reducible apply rd_seq) | (with_reducible apply Rd.plus) | (with_reducible apply Rd.alloc) | (with_reducible apply Rd.drew) | (with_reducible apply Rd.drewN))) (by unfold maxLen; omega)).mono ?_
    rintro e w' ⟨rfl, y3, rfl⟩
    rw [HK.out]
    go_wp2_with fail
    refine (specReaderNeeds_any _ _ _ pa pc ps _ _ s _ _ _ _ (by (try unfold RdP); repeat (first | (with_reducible exact HR.out) | (with_reducible apply rd_seq) | (with_reducible apply Rd.plus) | (with_reducible apply Rd.alloc) | (with_reducible apply Rd.drew) | (with_reducible apply Rd.drewN))) (by unfold maxLen; omega)).mono ?_
    rintro e w' ⟨rfl, y4, rfl⟩
    rw [HN.out]
    go_wp2_with fail
    refine (ReaderValid_any _ _ _ pa pc ps _ _ s _ _ _ _ (by (try unfold RdP); repeat (first | (with_reducible exact HR.out) | (with_reducible apply rd_seq) | (with_reducible apply Rd.plus) | (with_reducible apply Rd.alloc) | (with_reducible apply Rd.drew) | (with_reducible apply Rd.drewN))) (by unfold maxLen; omega)).mono ?_
    rintro e w' ⟨rfl, y5, rfl⟩
    rw [HK.out]
    go_wp2_with fail
    go_ret
    exact ⟨rfl, (by repeat (first | exact Below.refl _ _ | refine below_plus ?_ (by first | omega | (simp <;> omega)) _ | refine Below.alloc ?_ (by first | omega | (simp <;> omega)) _ | refine below_patch ?_ (by omega) _ | refine Below.drew ?_))⟩
  have HK := Lib.hid hk
  by_cases he : e1 = 1
  case neg =>
    have HN := Lib.hid (rnd_endedN hk he)
    have v1 : (e1 != 1) = true := by simp [he]
    clear hk he
    go_wp2_with fail
    refine (ReaderNeeds_any _ _ _ pa pc ps _ _ s _ _ _ _ (by (try unfold RdP); repeat (first | (with_reducible exact HR.out) | (with_reducible apply rd_seq) | (with_reducible apply Rd.plus) | (with_reducible apply Rd.alloc) | (with_reducible apply Rd.drew) | (with_reducible apply Rd.drewN))) (by unfold maxLen; omega)).mono ?_
    rintro e w' ⟨rfl, y1, rfl⟩
    rw [HN.out]
    go_wp2_with fail
    refine (specReaderNeeds_any _ _ _ pa pc ps _ _ s _ _ _ _ (by (try unfold RdP); repeat (first | (with_reducible exact HR.out) | (with_reducible apply rd_seq) | (with_reducible apply Rd.plus) | (with_reducible apply Rd.alloc) | (with_reducible apply Rd.drew) | (with_reducible apply Rd.drewN))) (by unfold maxLen; omega)).mono ?_
    rintro e w' ⟨rfl, y2, rfl⟩
    rw [HN.out]
    go_wp2_with fail
    refine (ReaderValid_any _ _ _ pa pc ps _ _ s _ _ _ _ (by (try unfold RdP); repeat (first | (with_reducible exact HR.out) | (with_reducible apply rd_seq) | (with_reducible apply Rd.plus) | (with_reducible apply Rd.alloc) | (with_reducible apply Rd.drew) | (with_reducible apply Rd.drewN))) (by unfold maxLen; omega)).mono ?_
    rintro e w' ⟨rfl, y3, rfl⟩
    rw [HK.out]
    go_wp2_with fail
    go_ret
    exact ⟨rfl, (by repeat (first | exact Below.refl _ _ | refine below_plus ?_ (by first | omega | (simp <;> omega)) _ | refine Below.alloc ?_ (by first | omega | (simp <;> omega)) _ | refine below_patch ?_ (by omega) _ | refine Below.drew ?_))⟩
  subst he
  obtain ⟨kv, rv⟩ := rdb_parts hk
  have hb0 := kv.b0
  obtain ⟨b, rfl⟩ : ∃ b : Nat, base = b := ⟨base.toNat, by omega⟩
  have hw := wd_pos kv
  have hst : (s.size : Int) < wd l m ps.length last ∧ c < 3100 := by
    rcases rv.e with h1 | h1
    · exact h1.2
    · omega
  obtain ⟨N, hN⟩ : ∃ N : Nat, wd l m ps.length last - s.size = N := ⟨(wd l m ps.length last - s.size).toNat, by omega⟩
  have HN := Lib.hid (show rnd o l m ps b last s z c 1 = N by unfold rnd; rw [hk, if_pos rfl, if_pos rfl, hN])
  have hN1 : 1 ≤ N ∧ N ≤ 11 := by omega
  have hkx : Rdv o l m b ⟨ps, last, s, z, c, 1⟩ := hk
  obtain ⟨k1, hk1⟩ : ∃ k, (N - 1) / 8 = k := ⟨_, rfl⟩
  obtain ⟨k3, hk3⟩ : ∃ k, (N + 7) / 8 = k := ⟨_, rfl⟩
  have hJ1 : ∀ t : ByteArray, t.size = k1 → ∃ sb : ByteArray, sb.size = s.size + 8 * k1 ∧ ReadsX o l m b ⟨ps, last, s, z, c, 1⟩ t ⟨ps, last, sb, z, c, 1⟩ ⟨#[]⟩ k1 := fun t ht => by
    obtain ⟨e1, e2, e3, e4⟩ := rs_few (u := t) hkx (by omega) rfl (by show ((s.size + 8 * t.size : Nat) : Int) < wd l m ps.length last; omega)
    have F := (rfx (u := t) hkx (by omega)).reads
    rw [e1, e2, e3, ht] at F
    exact ⟨_, by rw [e4, ht], F⟩
  have hJ3 : ∀ t : ByteArray, t.size = k3 → ∃ (y : Rdr) (dt : ByteArray) (n : Int), (c < y.c ∨ y.e ≠ 1) ∧ ReadsX o l m b ⟨ps, last, s, z, c, 1⟩ t y dt n := fun t ht => by
    have h1 := rs_enough (u := t) hkx (by omega) rfl (by show wd l m ps.length last ≤ ((s.size + 8 * t.size : Nat) : Int); omega)
    exact ⟨_, _, _, h1, (rfx (u := t) hkx (by omega)).reads⟩
  have HJ1 := Lib.hid hJ1
  have HJ3 := Lib.hid hJ3
  have hkk : k1 ≤ 1 ∧ k3 ≤ 2 := by omega
  have hs20 : s.size ≤ 20 := by omega
  have HK1 := Lib.hid (show ((N : Int) - 1) / 8 = (k1 : Int) by omega)
  have E1 := Lib.hid (show IntKind.i64.wrap ((IntKind.i64.wrap ((N : Int) - 1)).tdiv 8) = (k1 : Int) by
    rw [IntWalk.i64_in ((N : Int) - 1) (by omega), Int.tdiv_eq_ediv_of_nonneg (by omega), IntWalk.i64_in _ (by omega)]; omega)
  have E3 := Lib.hid (show IntKind.i64.wrap ((IntKind.i64.wrap ((N : Int) + 7)).tdiv 8) = (k3 : Int) by
    rw [IntWalk.i64_in ((N : Int) + 7) (by omega), Int.tdiv_eq_ediv_of_nonneg (by omega), IntWalk.i64_in _ (by omega)]; omega)
  obtain ⟨zb, hzb⟩ : ∃ zb : UInt8, (zb.toNat : Int) = (k2 : Int) % 256 := ⟨UInt8.ofNat (k2 % 256), by rw [UInt8.toNat_ofNat']; omega⟩
  have HZB := Lib.hid (show IntKind.u8.wrap (k2 : Int) = (zb.toNat : Int) by rw [IntKind.wrap_u8, hzb])
  have v1 : ((N : Int) != (N : Int)) = false := by simp
  have v2 : ((N : Int) == 0) = false := by simp; omega
  clear hJ1 hJ3 hk hkx hw hst rv kv hN hk1 hk3 hb0
  go_wp2_with fail
  refine (ReaderNeeds_any _ _ _ pa pc ps _ _ s _ _ _ _ (by (try unfold RdP); repeat (first | (with_reducible exact HR.out) | (with_reducible apply rd_seq) | (with_reducible apply Rd.plus) | (with_reducible apply Rd.alloc) | (with_reducible apply Rd.drew) | (with_reducible apply Rd.drewN))) (by unfold maxLen; omega)).mono ?_
  rintro e w' ⟨rfl, y1, rfl⟩
  rw [HN.out]
  go_wp2_with fail
  refine (specReaderNeeds_any _ _ _ pa pc ps _ _ s _ _ _ _ (by (try unfold RdP); repeat (first | (with_reducible exact HR.out) | (with_reducible apply rd_seq) | (with_reducible apply Rd.plus) | (with_reducible apply Rd.alloc) | (with_reducible apply Rd.drew) | (with_reducible apply Rd.drewN))) (by unfold maxLen; omega)).mono ?_
  rintro e w' ⟨rfl, y2, rfl⟩
  rw [HN.out]
  go_wp2_with fail
  refine (ReaderValid_any _ _ _ pa pc ps _ _ s _ _ _ _ (by (try unfold RdP); repeat (first | (with_reducible exact HR.out) | (with_reducible apply rd_seq) | (with_reducible apply Rd.plus) | (with_reducible apply Rd.alloc) | (with_reducible apply Rd.drew) | (with_reducible apply Rd.drewN))) (by unfold maxLen; omega)).mono ?_
  rintro e w' ⟨rfl, y3, rfl⟩
  rw [HK.out]
  go_wp2_with fail
  refine wp_nm2 (fun X => X.heap[w.heap.size + x1.n]? = some (.cells #[.int .i64 o, .int .i64 l, .int .i64 m, .slice pa ps.length pc, .int .i64 b, .int .i64 last, .string s, .int .i64 z, .int .i64 c, .int .i64 1] 50 (0, 0)) ∧ Rd encP X pa pc ps ∧ Below w.heap.size w X) ⟨(by repeat (first | (with_reducible exact push_new _ _ _ rfl) | (with_reducible exact push_new _ _ _ (by simp)) | (with_reducible apply blk_plus) | (with_reducible apply blk_alloc) | (with_reducible apply blk_drew) | (with_reducible refine blk_patch ?_ (by omega)))), (by (try unfold RdP); repeat (first | (with_reducible exact HR.out) | (with_reducible apply rd_seq) | (with_reducible apply Rd.plus) | (with_reducible apply Rd.alloc) | (with_reducible apply Rd.drew) | (with_reducible apply Rd.drewN))), (by repeat (first | exact Below.refl _ _ | refine below_plus ?_ (by first | omega | (simp <;> omega)) _ | refine Below.alloc ?_ (by first | omega | (simp <;> omega)) _ | refine below_patch ?_ (by omega) _ | refine Below.drew ?_))⟩ ?_
  have hD0 : w.heap.size ≤ w.heap.size + x1.n := Nat.le_add_right _ _
  generalize w.heap.size + x1.n = D at hD0 ⊢
  intro X hX
  have HB := Lib.hid hX.1
  have HR1 := Lib.hid hX.2.1
  have HBL := Lib.hid hX.2.2
  have hDX : D < X.heap.size := (Array.getElem?_eq_some_iff.1 hX.1).1
  clear hX HR HN HK
  go_cut [7, 8, 10] (fun s7 s8 s10 wx => LnA w o l m b pa pc ps last s z c D (s.size + 8 * k1) s7 s8 s10 wx)
  case first =>
    refine wp_region_pt 20 (fun w' => w'.heap[D]? = some (.cells #[.int .i64 o, .int .i64 l, .int .i64 m, .slice pa ps.length pc, .int .i64 b, .int .i64 last, .string s, .int .i64 z, .int .i64 c, .int .i64 1] 50 (0, 0))) (Plan.quiet 0 (Plan.quiet 1 (Plan.quiet 2 (Plan.quiet 3 (Plan.quiet 6 (Plan.quiet 7 (Plan.quiet 8 (Plan.two 4 (Plan.two 5 (Plan.two 9 (Plan.two 10 (Plan.quiet 11 (Plan.quiet 12 (Plan.quiet 13 (Plan.quiet 14 (Plan.quiet 15 (Plan.one 16 (Plan.one 17 (Plan.quiet 18 (Plan.quiet 19 (Plan.one 20 Plan.done)))))))))) 16 (Plan.one 10 (Plan.quiet 11 (Plan.quiet 12 (Plan.quiet 13 (Plan.quiet 14 (Plan.quiet 15 (Plan.one 17 (Plan.quiet 18 (Plan.quiet 19 (Plan.one 20 Plan.done))))))))))) 16 (Plan.one 9 (Plan.one 10 (Plan.quiet 11 (Plan.quiet 12 (Plan.quiet 13 (Plan.quiet 14 (Plan.quiet 15 (Plan.one 17 (Plan.quiet 18 (Plan.quiet 19 (Plan.one 20 Plan.done)))))))))))) 16 (Plan.one 5 (Plan.one 9 (Plan.one 10 (Plan.quiet 11 (Plan.quiet 12 (Plan.quiet 13 (Plan.quiet 14 (Plan.quiet 15 (Plan.one 17 (Plan.quiet 18 (Plan.quiet 19 (Plan.one 20 Plan.done))))))))))))) 16 (Plan.one 4 (Plan.one 5 (Plan.one 9 (Plan.one 10 (Plan.quiet 11 (Plan.quiet 12 (Plan.quiet 13 (Plan.quiet 14 (Plan.quiet 15 (Plan.one 17 (Plan.quiet 18 (Plan.quiet 19 (Plan.one 20 Plan.done))))))))))))))))))))) (by kernel_rfl) (by kernel_rfl) (by repeat (first | exact HB.out | apply blk_drew)) ?_
    iterate 7 (refine wpPt_val rfl rfl ?_; apply Exists.intro; refine ⟨fun w' hS => ?_, ?_⟩; focus (have rS := cell_of hS; simp [go_sem, ↓IntWalk.iteOmega, rS, E1.out, HZB.out] <;> first | done | exact rfl | (rw [IntWalk.i64_in _ (by omega)]; exact rfl) | trace_state))
    refine wpPt_two rfl rfl rfl rfl (fun K hK => ?_) (fun K hK => ?_)
    go_simp
    refine hK _ _ (fun hkn => (by repeat (first | (with_reducible exact HB.out) | apply blk_plus | apply blk_alloc | apply blk_drew))) ?_
    clear hK K
    refine wpPt_two rfl rfl rfl rfl (fun K hK => ?_) (fun K hK => ?_)
    refine oper_str1 _ _ 5 _ rfl Try.underlying22 Try.underlying5 Try.underlying9 _ zb rfl (by simp <;> omega) (by first | (simp [go_sem, ↓IntWalk.iteOmega, HZB.out, hzb]; done) | (simp [go_sem, ↓IntWalk.iteOmega, HZB.out]; omega)) ?_
    refine hK _ _ (fun hkn => (by repeat (first | (with_reducible exact HB.out) | apply blk_plus | apply blk_alloc | apply blk_drew))) ?_
    clear hK K
    refine wpPt_two rfl rfl rfl rfl (fun K hK => ?_) (fun K hK => ?_)
    go_simp
    (try rw [E1.out])
    refine (soMany_any (bstr [zb]) k1 _ (by rw [bstr_size]; show 1 ≤ 4; decide) (by omega)).mono ?_
    rintro e w' ⟨r, rfl, hr, y4, rfl⟩
    rw [bstr_size] at hr
    obtain ⟨sb, hsb, HJ⟩ := HJ1.out r (by simpa using hr)
    have HJ2 := Lib.hid HJ.2
    clear HJ hr
    refine hK _ _ (fun hkn => (by repeat (first | (with_reducible exact HB.out) | apply blk_plus | apply blk_alloc | apply blk_drew))) ?_
    clear hK K
    refine wpPt_two rfl rfl rfl rfl (fun K hK => ?_) (fun K hK => ?_)
    go_simp
    refine (HJ2.out _ pa pc (by (try unfold RdP); repeat (first | (with_reducible exact HR1.out) | (with_reducible apply rd_seq) | (with_reducible apply Rd.plus) | (with_reducible apply Rd.alloc) | (with_reducible apply Rd.drew) | (with_reducible apply Rd.drewN)))).mono ?_
    rintro e w' ⟨qa, qc, rfl, hown, y5, rfl⟩
    clear hown
    refine hK _ _ (fun hkn => (by repeat (first | (with_reducible exact HB.out) | apply blk_plus | apply blk_alloc | apply blk_drew))) ?_
    clear hK K
    iterate 5 (refine wpPt_val rfl rfl ?_; apply Exists.intro; refine ⟨fun w' hS => ?_, ?_⟩; focus (have rS := cell_of hS; simp [go_sem, ↓IntWalk.iteOmega, rS, E1.out, HZB.out] <;> first | done | exact rfl | (rw [IntWalk.i64_in _ (by omega)]; exact rfl) | trace_state))
    refine wpPt_one rfl rfl (fun K hK => ?_)
    go_simp
    refine hK _ _ (fun hkn => (by repeat (first | (with_reducible exact HB.out) | apply blk_plus | apply blk_alloc | apply blk_drew))) ?_
    clear hK K
    refine wpPt_one rfl rfl (fun K hK => ?_)
    go_simp
    refine hK _ _ (fun hkn => (by repeat (first | (with_reducible exact HB.out) | apply blk_plus | apply blk_alloc | apply blk_drew))) ?_
    clear hK K
    iterate 2 (refine wpPt_val rfl rfl ?_; apply Exists.intro; refine ⟨fun w' hS => ?_, ?_⟩; focus (have rS := cell_of hS; simp [go_sem, ↓IntWalk.iteOmega, rS, E1.out, HZB.out] <;> first | done | exact rfl | (rw [IntWalk.i64_in _ (by omega)]; exact rfl) | trace_state))
    refine wpPt_one rfl rfl (fun K hK => ?_)
    go_simp
    refine hK _ _ (fun hkn => absurd hkn (by decide)) ?_
    clear hK K
    refine NoPanic.normal ?_
    rotate_left
    go_simp
    refine hK _ _ (fun hkn => (by repeat (first | (with_reducible exact HB.out) | apply blk_plus | apply blk_alloc | apply blk_drew))) ?_
    clear hK K
    refine wpPt_one rfl rfl (fun K hK => ?_)
    go_simp
    refine (HJ2.out _ pa pc (by (try unfold RdP); repeat (first | (with_reducible exact HR1.out) | (with_reducible apply rd_seq) | (with_reducible apply Rd.plus) | (with_reducible apply Rd.alloc) | (with_reducible apply Rd.drew) | (with_reducible apply Rd.drewN)))).mono ?_
    rintro e w' ⟨qa, qc, rfl, hown, y5, rfl⟩
    clear hown
    refine hK _ _ (fun hkn => (by repeat (first | (with_reducible exact HB.out) | apply blk_plus | apply blk_alloc | apply blk_drew))) ?_
    clear hK K
    iterate 5 (refine wpPt_val rfl rfl ?_; apply Exists.intro; refine ⟨fun w' hS => ?_, ?_⟩; focus (have rS := cell_of hS; simp [go_sem, ↓IntWalk.iteOmega, rS, E1.out, HZB.out] <;> first | done | exact rfl | (rw [IntWalk.i64_in _ (by omega)]; exact rfl) | trace_state))
    refine wpPt_one rfl rfl (fun K hK => ?_)
    go_simp
    refine hK _ _ (fun hkn => (by repeat (first | (with_reducible exact HB.out) | apply blk_plus | apply blk_alloc | apply blk_drew))) ?_
    clear hK K
    iterate 2 (refine wpPt_val rfl rfl ?_; apply Exists.intro; refine ⟨fun w' hS => ?_, ?_⟩; focus (have rS := cell_of hS; simp [go_sem, ↓IntWalk.iteOmega, rS, E1.out, HZB.out] <;> first | done | exact rfl | (rw [IntWalk.i64_in _ (by omega)]; exact rfl) | trace_state))
    refine wpPt_one rfl rfl (fun K hK => ?_)
    go_simp
    refine hK _ _ (fun hkn => absurd hkn (by decide)) ?_
    clear hK K
    refine NoPanic.normal ?_
    rotate_left
    go_simp
    refine hK _ _ (fun hkn => (by repeat (first | (with_reducible exact HB.out) | apply blk_plus | apply blk_alloc | apply blk_drew))) ?_
    clear hK K
    refine wpPt_one rfl rfl (fun K hK => ?_)
    go_simp
    (try rw [E1.out])
    refine (soMany_any (bstr [zb]) k1 _ (by rw [bstr_size]; show 1 ≤ 4; decide) (by omega)).mono ?_
    rintro e w' ⟨r, rfl, hr, y4, rfl⟩
    rw [bstr_size] at hr
    obtain ⟨sb, hsb, HJ⟩ := HJ1.out r (by simpa using hr)
    have HJ2 := Lib.hid HJ.2
    clear HJ hr
    refine hK _ _ (fun hkn => (by repeat (first | (with_reducible exact HB.out) | apply blk_plus | apply blk_alloc | apply blk_drew))) ?_
    clear hK K
    refine wpPt_one rfl rfl (fun K hK => ?_)
    go_simp
    refine (HJ2.out _ pa pc (by (try unfold RdP); repeat (first | (with_reducible exact HR1.out) | (with_reducible apply rd_seq) | (with_reducible apply Rd.plus) | (with_reducible apply Rd.alloc) | (with_reducible apply Rd.drew) | (with_reducible apply Rd.drewN)))).mono ?_
    rintro e w' ⟨qa, qc, rfl, hown, y5, rfl⟩
    clear hown
    refine hK _ _ (fun hkn => (by repeat (first | (with_reducible exact HB.out) | apply blk_plus | apply blk_alloc | apply blk_drew))) ?_
    clear hK K
    iterate 5 (refine wpPt_val rfl rfl ?_; apply Exists.intro; refine ⟨fun w' hS => ?_, ?_⟩; focus (have rS := cell_of hS; simp [go_sem, ↓IntWalk.iteOmega, rS, E1.out, HZB.out] <;> first | done | exact rfl | (rw [IntWalk.i64_in _ (by omega)]; exact rfl) | trace_state))
    refine wpPt_one rfl rfl (fun K hK => ?_)
    go_simp
    refine hK _ _ (fun hkn => (by repeat (first | (with_reducible exact HB.out) | apply blk_plus | apply blk_alloc | apply blk_drew))) ?_
    clear hK K
    iterate 2 (refine wpPt_val rfl rfl ?_; apply Exists.intro; refine ⟨fun w' hS => ?_, ?_⟩; focus (have rS := cell_of hS; simp [go_sem, ↓IntWalk.iteOmega, rS, E1.out, HZB.out] <;> first | done | exact rfl | (rw [IntWalk.i64_in _ (by omega)]; exact rfl) | trace_state))
    refine wpPt_one rfl rfl (fun K hK => ?_)
    go_simp
    refine hK _ _ (fun hkn => absurd hkn (by decide)) ?_
    clear hK K
    refine NoPanic.normal ?_
    rotate_left
    go_simp
    refine hK _ _ (fun hkn => (by repeat (first | (with_reducible exact HB.out) | apply blk_plus | apply blk_alloc | apply blk_drew))) ?_
    clear hK K
    refine wpPt_one rfl rfl (fun K hK => ?_)
    refine oper_str1 _ _ 5 _ rfl Try.underlying22 Try.underlying5 Try.underlying9 _ zb rfl (by simp <;> omega) (by first | (simp [go_sem, ↓IntWalk.iteOmega, HZB.out, hzb]; done) | (simp [go_sem, ↓IntWalk.iteOmega, HZB.out]; omega)) ?_
    refine hK _ _ (fun hkn => (by repeat (first | (with_reducible exact HB.out) | apply blk_plus | apply blk_alloc | apply blk_drew))) ?_
    clear hK K
    refine wpPt_one rfl rfl (fun K hK => ?_)
    go_simp
    (try rw [E1.out])
    refine (soMany_any (bstr [zb]) k1 _ (by rw [bstr_size]; show 1 ≤ 4; decide) (by omega)).mono ?_
    rintro e w' ⟨r, rfl, hr, y4, rfl⟩
    rw [bstr_size] at hr
    obtain ⟨sb, hsb, HJ⟩ := HJ1.out r (by simpa using hr)
    have HJ2 := Lib.hid HJ.2
    clear HJ hr
    refine hK _ _ (fun hkn => (by repeat (first | (with_reducible exact HB.out) | apply blk_plus | apply blk_alloc | apply blk_drew))) ?_
    clear hK K
    refine wpPt_one rfl rfl (fun K hK => ?_)
    go_simp
    refine (HJ2.out _ pa pc (by (try unfold RdP); repeat (first | (with_reducible exact HR1.out) | (with_reducible apply rd_seq) | (with_reducible apply Rd.plus) | (with_reducible apply Rd.alloc) | (with_reducible apply Rd.drew) | (with_reducible apply Rd.drewN)))).mono ?_
    rintro e w' ⟨qa, qc, rfl, hown, y5, rfl⟩
    clear hown
    refine hK _ _ (fun hkn => (by repeat (first | (with_reducible exact HB.out) | apply blk_plus | apply blk_alloc | apply blk_drew))) ?_
    clear hK K
    iterate 5 (refine wpPt_val rfl rfl ?_; apply Exists.intro; refine ⟨fun w' hS => ?_, ?_⟩; focus (have rS := cell_of hS; simp [go_sem, ↓IntWalk.iteOmega, rS, E1.out, HZB.out] <;> first | done | exact rfl | (rw [IntWalk.i64_in _ (by omega)]; exact rfl) | trace_state))
    refine wpPt_one rfl rfl (fun K hK => ?_)
    go_simp
    refine hK _ _ (fun hkn => (by repeat (first | (with_reducible exact HB.out) | apply blk_plus | apply blk_alloc | apply blk_drew))) ?_
    clear hK K
    iterate 2 (refine wpPt_val rfl rfl ?_; apply Exists.intro; refine ⟨fun w' hS => ?_, ?_⟩; focus (have rS := cell_of hS; simp [go_sem, ↓IntWalk.iteOmega, rS, E1.out, HZB.out] <;> first | done | exact rfl | (rw [IntWalk.i64_in _ (by omega)]; exact rfl) | trace_state))
    refine wpPt_one rfl rfl (fun K hK => ?_)
    go_simp
    refine hK _ _ (fun hkn => absurd hkn (by decide)) ?_
    clear hK K
    refine NoPanic.normal ?_
    rotate_left
    go_simp
    refine hK _ _ (fun hkn => (by repeat (first | (with_reducible exact HB.out) | apply blk_plus | apply blk_alloc | apply blk_drew))) ?_
    clear hK K
    refine wpPt_one rfl rfl (fun K hK => ?_)
    go_simp
    refine hK _ _ (fun hkn => (by repeat (first | (with_reducible exact HB.out) | apply blk_plus | apply blk_alloc | apply blk_drew))) ?_
    clear hK K
    refine wpPt_one rfl rfl (fun K hK => ?_)
    refine oper_str1 _ _ 5 _ rfl Try.underlying22 Try.underlying5 Try.underlying9 _ zb rfl (by simp <;> omega) (by first | (simp [go_sem, ↓IntWalk.iteOmega, HZB.out, hzb]; done) | (simp [go_sem, ↓IntWalk.iteOmega, HZB.out]; omega)) ?_
    refine hK _ _ (fun hkn => (by repeat (first | (with_reducible exact HB.out) | apply blk_plus | apply blk_alloc | apply blk_drew))) ?_
    clear hK K
    refine wpPt_one rfl rfl (fun K hK => ?_)
    go_simp
    (try rw [E1.out])
    refine (soMany_any (bstr [zb]) k1 _ (by rw [bstr_size]; show 1 ≤ 4; decide) (by omega)).mono ?_
    rintro e w' ⟨r, rfl, hr, y4, rfl⟩
    rw [bstr_size] at hr
    obtain ⟨sb, hsb, HJ⟩ := HJ1.out r (by simpa using hr)
    have HJ2 := Lib.hid HJ.2
    clear HJ hr
    refine hK _ _ (fun hkn => (by repeat (first | (with_reducible exact HB.out) | apply blk_plus | apply blk_alloc | apply blk_drew))) ?_
    clear hK K
    refine wpPt_one rfl rfl (fun K hK => ?_)
    go_simp
    refine (HJ2.out _ pa pc (by (try unfold RdP); repeat (first | (with_reducible exact HR1.out) | (with_reducible apply rd_seq) | (with_reducible apply Rd.plus) | (with_reducible apply Rd.alloc) | (with_reducible apply Rd.drew) | (with_reducible apply Rd.drewN)))).mono ?_
    rintro e w' ⟨qa, qc, rfl, hown, y5, rfl⟩
    clear hown
    refine hK _ _ (fun hkn => (by repeat (first | (with_reducible exact HB.out) | apply blk_plus | apply blk_alloc | apply blk_drew))) ?_
    clear hK K
    iterate 5 (refine wpPt_val rfl rfl ?_; apply Exists.intro; refine ⟨fun w' hS => ?_, ?_⟩; focus (have rS := cell_of hS; simp [go_sem, ↓IntWalk.iteOmega, rS, E1.out, HZB.out] <;> first | done | exact rfl | (rw [IntWalk.i64_in _ (by omega)]; exact rfl) | trace_state))
    refine wpPt_one rfl rfl (fun K hK => ?_)
    go_simp
    refine hK _ _ (fun hkn => (by repeat (first | (with_reducible exact HB.out) | apply blk_plus | apply blk_alloc | apply blk_drew))) ?_
    clear hK K
    iterate 2 (refine wpPt_val rfl rfl ?_; apply Exists.intro; refine ⟨fun w' hS => ?_, ?_⟩; focus (have rS := cell_of hS; simp [go_sem, ↓IntWalk.iteOmega, rS, E1.out, HZB.out] <;> first | done | exact rfl | (rw [IntWalk.i64_in _ (by omega)]; exact rfl) | trace_state))
    refine wpPt_one rfl rfl (fun K hK => ?_)
    go_simp
    refine hK _ _ (fun hkn => absurd hkn (by decide)) ?_
    clear hK K
    refine NoPanic.normal ?_
    all_goals
      go_wp2_with fail
      go_meet
      refine ⟨_, qa, qc, sb, rfl, rfl, rfl, hsb, ?_, ?_, ?_, ?_, hD0⟩
      · repeat (first | exact push_new _ _ _ (by simp <;> omega) | exact patch_at _ _ _ (by simp <;> omega) | apply blk_plus | apply blk_alloc | apply blk_drew)
      · repeat (first | (with_reducible exact HB.out) | refine (patch_other _ _ _ (by simp <;> omega)).trans ?_ | apply blk_plus | apply blk_alloc | apply blk_drew)
      · repeat (first | (with_reducible exact HR1.out) | (with_reducible refine rd_patch0 ?_ _ _ (fun Y hY hc => by have := rd_lt HR1.out Y hY hc; omega)) | (with_reducible apply Rd.plus) | (with_reducible apply Rd.alloc) | (with_reducible apply Rd.drew))
      · exact (by repeat (first | (with_reducible exact HBL.out) | refine below_plus ?_ (by first | omega | (simp <;> omega)) _ | refine Below.alloc ?_ (by first | omega | (simp <;> omega)) _ | refine below_patch ?_ (by omega) _ | refine Below.drew ?_))
  case rest =>
    obtain ⟨E, qa, qc, sb, rfl, rfl, rfl, hsb, hE, hDb, hrd, hbl, hD9⟩ := hcut
    have HE := Lib.hid hE
    have HB2 := Lib.hid hDb
    have HR2 := Lib.hid hrd
    have HBL2 := Lib.hid hbl
    have hE9 : E < wc.heap.size := (Array.getElem?_eq_some_iff.1 hE).1
    have hD8 : D < wc.heap.size := (Array.getElem?_eq_some_iff.1 hDb).1
    clear hE hDb hrd hbl HB HR1 HBL HJ1 hDX
    go_wp2_with fail
    have hwc : w.heap.size ≤ wc.heap.size := by omega
    go_cut [11, 14] (fun s11 s14 wx => LnB w o l m b c D E (.cells #[.int .i64 o, .int .i64 l, .int .i64 m, .slice pa ps.length pc, .int .i64 b, .int .i64 last, .string s, .int .i64 z, .int .i64 c, .int .i64 1] 50 (0, 0)) (.cells #[.int .i64 o, .int .i64 l, .int .i64 m, .slice qa ps.length qc, .int .i64 b, .int .i64 last, .string sb, .int .i64 z, .int .i64 c, .int .i64 1] 50 (0, 0)) s11 s14 wx)
    case first =>
      refine wp_region_pt 20 (fun w' => w'.heap[D]? = some (.cells #[.int .i64 o, .int .i64 l, .int .i64 m, .slice pa ps.length pc, .int .i64 b, .int .i64 last, .string s, .int .i64 z, .int .i64 c, .int .i64 1] 50 (0, 0))) (Plan.quiet 0 (Plan.quiet 1 (Plan.quiet 2 (Plan.quiet 3 (Plan.quiet 6 (Plan.quiet 7 (Plan.quiet 8 (Plan.two 4 (Plan.two 5 (Plan.two 9 (Plan.two 10 (Plan.quiet 11 (Plan.quiet 12 (Plan.quiet 13 (Plan.quiet 14 (Plan.quiet 15 (Plan.one 16 (Plan.one 17 (Plan.quiet 18 (Plan.quiet 19 (Plan.one 20 Plan.done)))))))))) 16 (Plan.one 10 (Plan.quiet 11 (Plan.quiet 12 (Plan.quiet 13 (Plan.quiet 14 (Plan.quiet 15 (Plan.one 17 (Plan.quiet 18 (Plan.quiet 19 (Plan.one 20 Plan.done))))))))))) 16 (Plan.one 9 (Plan.one 10 (Plan.quiet 11 (Plan.quiet 12 (Plan.quiet 13 (Plan.quiet 14 (Plan.quiet 15 (Plan.one 17 (Plan.quiet 18 (Plan.quiet 19 (Plan.one 20 Plan.done)))))))))))) 16 (Plan.one 5 (Plan.one 9 (Plan.one 10 (Plan.quiet 11 (Plan.quiet 12 (Plan.quiet 13 (Plan.quiet 14 (Plan.quiet 15 (Plan.one 17 (Plan.quiet 18 (Plan.quiet 19 (Plan.one 20 Plan.done))))))))))))) 16 (Plan.one 4 (Plan.one 5 (Plan.one 9 (Plan.one 10 (Plan.quiet 11 (Plan.quiet 12 (Plan.quiet 13 (Plan.quiet 14 (Plan.quiet 15 (Plan.one 17 (Plan.quiet 18 (Plan.quiet 19 (Plan.one 20 Plan.done))))))))))))))))))))) (by kernel_rfl) (by kernel_rfl) (by repeat (first | exact HB2.out | apply blk_drew)) ?_
      iterate 7 (refine wpPt_val rfl rfl ?_; apply Exists.intro; refine ⟨fun w' hS => ?_, ?_⟩; focus (have rS := cell_of hS; simp [go_sem, ↓IntWalk.iteOmega, rS, HZB.out] <;> first | done | exact rfl | (rw [IntWalk.i64_in _ (by omega)]; exact rfl) | trace_state))
      refine wpPt_two rfl rfl rfl rfl (fun K hK => ?_) (fun K hK => ?_)
      go_simp
      refine hK _ _ (fun hkn => (by repeat (first | (with_reducible exact HB2.out) | apply blk_plus | apply blk_alloc | apply blk_drew))) ?_
      clear hK K
      refine wpPt_two rfl rfl rfl rfl (fun K hK => ?_) (fun K hK => ?_)
      refine oper_str1 _ _ 5 _ rfl Try.underlying22 Try.underlying5 Try.underlying9 _ zb rfl (by simp <;> omega) (by first | (simp [go_sem, ↓IntWalk.iteOmega, HZB.out, hzb]; done) | (simp [go_sem, ↓IntWalk.iteOmega, HZB.out]; omega)) ?_
      refine hK _ _ (fun hkn => (by repeat (first | (with_reducible exact HB2.out) | apply blk_plus | apply blk_alloc | apply blk_drew))) ?_
      clear hK K
      refine wpPt_two rfl rfl rfl rfl (fun K hK => ?_) (fun K hK => ?_)
      go_simp
      (try rw [E3.out])
      refine (soMany_any (bstr [zb]) k3 _ (by rw [bstr_size]; show 1 ≤ 4; decide) (by omega)).mono ?_
      rintro e w' ⟨r, rfl, hr, y4, rfl⟩
      rw [bstr_size] at hr
      obtain ⟨⟨us, la2, sb2, z2, c2, e2⟩, dt, n, hy, HJ⟩ := HJ3.out r (by simpa using hr)
      have HJ2 := Lib.hid HJ.2
      have HY := Lib.hid hy
      clear HJ hr hy
      refine hK _ _ (fun hkn => (by repeat (first | (with_reducible exact HB2.out) | apply blk_plus | apply blk_alloc | apply blk_drew))) ?_
      clear hK K
      refine wpPt_two rfl rfl rfl rfl (fun K hK => ?_) (fun K hK => ?_)
      go_simp
      refine (HJ2.out _ pa pc (by (try unfold RdP); repeat (first | (with_reducible exact HR2.out) | (with_reducible apply rd_seq) | (with_reducible apply Rd.plus) | (with_reducible apply Rd.alloc) | (with_reducible apply Rd.drew) | (with_reducible apply Rd.drewN)))).mono ?_
      rintro e w' ⟨ta, tc, rfl, hown, y5, rfl⟩
      clear hown
      refine hK _ _ (fun hkn => (by repeat (first | (with_reducible exact HB2.out) | apply blk_plus | apply blk_alloc | apply blk_drew))) ?_
      clear hK K
      iterate 5 (refine wpPt_val rfl rfl ?_; apply Exists.intro; refine ⟨fun w' hS => ?_, ?_⟩; focus (have rS := cell_of hS; simp [go_sem, ↓IntWalk.iteOmega, rS, HZB.out] <;> first | done | exact rfl | (rw [IntWalk.i64_in _ (by omega)]; exact rfl) | trace_state))
      refine wpPt_one rfl rfl (fun K hK => ?_)
      go_simp
      refine hK _ _ (fun hkn => (by repeat (first | (with_reducible exact HB2.out) | apply blk_plus | apply blk_alloc | apply blk_drew))) ?_
      clear hK K
      refine wpPt_one rfl rfl (fun K hK => ?_)
      go_simp
      refine hK _ _ (fun hkn => (by repeat (first | (with_reducible exact HB2.out) | apply blk_plus | apply blk_alloc | apply blk_drew))) ?_
      clear hK K
      iterate 2 (refine wpPt_val rfl rfl ?_; apply Exists.intro; refine ⟨fun w' hS => ?_, ?_⟩; focus (have rS := cell_of hS; simp [go_sem, ↓IntWalk.iteOmega, rS, HZB.out] <;> first | done | exact rfl | (rw [IntWalk.i64_in _ (by omega)]; exact rfl) | trace_state))
      refine wpPt_one rfl rfl (fun K hK => ?_)
      go_simp
      refine hK _ _ (fun hkn => absurd hkn (by decide)) ?_
      clear hK K
      refine NoPanic.normal ?_
      rotate_left
      go_simp
      refine hK _ _ (fun hkn => (by repeat (first | (with_reducible exact HB2.out) | apply blk_plus | apply blk_alloc | apply blk_drew))) ?_
      clear hK K
      refine wpPt_one rfl rfl (fun K hK => ?_)
      go_simp
      refine (HJ2.out _ pa pc (by (try unfold RdP); repeat (first | (with_reducible exact HR2.out) | (with_reducible apply rd_seq) | (with_reducible apply Rd.plus) | (with_reducible apply Rd.alloc) | (with_reducible apply Rd.drew) | (with_reducible apply Rd.drewN)))).mono ?_
      rintro e w' ⟨ta, tc, rfl, hown, y5, rfl⟩
      clear hown
      refine hK _ _ (fun hkn => (by repeat (first | (with_reducible exact HB2.out) | apply blk_plus | apply blk_alloc | apply blk_drew))) ?_
      clear hK K
      iterate 5 (refine wpPt_val rfl rfl ?_; apply Exists.intro; refine ⟨fun w' hS => ?_, ?_⟩; focus (have rS := cell_of hS; simp [go_sem, ↓IntWalk.iteOmega, rS, HZB.out] <;> first | done | exact rfl | (rw [IntWalk.i64_in _ (by omega)]; exact rfl) | trace_state))
      refine wpPt_one rfl rfl (fun K hK => ?_)
      go_simp
      refine hK _ _ (fun hkn => (by repeat (first | (with_reducible exact HB2.out) | apply blk_plus | apply blk_alloc | apply blk_drew))) ?_
      clear hK K
      iterate 2 (refine wpPt_val rfl rfl ?_; apply Exists.intro; refine ⟨fun w' hS => ?_, ?_⟩; focus (have rS := cell_of hS; simp [go_sem, ↓IntWalk.iteOmega, rS, HZB.out] <;> first | done | exact rfl | (rw [IntWalk.i64_in _ (by omega)]; exact rfl) | trace_state))
      refine wpPt_one rfl rfl (fun K hK => ?_)
      go_simp
      refine hK _ _ (fun hkn => absurd hkn (by decide)) ?_
      clear hK K
      refine NoPanic.normal ?_
      rotate_left
      go_simp
      refine hK _ _ (fun hkn => (by repeat (first | (with_reducible exact HB2.out) | apply blk_plus | apply blk_alloc | apply blk_drew))) ?_
      clear hK K
      refine wpPt_one rfl rfl (fun K hK => ?_)
      go_simp
      (try rw [E3.out])
      refine (soMany_any (bstr [zb]) k3 _ (by rw [bstr_size]; show 1 ≤ 4; decide) (by omega)).mono ?_
      rintro e w' ⟨r, rfl, hr, y4, rfl⟩
      rw [bstr_size] at hr
      obtain ⟨⟨us, la2, sb2, z2, c2, e2⟩, dt, n, hy, HJ⟩ := HJ3.out r (by simpa using hr)
      have HJ2 := Lib.hid HJ.2
      have HY := Lib.hid hy
      clear HJ hr hy
      refine hK _ _ (fun hkn => (by repeat (first | (with_reducible exact HB2.out) | apply blk_plus | apply blk_alloc | apply blk_drew))) ?_
      clear hK K
      refine wpPt_one rfl rfl (fun K hK => ?_)
      go_simp
      refine (HJ2.out _ pa pc (by (try unfold RdP); repeat (first | (with_reducible exact HR2.out) | (with_reducible apply rd_seq) | (with_reducible apply Rd.plus) | (with_reducible apply Rd.alloc) | (with_reducible apply Rd.drew) | (with_reducible apply Rd.drewN)))).mono ?_
      rintro e w' ⟨ta, tc, rfl, hown, y5, rfl⟩
      clear hown
      refine hK _ _ (fun hkn => (by repeat (first | (with_reducible exact HB2.out) | apply blk_plus | apply blk_alloc | apply blk_drew))) ?_
      clear hK K
      iterate 5 (refine wpPt_val rfl rfl ?_; apply Exists.intro; refine ⟨fun w' hS => ?_, ?_⟩; focus (have rS := cell_of hS; simp [go_sem, ↓IntWalk.iteOmega, rS, HZB.out] <;> first | done | exact rfl | (rw [IntWalk.i64_in _ (by omega)]; exact rfl) | trace_state))
      refine wpPt_one rfl rfl (fun K hK => ?_)
      go_simp
      refine hK _ _ (fun hkn => (by repeat (first | (with_reducible exact HB2.out) | apply blk_plus | apply blk_alloc | apply blk_drew))) ?_
      clear hK K
      iterate 2 (refine wpPt_val rfl rfl ?_; apply Exists.intro; refine ⟨fun w' hS => ?_, ?_⟩; focus (have rS := cell_of hS; simp [go_sem, ↓IntWalk.iteOmega, rS, HZB.out] <;> first | done | exact rfl | (rw [IntWalk.i64_in _ (by omega)]; exact rfl) | trace_state))
      refine wpPt_one rfl rfl (fun K hK => ?_)
      go_simp
      refine hK _ _ (fun hkn => absurd hkn (by decide)) ?_
      clear hK K
      refine NoPanic.normal ?_
      rotate_left
      go_simp
      refine hK _ _ (fun hkn => (by repeat (first | (with_reducible exact HB2.out) | apply blk_plus | apply blk_alloc | apply blk_drew))) ?_
      clear hK K
      refine wpPt_one rfl rfl (fun K hK => ?_)
      refine oper_str1 _ _ 5 _ rfl Try.underlying22 Try.underlying5 Try.underlying9 _ zb rfl (by simp <;> omega) (by first | (simp [go_sem, ↓IntWalk.iteOmega, HZB.out, hzb]; done) | (simp [go_sem, ↓IntWalk.iteOmega, HZB.out]; omega)) ?_
      refine hK _ _ (fun hkn => (by repeat (first | (with_reducible exact HB2.out) | apply blk_plus | apply blk_alloc | apply blk_drew))) ?_
      clear hK K
      refine wpPt_one rfl rfl (fun K hK => ?_)
      go_simp
      (try rw [E3.out])
      refine (soMany_any (bstr [zb]) k3 _ (by rw [bstr_size]; show 1 ≤ 4; decide) (by omega)).mono ?_
      rintro e w' ⟨r, rfl, hr, y4, rfl⟩
      rw [bstr_size] at hr
      obtain ⟨⟨us, la2, sb2, z2, c2, e2⟩, dt, n, hy, HJ⟩ := HJ3.out r (by simpa using hr)
      have HJ2 := Lib.hid HJ.2
      have HY := Lib.hid hy
      clear HJ hr hy
      refine hK _ _ (fun hkn => (by repeat (first | (with_reducible exact HB2.out) | apply blk_plus | apply blk_alloc | apply blk_drew))) ?_
      clear hK K
      refine wpPt_one rfl rfl (fun K hK => ?_)
      go_simp
      refine (HJ2.out _ pa pc (by (try unfold RdP); repeat (first | (with_reducible exact HR2.out) | (with_reducible apply rd_seq) | (with_reducible apply Rd.plus) | (with_reducible apply Rd.alloc) | (with_reducible apply Rd.drew) | (with_reducible apply Rd.drewN)))).mono ?_
      rintro e w' ⟨ta, tc, rfl, hown, y5, rfl⟩
      clear hown
      refine hK _ _ (fun hkn => (by repeat (first | (with_reducible exact HB2.out) | apply blk_plus | apply blk_alloc | apply blk_drew))) ?_
      clear hK K
      iterate 5 (refine wpPt_val rfl rfl ?_; apply Exists.intro; refine ⟨fun w' hS => ?_, ?_⟩; focus (have rS := cell_of hS; simp [go_sem, ↓IntWalk.iteOmega, rS, HZB.out] <;> first | done | exact rfl | (rw [IntWalk.i64_in _ (by omega)]; exact rfl) | trace_state))
      refine wpPt_one rfl rfl (fun K hK => ?_)
      go_simp
      refine hK _ _ (fun hkn => (by repeat (first | (with_reducible exact HB2.out) | apply blk_plus | apply blk_alloc | apply blk_drew))) ?_
      clear hK K
      iterate 2 (refine wpPt_val rfl rfl ?_; apply Exists.intro; refine ⟨fun w' hS => ?_, ?_⟩; focus (have rS := cell_of hS; simp [go_sem, ↓IntWalk.iteOmega, rS, HZB.out] <;> first | done | exact rfl | (rw [IntWalk.i64_in _ (by omega)]; exact rfl) | trace_state))
      refine wpPt_one rfl rfl (fun K hK => ?_)
      go_simp
      refine hK _ _ (fun hkn => absurd hkn (by decide)) ?_
      clear hK K
      refine NoPanic.normal ?_
      rotate_left
      go_simp
      refine hK _ _ (fun hkn => (by repeat (first | (with_reducible exact HB2.out) | apply blk_plus | apply blk_alloc | apply blk_drew))) ?_
      clear hK K
      refine wpPt_one rfl rfl (fun K hK => ?_)
      go_simp
      refine hK _ _ (fun hkn => (by repeat (first | (with_reducible exact HB2.out) | apply blk_plus | apply blk_alloc | apply blk_drew))) ?_
      clear hK K
      refine wpPt_one rfl rfl (fun K hK => ?_)
      refine oper_str1 _ _ 5 _ rfl Try.underlying22 Try.underlying5 Try.underlying9 _ zb rfl (by simp <;> omega) (by first | (simp [go_sem, ↓IntWalk.iteOmega, HZB.out, hzb]; done) | (simp [go_sem, ↓IntWalk.iteOmega, HZB.out]; omega)) ?_
      refine hK _ _ (fun hkn => (by repeat (first | (with_reducible exact HB2.out) | apply blk_plus | apply blk_alloc | apply blk_drew))) ?_
      clear hK K
      refine wpPt_one rfl rfl (fun K hK => ?_)
      go_simp
      (try rw [E3.out])
      refine (soMany_any (bstr [zb]) k3 _ (by rw [bstr_size]; show 1 ≤ 4; decide) (by omega)).mono ?_
      rintro e w' ⟨r, rfl, hr, y4, rfl⟩
      rw [bstr_size] at hr
      obtain ⟨⟨us, la2, sb2, z2, c2, e2⟩, dt, n, hy, HJ⟩ := HJ3.out r (by simpa using hr)
      have HJ2 := Lib.hid HJ.2
      have HY := Lib.hid hy
      clear HJ hr hy
      refine hK _ _ (fun hkn => (by repeat (first | (with_reducible exact HB2.out) | apply blk_plus | apply blk_alloc | apply blk_drew))) ?_
      clear hK K
      refine wpPt_one rfl rfl (fun K hK => ?_)
      go_simp
      refine (HJ2.out _ pa pc (by (try unfold RdP); repeat (first | (with_reducible exact HR2.out) | (with_reducible apply rd_seq) | (with_reducible apply Rd.plus) | (with_reducible apply Rd.alloc) | (with_reducible apply Rd.drew) | (with_reducible apply Rd.drewN)))).mono ?_
      rintro e w' ⟨ta, tc, rfl, hown, y5, rfl⟩
      clear hown
      refine hK _ _ (fun hkn => (by repeat (first | (with_reducible exact HB2.out) | apply blk_plus | apply blk_alloc | apply blk_drew))) ?_
      clear hK K
      iterate 5 (refine wpPt_val rfl rfl ?_; apply Exists.intro; refine ⟨fun w' hS => ?_, ?_⟩; focus (have rS := cell_of hS; simp [go_sem, ↓IntWalk.iteOmega, rS, HZB.out] <;> first | done | exact rfl | (rw [IntWalk.i64_in _ (by omega)]; exact rfl) | trace_state))
      refine wpPt_one rfl rfl (fun K hK => ?_)
      go_simp
      refine hK _ _ (fun hkn => (by repeat (first | (with_reducible exact HB2.out) | apply blk_plus | apply blk_alloc | apply blk_drew))) ?_
      clear hK K
      iterate 2 (refine wpPt_val rfl rfl ?_; apply Exists.intro; refine ⟨fun w' hS => ?_, ?_⟩; focus (have rS := cell_of hS; simp [go_sem, ↓IntWalk.iteOmega, rS, HZB.out] <;> first | done | exact rfl | (rw [IntWalk.i64_in _ (by omega)]; exact rfl) | trace_state))
      refine wpPt_one rfl rfl (fun K hK => ?_)
      go_simp
      refine hK _ _ (fun hkn => absurd hkn (by decide)) ?_
      clear hK K
      refine NoPanic.normal ?_
      all_goals
        go_wp2_with fail
        go_meet
        refine ⟨_, ta, tc, us, la2, sb2, z2, c2, e2, rfl, rfl, HY.out, ?_, ?_, ?_, ?_⟩
        · repeat (first | exact push_new _ _ _ (by simp <;> omega) | exact patch_at _ _ _ (by simp <;> omega) | apply blk_plus | apply blk_alloc | apply blk_drew)
        · repeat (first | (with_reducible exact HE.out) | refine (patch_other _ _ _ (by simp <;> omega)).trans ?_ | apply blk_plus | apply blk_alloc | apply blk_drew)
        · repeat (first | (with_reducible exact HB2.out) | refine (patch_other _ _ _ (by simp <;> omega)).trans ?_ | apply blk_plus | apply blk_alloc | apply blk_drew)
        · exact (by repeat (first | (with_reducible exact HBL2.out) | refine below_plus ?_ (by first | omega | (simp <;> omega)) _ | refine Below.alloc ?_ (by first | omega | (simp <;> omega)) _ | refine below_patch ?_ (by omega) _ | refine Below.drew ?_))
    case rest =>
      obtain ⟨F, ta, tc, us, la2, sb2, z2, c2, e2, rfl, rfl, hy, hF, hE2, hD2, hbl3⟩ := hcut
      have rF := cell_of hF
      have rE := cell_of hE2
      have rD := cell_of hD2
      have hF9 := (Array.getElem?_eq_some_iff.1 hF).1
      have hE8 := (Array.getElem?_eq_some_iff.1 hE2).1
      have hD7 := (Array.getElem?_eq_some_iff.1 hD2).1
      have HBL3 := Lib.hid hbl3
      have v7 : ((sb.size : Int) == (s.size : Int) + ((N : Int) - 1) / 8 * 8) = true := by rw [HK1.out]; simp; omega
      clear hF hE2 hD2 hbl3 HE HB2 HR2 HBL2 HJ3
      rcases (by omega : c < c2 ∨ (¬ c < c2 ∧ e2 ≠ 1)) with hc2 | ⟨hc2, he2⟩
      · have v5 : decide (c < c2) = true := decide_eq_true hc2
        go_wp2_with fail
        all_goals first | (exfalso; have := HK1.out; omega) | (go_ret; exact ⟨rfl, HBL3.out⟩)
      · have v5 : decide (c < c2) = false := decide_eq_false hc2
        have v6 : (e2 != 1) = true := by simp [he2]
        go_wp2_with fail
        all_goals first | (exfalso; have := HK1.out; omega) | (go_ret; exact ⟨rfl, HBL3.out⟩)

end Go.Proofs.Ytibfkfinghcpaaa
