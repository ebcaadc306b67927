/- The law LearnBegin: the walk. -/
import Derived.Test.YtlihhlihcjncoaaDrm
import Derived.Test.YtlihhlihcjncoaaDif
import Derived.Test.YtlihhlihcjncoaaSok
namespace Go.Proofs.Ytlihhlihcjncoaa
open Go.RowKit
set_option linter.unusedVariables false
set_option linter.unusedSimpArgs false

/-- what a beginning of a text teaches -/
theorem lrn_begin {o l m last : Int} {b : Nat} {ps : List Pr} {s : ByteArray} (h : KV o l m ps (b : Int) last) (hd : dfB o l m s = true) {n : Nat} (hn : n ≤ s.size) :
    (∃ r, (lrn l m s.size (ps.take b) (-1) s.data.toList).1 = (lrn l m (s.extract 0 n).size (ps.take b) (-1) (s.extract 0 n).data.toList).1 ++ r) ∧ dfB o l m (s.extract 0 n) = true ∧ (s.extract 0 n).size = n := by
  have hT : Tx o l m (b : Int) (ps.take b) (-1) s.data.toList := ⟨by simpa using h.cleared, by rw [bstr_bytes]; exact hd⟩
  obtain ⟨q1, _⟩ := trim_main s.size (ps.take b) (-1) s.data.toList n 0 0 hT (by rw [bytes_len]; omega) (by rw [bytes_len]; exact hn) (by omega)
  have hz : (s.extract 0 n).size = n := by rw [← bytes_len, ext_pre, List.length_take, bytes_len]; omega
  have e : (lrn l m s.size (ps.take b) (-1) (s.data.toList.take n)) = lrn l m (s.extract 0 n).size (ps.take b) (-1) (s.extract 0 n).data.toList := by
    rw [hz, ext_pre]
    exact lrn_fuel s.size n (ps.take b) (-1) (s.data.toList.take n) (hT.take n) (by rw [List.length_take, bytes_len]; omega) (by rw [List.length_take]; omega)
  rw [e] at q1
  refine ⟨q1, ?_, hz⟩
  have := dfB_pre (d := s.data.toList) (by rw [bstr_bytes]; exact hd) n
  rw [← ext_pre, bstr_bytes] at this
  exact this

set_option maxRecDepth 100000 in
set_option maxHeartbeats 4000000 in
theorem lawLearnBegin_fit (a : Option Addr) (cap : Nat) (bs : List UInt8) (a2 : Option Addr) (cap2 n2 : Nat) (w : World) (hr : Rd encB w a cap bs) (h1 : bs.length ≤ 1048576) (h2 : n2 ≤ 1048576) :
    Calls Try.prog 5 #[.slice a bs.length cap, .slice a2 n2 cap2] w (fun e w' => e = .returned (.bool true) ∧ Below w.heap.size w w') := by
  go_enter Try.func5, Try.ntmps5
  go_wp2_with fail
  refine (DrawLearnKnown_any a cap bs _ (by repeat (first | exact hr | apply rd_seq | apply Rd.plus | apply Rd.alloc | apply Rd.drew | apply Rd.drewN | refine rd_patch ?_ _ _ (by intro A hA; first | (cases hA; show _ ≠ _; omega) | (have := hal A hA; omega))))).mono ?_
  rintro e w' ⟨o, l, m, pa, pc, ps, base, last, s, rfl, hl3, hs5, hrd, x1, rfl⟩
  have hm : s.size ≤ maxLen := by unfold maxLen; omega
  have HR := Lib.hid (show Rd encP _ pa pc ps from hrd)
  clear hrd
  by_cases hbad : kvb o l m ps base last = false ∨ dfB o l m s = false
  · have HI := Lib.hid (fun (W : World) (h : RdP W pa pc ps) => implLearnKnown_no o l m pa pc ps base last s W h hm hbad)
    have HS := Lib.hid (fun (W : World) (h : RdP W pa pc ps) => specLearnKnown_no o l m pa pc ps base last s W h hm hbad)
    clear hbad
    go_wp2_with fail
    refine (HI.out _ (by (try unfold RdP); repeat (first | (with_reducible exact HR.out) | (with_reducible apply rd_seq) | (with_reducible apply Rd.plus) | (with_reducible apply Rd.alloc) | (with_reducible apply Rd.drew) | (with_reducible apply Rd.drewN)))).mono ?_
    rintro e w' ⟨ia, ic, rfl, hown, y1, rfl⟩
    (try simp only [plus_plus] at hown)
    have HX := Lib.hid hown.rd
    clear hown
    go_wp2_with fail
    refine (HS.out _ (by (try unfold RdP); repeat (first | (with_reducible exact HR.out) | (with_reducible apply rd_seq) | (with_reducible apply Rd.plus) | (with_reducible apply Rd.alloc) | (with_reducible apply Rd.drew) | (with_reducible apply Rd.drewN)))).mono ?_
    rintro e w' ⟨ja, jc, rfl, hown, y2, rfl⟩
    (try simp only [plus_plus] at hown)
    have HW := Lib.hid hown.rd
    clear hown
    go_wp2_with fail
    refine (soKnown_yes 0 0 0 ia ja ic jc [] 0 0 _ (by (try unfold RdP); repeat (first | (with_reducible exact HX.out) | (with_reducible apply rd_seq) | (with_reducible apply Rd.plus) | (with_reducible apply Rd.alloc) | (with_reducible apply Rd.drew) | (with_reducible apply Rd.drewN))) (by (try unfold RdP); repeat (first | (with_reducible exact HW.out) | (with_reducible apply rd_seq) | (with_reducible apply Rd.plus) | (with_reducible apply Rd.alloc) | (with_reducible apply Rd.drew) | (with_reducible apply Rd.drewN)))).mono ?_
    rintro e w' ⟨rfl, y3, rfl⟩
    go_wp2_with fail
    refine (soKnown_yes 0 0 0 ia ja ic jc [] 0 0 _ (by (try unfold RdP); repeat (first | (with_reducible exact HX.out) | (with_reducible apply rd_seq) | (with_reducible apply Rd.plus) | (with_reducible apply Rd.alloc) | (with_reducible apply Rd.drew) | (with_reducible apply Rd.drewN))) (by (try unfold RdP); repeat (first | (with_reducible exact HW.out) | (with_reducible apply rd_seq) | (with_reducible apply Rd.plus) | (with_reducible apply Rd.alloc) | (with_reducible apply Rd.drew) | (with_reducible apply Rd.drewN)))).mono ?_
    rintro e w' ⟨rfl, y4, rfl⟩
    go_wp2_with fail
    go_ret
    exact ⟨rfl, (by repeat (first | exact Below.refl _ _ | refine below_plus ?_ (by first | omega | (simp <;> omega)) _ | refine Below.alloc ?_ (by first | omega | (simp <;> omega)) _ | refine below_patch ?_ (by omega) _ | refine Below.drew ?_))⟩
  have hk : kvb o l m ps base last = true := by
    cases hk : kvb o l m ps base last
    · exact absurd (.inl hk) hbad
    · rfl
  have hd : dfB o l m s = true := by
    cases hd : dfB o l m s
    · exact absurd (.inr hd) hbad
    · rfl
  have hkv := kvb_iff.1 hk
  obtain ⟨b, rfl⟩ : ∃ b : Nat, base = b := ⟨base.toNat, by have := hkv.b0; omega⟩
  obtain ⟨q, hq⟩ : ∃ q : Nat, n2 % (s.size + 1) = q := ⟨_, rfl⟩
  have hq2 : q ≤ s.size := by have := Nat.mod_lt n2 (show 0 < s.size + 1 by omega); omega
  have hq3 : (n2 : Int) % ((s.size : Int) + 1) = (q : Int) := by rw [← hq]; rfl
  have hq4 : Int.tmod (n2 : Int) ((s.size : Int) + 1) = (q : Int) := by rw [Int.tmod_eq_emod_of_nonneg (by omega)]; exact hq3
  obtain ⟨⟨r, hpre⟩, hd2, hz2⟩ := lrn_begin hkv hd hq2
  obtain ⟨y, hy⟩ : ∃ y, s.extract 0 q = y := ⟨_, rfl⟩
  rw [hy] at hpre hd2 hz2
  have hym : y.size ≤ maxLen := by omega
  have hlk := lrn_kv s.size (ps.take b) (-1) s.data.toList (by simpa using hkv.cleared) (by rw [bstr_bytes]; exact hd)
  obtain ⟨P, hP⟩ : ∃ P, (lrn l m s.size (ps.take b) (-1) s.data.toList).1 = P := ⟨_, rfl⟩
  obtain ⟨Q, hQ⟩ : ∃ Q, (lrn l m y.size (ps.take b) (-1) y.data.toList).1 = Q := ⟨_, rfl⟩
  rw [hP] at hlk hpre
  rw [hQ] at hpre
  have hkP : KV o l m P ((P.length : Nat) : Int) (-1) := ⟨hlk.s, hlk.len, hlk.ok, by omega, by omega, .inl ⟨rfl, rfl⟩⟩
  have hPl := kv_len (kvb_iff.2 hkP)
  have hQP : Q.length ≤ P.length := by rw [hpre]; simp
  have hget : ∀ k x, Q[k]? = some x → P[k]? = some x := fun k x hk => by
    rw [hpre, List.getElem?_append_left (List.getElem?_eq_some_iff.1 hk).1]; exact hk
  have HI := Lib.hid (fun (W : World) (h : RdP W pa pc ps) => implLearnKnown_yes o l m pa pc ps b last s W h hm hk hd P (by simpa using hP))
  have HS := Lib.hid (fun (W : World) (h : RdP W pa pc ps) => specLearnKnown_yes o l m pa pc ps b last s W h hm hk hd P (by simpa using hP))
  have HY := Lib.hid (fun (W : World) (h : RdP W pa pc ps) => implLearnKnown_yes o l m pa pc ps b last y W h hym hk hd2 Q (by simpa using hQ))
  have HZ := Lib.hid (fun (W : World) (xa : Option Addr) (xc : Nat) (h : RdP W xa xc P) => implLearnKnown_yes o l m xa xc P P.length (-1) ⟨#[]⟩ W h (by show 0 ≤ maxLen; omega) (kvb_iff.2 hkP) (dfB_empty hkv.s) P (by
    rw [show ((⟨#[]⟩ : ByteArray).data.toList) = [] from rfl, lrn_nil]
    simp))
  have HGT := Lib.hid hget
  have HWR := Lib.hid (show IntKind.i64.wrap (q : Int) = (q : Int) from IntWalk.i64_in _ (by omega))
  clear hbad hk hd hkv hq hpre hd2 hz2 hlk hP hQ hkP hget
  go_wp2_with fail
  refine (HI.out _ (by (try unfold RdP); repeat (first | (with_reducible exact HR.out) | (with_reducible apply rd_seq) | (with_reducible apply Rd.plus) | (with_reducible apply Rd.alloc) | (with_reducible apply Rd.drew) | (with_reducible apply Rd.drewN)))).mono ?_
  rintro e w' ⟨ia, ic, rfl, hown, y1, rfl⟩
  (try simp only [plus_plus] at hown)
  have HX := Lib.hid hown.rd
  clear hown
  go_wp2_with fail
  refine (HS.out _ (by (try unfold RdP); repeat (first | (with_reducible exact HR.out) | (with_reducible apply rd_seq) | (with_reducible apply Rd.plus) | (with_reducible apply Rd.alloc) | (with_reducible apply Rd.drew) | (with_reducible apply Rd.drewN)))).mono ?_
  rintro e w' ⟨ja, jc, rfl, hown, y2, rfl⟩
  (try simp only [plus_plus] at hown)
  have HW := Lib.hid hown.rd
  clear hown
  go_wp2_with fail
  refine (soKnown_yes o l m ia ja ic jc P P.length (-1) _ (by (try unfold RdP); repeat (first | (with_reducible exact HX.out) | (with_reducible apply rd_seq) | (with_reducible apply Rd.plus) | (with_reducible apply Rd.alloc) | (with_reducible apply Rd.drew) | (with_reducible apply Rd.drewN))) (by (try unfold RdP); repeat (first | (with_reducible exact HW.out) | (with_reducible apply rd_seq) | (with_reducible apply Rd.plus) | (with_reducible apply Rd.alloc) | (with_reducible apply Rd.drew) | (with_reducible apply Rd.drewN)))).mono ?_
  rintro e w' ⟨rfl, y3, rfl⟩
  go_wp2_with fail
  refine wpn (fun X => X.heap[w.heap.size + x1.n]? = some (.cells #[.int .i64 o, .int .i64 l, .int .i64 m, .slice pa ps.length pc, .int .i64 b, .int .i64 last] 27 (0, 0)) ∧
    X.heap[w.heap.size + x1.n + 1 + y1.n]? = some (.cells #[.int .i64 o, .int .i64 l, .int .i64 m, .slice ia P.length ic, .int .i64 P.length, .int .i64 (-1)] 27 (0, 0)) ∧ Rd encP X pa pc ps ∧ Rd encP X ia ic P ∧ Below w.heap.size w X) ⟨?_, ?_, (by (try unfold RdP); repeat (first | (with_reducible exact HR.out) | (with_reducible apply rd_seq) | (with_reducible apply Rd.plus) | (with_reducible apply Rd.alloc) | (with_reducible apply Rd.drew) | (with_reducible apply Rd.drewN))), (by (try unfold RdP); repeat (first | (with_reducible exact HX.out) | (with_reducible apply rd_seq) | (with_reducible apply Rd.plus) | (with_reducible apply Rd.alloc) | (with_reducible apply Rd.drew) | (with_reducible apply Rd.drewN))), (by repeat (first | exact Below.refl _ _ | refine below_plus ?_ (by first | omega | (simp <;> omega)) _ | refine Below.alloc ?_ (by first | omega | (simp <;> omega)) _ | refine below_patch ?_ (by omega) _ | refine Below.drew ?_))⟩ ?_
  · (repeat (first | exact push_new _ _ _ (by simp <;> omega) | apply blk_plus | apply blk_alloc | apply blk_drew))
  · (repeat (first | exact push_new _ _ _ (by simp <;> omega) | apply blk_plus | apply blk_alloc | apply blk_drew))
  generalize w.heap.size + x1.n + 1 + y1.n = bx
  generalize w.heap.size + x1.n = bk
  clear HX HR HW HI HS
  rintro X ⟨hbk, hbx, hR, hX, hB⟩
  have zk := (Array.getElem?_eq_some_iff.1 hbk).1
  have zx := (Array.getElem?_eq_some_iff.1 hbx).1
  have ck := cell_of hbk
  have cx := cell_of hbx
  have HR := Lib.hid hR
  have HX := Lib.hid hX
  have HB := Lib.hid hB
  have HBX := Lib.hid hbx
  have zw := hB.size
  clear hbk hbx hR hX hB
  refine wp_region_pt 15 (fun w' => ∃ y, w' = plus _ y) (Plan.quiet 0 (Plan.quiet 1 (Plan.quiet 2 (Plan.quiet 3 (Plan.quiet 4 (Plan.quiet 5 (Plan.quiet 6 (Plan.quiet 7 (Plan.quiet 8 (Plan.two 9 (Plan.quiet 10 (Plan.quiet 11 (Plan.quiet 12 (Plan.one 13 (Plan.one 14 (Plan.one 15 Plan.done)))))) 13 (Plan.one 9 (Plan.quiet 10 (Plan.quiet 11 (Plan.quiet 12 (Plan.one 14 (Plan.one 15 Plan.done)))))))))))))))) (by kernel_rfl) (by kernel_rfl) (⟨_, drew_is_plus _⟩) ?_
  refine wpPt_val rfl rfl ?_
  apply Exists.intro
  refine ⟨fun w' hS => ?_, ?_⟩
  focus (obtain ⟨y3, rfl⟩ := hS; simp [go_sem, ↓IntWalk.iteOmega, HWR.out, hq3, hq4, hy, ck] <;> first | done | exact rfl | (rw [IntWalk.i64_in _ (by omega)]; exact rfl) | trace_state)
  refine wpPt_val rfl rfl ?_
  apply Exists.intro
  refine ⟨fun w' hS => ?_, ?_⟩
  focus (obtain ⟨y3, rfl⟩ := hS; simp [go_sem, ↓IntWalk.iteOmega, HWR.out, hq3, hq4, hy, ck] <;> first | done | exact rfl | (rw [IntWalk.i64_in _ (by omega)]; exact rfl) | trace_state)
  refine wpPt_val rfl rfl ?_
  apply Exists.intro
  refine ⟨fun w' hS => ?_, ?_⟩
  focus (obtain ⟨y3, rfl⟩ := hS; simp [go_sem, ↓IntWalk.iteOmega, HWR.out, hq3, hq4, hy, ck] <;> first | done | exact rfl | (rw [IntWalk.i64_in _ (by omega)]; exact rfl) | trace_state)
  refine wpPt_val rfl rfl ?_
  apply Exists.intro
  refine ⟨fun w' hS => ?_, ?_⟩
  focus (obtain ⟨y3, rfl⟩ := hS; simp [go_sem, ↓IntWalk.iteOmega, HWR.out, hq3, hq4, hy, ck] <;> first | done | exact rfl | (rw [IntWalk.i64_in _ (by omega)]; exact rfl) | trace_state)
  refine wpPt_val rfl rfl ?_
  apply Exists.intro
  refine ⟨fun w' hS => ?_, ?_⟩
  focus (obtain ⟨y3, rfl⟩ := hS; simp [go_sem, ↓IntWalk.iteOmega, HWR.out, hq3, hq4, hy, ck] <;> first | done | exact rfl | (rw [IntWalk.i64_in _ (by omega)]; exact rfl) | trace_state)
  refine wpPt_val rfl rfl ?_
  apply Exists.intro
  refine ⟨fun w' hS => ?_, ?_⟩
  focus (obtain ⟨y3, rfl⟩ := hS; simp [go_sem, ↓IntWalk.iteOmega, HWR.out, hq3, hq4, hy, ck] <;> first | done | exact rfl | (rw [IntWalk.i64_in _ (by omega)]; exact rfl) | trace_state)
  refine wpPt_val rfl rfl ?_
  apply Exists.intro
  refine ⟨fun w' hS => ?_, ?_⟩
  focus (obtain ⟨y3, rfl⟩ := hS; simp [go_sem, ↓IntWalk.iteOmega, HWR.out, hq3, hq4, hy, ck] <;> first | done | exact rfl | (rw [IntWalk.i64_in _ (by omega)]; exact rfl) | trace_state)
  refine wpPt_val rfl rfl ?_
  apply Exists.intro
  refine ⟨fun w' hS => ?_, ?_⟩
  focus (obtain ⟨y3, rfl⟩ := hS; simp [go_sem, ↓IntWalk.iteOmega, HWR.out, hq3, hq4, hy, ck] <;> first | done | exact rfl | (rw [IntWalk.i64_in _ (by omega)]; exact rfl) | trace_state)
  refine wpPt_val rfl rfl ?_
  apply Exists.intro
  refine ⟨fun w' hS => ?_, ?_⟩
  focus (obtain ⟨y3, rfl⟩ := hS; simp [go_sem, ↓IntWalk.iteOmega, HWR.out, hq3, hq4, hy, ck] <;> first | done | exact rfl | (rw [IntWalk.i64_in _ (by omega)]; exact rfl) | trace_state)
  refine wpPt_two rfl rfl rfl rfl (fun K hK => ?_) (fun K hK => ?_)
  go_simp
  refine (HY.out _ (by (try unfold RdP); repeat (first | (with_reducible exact HR.out) | (with_reducible apply rd_seq) | (with_reducible apply Rd.plus) | (with_reducible apply Rd.alloc) | (with_reducible apply Rd.drew) | (with_reducible apply Rd.drewN)))).mono ?_
  rintro e w' ⟨ya, yc, rfl, hown, y4, rfl⟩
  (try simp only [plus_plus] at hown)
  have HYR := Lib.hid hown
  clear hown
  refine hK _ _ (fun hkn => (by repeat (first | exact More.refl _ | (with_reducible apply more_seq) | (with_reducible apply more_draw) | apply More.plus | apply More.alloc | apply More.drew))) ?_
  clear hK K
  refine wpPt_val rfl rfl ?_
  apply Exists.intro
  refine ⟨fun w' hS => ?_, ?_⟩
  focus (obtain ⟨y3, rfl⟩ := hS; simp [go_sem, ↓IntWalk.iteOmega, HWR.out, hq3, hq4, hy, ck] <;> first | done | exact rfl | (rw [IntWalk.i64_in _ (by omega)]; exact rfl) | trace_state)
  refine wpPt_val rfl rfl ?_
  apply Exists.intro
  refine ⟨fun w' hS => ?_, ?_⟩
  focus (obtain ⟨y3, rfl⟩ := hS; simp [go_sem, ↓IntWalk.iteOmega, HWR.out, hq3, hq4, hy, ck] <;> first | done | exact rfl | (rw [IntWalk.i64_in _ (by omega)]; exact rfl) | trace_state)
  refine wpPt_val rfl rfl ?_
  apply Exists.intro
  refine ⟨fun w' hS => ?_, ?_⟩
  focus (obtain ⟨y3, rfl⟩ := hS; simp [go_sem, ↓IntWalk.iteOmega, HWR.out, hq3, hq4, hy, ck] <;> first | done | exact rfl | (rw [IntWalk.i64_in _ (by omega)]; exact rfl) | trace_state)
  refine wpPt_one rfl rfl (fun K hK => ?_)
  go_simp
  refine hK _ _ (fun hkn => (by repeat (first | exact More.refl _ | (with_reducible apply more_seq) | (with_reducible apply more_draw) | apply More.plus | apply More.alloc | apply More.drew))) ?_
  clear hK K
  refine wpPt_one rfl rfl (fun K hK => ?_)
  go_simp
  refine hK _ _ (fun hkn => (by repeat (first | exact More.refl _ | (with_reducible apply more_seq) | (with_reducible apply more_draw) | apply More.plus | apply More.alloc | apply More.drew))) ?_
  clear hK K
  refine wpPt_one rfl rfl (fun K hK => ?_)
  go_simp
  refine hK _ _ (fun hkn => absurd hkn (by decide)) ?_
  clear hK K
  refine NoPanic.normal ?_
  rotate_left
  go_simp
  refine hK _ _ (fun hkn => (by repeat (first | exact More.refl _ | (with_reducible apply more_seq) | (with_reducible apply more_draw) | apply More.plus | apply More.alloc | apply More.drew))) ?_
  clear hK K
  refine wpPt_one rfl rfl (fun K hK => ?_)
  go_simp
  refine (HY.out _ (by (try unfold RdP); repeat (first | (with_reducible exact HR.out) | (with_reducible apply rd_seq) | (with_reducible apply Rd.plus) | (with_reducible apply Rd.alloc) | (with_reducible apply Rd.drew) | (with_reducible apply Rd.drewN)))).mono ?_
  rintro e w' ⟨ya, yc, rfl, hown, y4, rfl⟩
  (try simp only [plus_plus] at hown)
  have HYR := Lib.hid hown
  clear hown
  refine hK _ _ (fun hkn => (by repeat (first | exact More.refl _ | (with_reducible apply more_seq) | (with_reducible apply more_draw) | apply More.plus | apply More.alloc | apply More.drew))) ?_
  clear hK K
  refine wpPt_val rfl rfl ?_
  apply Exists.intro
  refine ⟨fun w' hS => ?_, ?_⟩
  focus (obtain ⟨y3, rfl⟩ := hS; simp [go_sem, ↓IntWalk.iteOmega, HWR.out, hq3, hq4, hy, ck] <;> first | done | exact rfl | (rw [IntWalk.i64_in _ (by omega)]; exact rfl) | trace_state)
  refine wpPt_val rfl rfl ?_
  apply Exists.intro
  refine ⟨fun w' hS => ?_, ?_⟩
  focus (obtain ⟨y3, rfl⟩ := hS; simp [go_sem, ↓IntWalk.iteOmega, HWR.out, hq3, hq4, hy, ck] <;> first | done | exact rfl | (rw [IntWalk.i64_in _ (by omega)]; exact rfl) | trace_state)
  refine wpPt_val rfl rfl ?_
  apply Exists.intro
  refine ⟨fun w' hS => ?_, ?_⟩
  focus (obtain ⟨y3, rfl⟩ := hS; simp [go_sem, ↓IntWalk.iteOmega, HWR.out, hq3, hq4, hy, ck] <;> first | done | exact rfl | (rw [IntWalk.i64_in _ (by omega)]; exact rfl) | trace_state)
  refine wpPt_one rfl rfl (fun K hK => ?_)
  go_simp
  refine hK _ _ (fun hkn => (by repeat (first | exact More.refl _ | (with_reducible apply more_seq) | (with_reducible apply more_draw) | apply More.plus | apply More.alloc | apply More.drew))) ?_
  clear hK K
  refine wpPt_one rfl rfl (fun K hK => ?_)
  go_simp
  refine hK _ _ (fun hkn => absurd hkn (by decide)) ?_
  clear hK K
  refine NoPanic.normal ?_
  all_goals
    go_wp2_with fail
    refine (HZ.out _ ia ic (by (try unfold RdP); repeat (first | (with_reducible exact HX.out) | (with_reducible apply rd_seq) | (with_reducible apply Rd.plus) | (with_reducible apply Rd.alloc) | (with_reducible apply Rd.drew) | (with_reducible apply Rd.drewN)))).mono ?_
    rintro e w' ⟨za, zc, rfl, hown, y5, rfl⟩
    (try simp only [plus_plus] at hown)
    have HZR := Lib.hid hown.rd
    clear hown
    go_wp2_with fail
  · skip
    refine wpn (fun Y => Y.heap[bx]? = some (.cells #[.int .i64 o, .int .i64 l, .int .i64 m, .slice ia P.length ic, .int .i64 P.length, .int .i64 (-1)] 27 (0, 0)) ∧
      Y.heap[X.heap.size]? = some (.cells #[.int .i64 o, .int .i64 l, .int .i64 m, .slice ya Q.length yc, .int .i64 Q.length, .int .i64 (-1)] 27 (0, 0)) ∧
      Y.heap[X.heap.size + 1 + (y4.n + y5.n)]? = some (.cells #[.int .i64 o, .int .i64 l, .int .i64 m, .slice za P.length zc, .int .i64 P.length, .int .i64 (-1)] 27 (0, 0)) ∧
      Rd encP Y ia ic P ∧ Rd encP Y ya yc Q ∧ Rd encP Y za zc P ∧ Below w.heap.size w Y) ⟨(by repeat (first | (with_reducible exact HBX.out) | (with_reducible apply blk_seq) | (with_reducible apply blk_draw) | (with_reducible apply blk_plus) | (with_reducible apply blk_alloc) | (with_reducible apply blk_drew) | (with_reducible refine blk_patch ?_ (by omega)) | exact HBX.out)), ?_, ?_, (by (try unfold RdP); repeat (first | (with_reducible exact HX.out) | (with_reducible apply rd_seq) | (with_reducible apply Rd.plus) | (with_reducible apply Rd.alloc) | (with_reducible apply Rd.drew) | (with_reducible apply Rd.drewN))), (by (try unfold RdP); repeat (first | (with_reducible exact HYR.out.rd) | (with_reducible exact (own_swap HYR.out (by simp; done) (by simp <;> omega)).rd) | (with_reducible apply rd_seq) | (with_reducible apply Rd.plus) | (with_reducible apply Rd.alloc) | (with_reducible apply Rd.drew))), (by (try unfold RdP); repeat (first | (with_reducible exact HZR.out) | (with_reducible apply rd_seq) | (with_reducible apply Rd.plus) | (with_reducible apply Rd.alloc) | (with_reducible apply Rd.drew) | (with_reducible apply Rd.drewN))), (by repeat (first | (with_reducible exact HB.out) | refine below_plus ?_ (by first | omega | (simp <;> omega)) _ | refine Below.alloc ?_ (by first | omega | (simp <;> omega)) _ | refine below_patch ?_ (by omega) _ | refine Below.drew ?_))⟩ ?_
    · (repeat (first | exact push_new _ _ _ (by simp <;> omega) | apply blk_plus | apply blk_alloc | apply blk_drew))
    · (repeat (first | exact push_new _ _ _ (by simp <;> omega) | apply blk_plus | apply blk_alloc | apply blk_drew))
    generalize X.heap.size + 1 + (y4.n + y5.n) = bz
    generalize X.heap.size = bY
    rintro Y ⟨hbx, hby, hbz, hX, hY, hZ, hB⟩
    clear ck cx zk zx HR HX HB HBX HYR HZR
    have zx := (Array.getElem?_eq_some_iff.1 hbx).1
    have zy := (Array.getElem?_eq_some_iff.1 hby).1
    have zz := (Array.getElem?_eq_some_iff.1 hbz).1
    have cx := cell_of hbx
    have cy := cell_of hby
    have cz := cell_of hbz
    have HX := Lib.hid hX
    have HZ := Lib.hid hZ
    have HB := Lib.hid hB
    have zw2 := hB.size
    have HOY := Lib.hid (RdP.open hY).2.2
    have HOX := Lib.hid (RdP.open hX).2.2
    have zy1 := hY.1
    have zy2 := hY.2.1
    have zx1 := hX.1
    have zx2 := hX.2.1
    clear hbx hby hbz hX hY hZ hB
    go_loopw [15] (fun i wr => ∃ (k : Nat) (z : Ext), k ≤ Q.length ∧ i = .int .i64 k ∧ wr = plus Y z) (fun i _ => Q.length - (intOf i).toNat)
    case atStart => exact ⟨0, _, Nat.zero_le _, rfl, (plus_self _).symm⟩
    case round =>
      obtain ⟨k, z, hk1, rfl, rfl⟩ := hrel
      rcases dec (k < Q.length) with ⟨hlt, blt⟩ | ⟨hlt, blt⟩
      · obtain ⟨p, hp⟩ : ∃ p, Q[k]? = some p := ⟨Q[k], List.getElem?_eq_getElem (by omega)⟩
        rcases HOY.out with h9 | ⟨b1, off, rfl, hb, hc⟩
        · exact absurd hlt (by omega)
        rcases HOX.out with h9 | ⟨b2, off', rfl, hb', hc'⟩
        · exact absurd hlt (by omega)
        obtain ⟨c1, c2⟩ := hc k p hp
        obtain ⟨d1, d2⟩ := hc' k p (HGT.out k p hp)
        clear hc hc' hp
        have hkP : (k : Int) < (P.length : Int) := by omega
        have v8 : decide ((P.length : Int) ≤ (k : Int)) = false := by simp; omega
        have v9 : decide (P.length ≤ k) = false := by simp; omega
        go_wp2
        (refine wp_region_calm (by kernel_rfl) (by kernel_rfl) ?_
         repeat (first | go_big_quiet_skip | (go_big_quiet_want; go_big_quiet_op; first | go_big_quiet_on | (apply Exists.intro; refine ⟨fun _ => ?_, ?_⟩; (focus (fail)); go_big_quiet_on)))
         refine wpQuiet_nil ?_
         intro _ hw'
         obtain ⟨xq, hw''⟩ := hw'
         subst hw'')
        go_wp2
        go_roundw
        case rel => exact ⟨k + 1, _, by omega, by go_num, rfl⟩
        case measure => simp [intOf]; omega
      · go_wp2_with fail
        refine (soKnown_yes o l m za ia zc ic P P.length (-1) _ (by (try unfold RdP); repeat (first | (with_reducible exact HZ.out) | (with_reducible apply rd_seq) | (with_reducible apply Rd.plus) | (with_reducible apply Rd.alloc) | (with_reducible apply Rd.drew) | (with_reducible apply Rd.drewN))) (by (try unfold RdP); repeat (first | (with_reducible exact HX.out) | (with_reducible apply rd_seq) | (with_reducible apply Rd.plus) | (with_reducible apply Rd.alloc) | (with_reducible apply Rd.drew) | (with_reducible apply Rd.drewN)))).mono ?_
        rintro e w' ⟨rfl, y9, rfl⟩
        go_wp2_with fail
        go_ret
        exact ⟨rfl, (by repeat (first | (with_reducible exact HB.out) | refine below_plus ?_ (by first | omega | (simp <;> omega)) _ | refine Below.alloc ?_ (by first | omega | (simp <;> omega)) _ | refine below_patch ?_ (by omega) _ | refine Below.drew ?_))⟩
  · skip
    refine wpn (fun Y => Y.heap[bx]? = some (.cells #[.int .i64 o, .int .i64 l, .int .i64 m, .slice ia P.length ic, .int .i64 P.length, .int .i64 (-1)] 27 (0, 0)) ∧
      Y.heap[X.heap.size + y4.n]? = some (.cells #[.int .i64 o, .int .i64 l, .int .i64 m, .slice ya Q.length yc, .int .i64 Q.length, .int .i64 (-1)] 27 (0, 0)) ∧
      Y.heap[X.heap.size + y4.n + 1 + y5.n]? = some (.cells #[.int .i64 o, .int .i64 l, .int .i64 m, .slice za P.length zc, .int .i64 P.length, .int .i64 (-1)] 27 (0, 0)) ∧
      Rd encP Y ia ic P ∧ Rd encP Y ya yc Q ∧ Rd encP Y za zc P ∧ Below w.heap.size w Y) ⟨(by repeat (first | (with_reducible exact HBX.out) | (with_reducible apply blk_seq) | (with_reducible apply blk_draw) | (with_reducible apply blk_plus) | (with_reducible apply blk_alloc) | (with_reducible apply blk_drew) | (with_reducible refine blk_patch ?_ (by omega)) | exact HBX.out)), ?_, ?_, (by (try unfold RdP); repeat (first | (with_reducible exact HX.out) | (with_reducible apply rd_seq) | (with_reducible apply Rd.plus) | (with_reducible apply Rd.alloc) | (with_reducible apply Rd.drew) | (with_reducible apply Rd.drewN))), (by (try unfold RdP); repeat (first | (with_reducible exact HYR.out.rd) | (with_reducible exact (own_swap HYR.out (by simp; done) (by simp <;> omega)).rd) | (with_reducible apply rd_seq) | (with_reducible apply Rd.plus) | (with_reducible apply Rd.alloc) | (with_reducible apply Rd.drew))), (by (try unfold RdP); repeat (first | (with_reducible exact HZR.out) | (with_reducible apply rd_seq) | (with_reducible apply Rd.plus) | (with_reducible apply Rd.alloc) | (with_reducible apply Rd.drew) | (with_reducible apply Rd.drewN))), (by repeat (first | (with_reducible exact HB.out) | refine below_plus ?_ (by first | omega | (simp <;> omega)) _ | refine Below.alloc ?_ (by first | omega | (simp <;> omega)) _ | refine below_patch ?_ (by omega) _ | refine Below.drew ?_))⟩ ?_
    · (repeat (first | exact push_new _ _ _ (by simp <;> omega) | apply blk_plus | apply blk_alloc | apply blk_drew))
    · (repeat (first | exact push_new _ _ _ (by simp <;> omega) | apply blk_plus | apply blk_alloc | apply blk_drew))
    generalize X.heap.size + y4.n + 1 + y5.n = bz
    generalize X.heap.size + y4.n = bY
    rintro Y ⟨hbx, hby, hbz, hX, hY, hZ, hB⟩
    clear ck cx zk zx HR HX HB HBX HYR HZR
    have zx := (Array.getElem?_eq_some_iff.1 hbx).1
    have zy := (Array.getElem?_eq_some_iff.1 hby).1
    have zz := (Array.getElem?_eq_some_iff.1 hbz).1
    have cx := cell_of hbx
    have cy := cell_of hby
    have cz := cell_of hbz
    have HX := Lib.hid hX
    have HZ := Lib.hid hZ
    have HB := Lib.hid hB
    have zw2 := hB.size
    have HOY := Lib.hid (RdP.open hY).2.2
    have HOX := Lib.hid (RdP.open hX).2.2
    have zy1 := hY.1
    have zy2 := hY.2.1
    have zx1 := hX.1
    have zx2 := hX.2.1
    clear hbx hby hbz hX hY hZ hB
    go_loopw [15] (fun i wr => ∃ (k : Nat) (z : Ext), k ≤ Q.length ∧ i = .int .i64 k ∧ wr = plus Y z) (fun i _ => Q.length - (intOf i).toNat)
    case atStart => exact ⟨0, _, Nat.zero_le _, rfl, (plus_self _).symm⟩
    case round =>
      obtain ⟨k, z, hk1, rfl, rfl⟩ := hrel
      rcases dec (k < Q.length) with ⟨hlt, blt⟩ | ⟨hlt, blt⟩
      · obtain ⟨p, hp⟩ : ∃ p, Q[k]? = some p := ⟨Q[k], List.getElem?_eq_getElem (by omega)⟩
        rcases HOY.out with h9 | ⟨b1, off, rfl, hb, hc⟩
        · exact absurd hlt (by omega)
        rcases HOX.out with h9 | ⟨b2, off', rfl, hb', hc'⟩
        · exact absurd hlt (by omega)
        obtain ⟨c1, c2⟩ := hc k p hp
        obtain ⟨d1, d2⟩ := hc' k p (HGT.out k p hp)
        clear hc hc' hp
        have hkP : (k : Int) < (P.length : Int) := by omega
        have v8 : decide ((P.length : Int) ≤ (k : Int)) = false := by simp; omega
        have v9 : decide (P.length ≤ k) = false := by simp; omega
        go_wp2
        (refine wp_region_calm (by kernel_rfl) (by kernel_rfl) ?_
         repeat (first | go_big_quiet_skip | (go_big_quiet_want; go_big_quiet_op; first | go_big_quiet_on | (apply Exists.intro; refine ⟨fun _ => ?_, ?_⟩; (focus (fail)); go_big_quiet_on)))
         refine wpQuiet_nil ?_
         intro _ hw'
         obtain ⟨xq, hw''⟩ := hw'
         subst hw'')
        go_wp2
        go_roundw
        case rel => exact ⟨k + 1, _, by omega, by go_num, rfl⟩
        case measure => simp [intOf]; omega
      · go_wp2_with fail
        refine (soKnown_yes o l m za ia zc ic P P.length (-1) _ (by (try unfold RdP); repeat (first | (with_reducible exact HZ.out) | (with_reducible apply rd_seq) | (with_reducible apply Rd.plus) | (with_reducible apply Rd.alloc) | (with_reducible apply Rd.drew) | (with_reducible apply Rd.drewN))) (by (try unfold RdP); repeat (first | (with_reducible exact HX.out) | (with_reducible apply rd_seq) | (with_reducible apply Rd.plus) | (with_reducible apply Rd.alloc) | (with_reducible apply Rd.drew) | (with_reducible apply Rd.drewN)))).mono ?_
        rintro e w' ⟨rfl, y9, rfl⟩
        go_wp2_with fail
        go_ret
        exact ⟨rfl, (by repeat (first | (with_reducible exact HB.out) | refine below_plus ?_ (by first | omega | (simp <;> omega)) _ | refine Below.alloc ?_ (by first | omega | (simp <;> omega)) _ | refine below_patch ?_ (by omega) _ | refine Below.drew ?_))⟩

theorem lawLearnBegin_any (a : Option Addr) (cap : Nat) (bs : List UInt8) (a2 : Option Addr) (cap2 : Nat) (bs2 : List UInt8) (w : World) (hr : Rd encB w a cap bs) (hr2 : Rd encB w a2 cap2 bs2) :
    Calls Try.prog 5 #[.slice a bs.length cap, .slice a2 bs2.length cap2] w (fun e w' => e = .returned (.bool true) ∧ Below w.heap.size w w') := by
  have g1 := hr.1
  have g2 := hr.2.1
  have g3 := hr2.1
  have g4 := hr2.2.1
  by_cases h1 : bs.length ≤ 1048576
  · by_cases h2 : bs2.length ≤ 1048576
    · exact lawLearnBegin_fit a cap bs a2 cap2 bs2.length w hr h1 h2
    · go_enter Try.func5, Try.ntmps5
      go_wp2
      go_ret
      exact ⟨rfl, (by repeat (first | exact Below.refl _ _ | refine below_plus ?_ (by first | omega | (simp <;> omega)) _ | refine Below.alloc ?_ (by first | omega | (simp <;> omega)) _ | refine below_patch ?_ (by omega) _ | refine Below.drew ?_))⟩
  · go_enter Try.func5, Try.ntmps5
    go_wp2
    go_ret
    exact ⟨rfl, (by repeat (first | exact Below.refl _ _ | refine below_plus ?_ (by first | omega | (simp <;> omega)) _ | refine Below.alloc ?_ (by first | omega | (simp <;> omega)) _ | refine below_patch ?_ (by omega) _ | refine Below.drew ?_))⟩

end Go.Proofs.Ytlihhlihcjncoaa
