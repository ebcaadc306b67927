/- The law Trim: a trimmed dictionary, in plain Lean, and the walk. -/
import Derived.Test.YtlihhlihcjncoaaDrh
import Derived.Test.YtlihhlihcjncoaaTrd
import Derived.Test.YtlihhlihcjncoaaSwi
import Derived.Test.YtlihhlihcjncoaaTmp
namespace Go.Proofs.Ytlihhlihcjncoaa
open Go.RowKit
set_option linter.unusedVariables false
set_option linter.unusedSimpArgs false

theorem ext_pre (s : ByteArray) (n : Nat) : (s.extract 0 n).data.toList = s.data.toList.take n := by
  have := bstr_pre s.data.toList n
  rw [bstr_bytes] at this
  rw [this, bytes_bstr]

/-- what is learned from a text -/
noncomputable def lrn0 (l m : Int) (s : ByteArray) : List Pr := (lrn l m s.size [] (-1) s.data.toList).1

/-- how much of a text is needed -/
noncomputable def ned0 (l m : Int) (s : ByteArray) : Int := ned l m s.size [] (-1) s.data.toList 0 0

theorem lrn_pre {o l m : Int} {s : ByteArray} (hs : sv o l m = true) (hd : dfB o l m s = true) {n : Nat} (hn : n ≤ s.size) :
    (∃ r, lrn0 l m s = lrn0 l m (s.extract 0 n) ++ r) ∧ ((lrn0 l m s).length = (lrn0 l m (s.extract 0 n)).length ↔ ned0 l m s ≤ n) ∧ 0 ≤ ned0 l m s ∧ ned0 l m s ≤ s.size ∧ dfB o l m (s.extract 0 n) = true ∧ (s.extract 0 n).size = n := by
  have hTx : Tx o l m 0 [] (-1) s.data.toList := ⟨kv_start hs, by rw [bstr_bytes]; exact hd⟩
  obtain ⟨q1, q2, q3, q4, _⟩ := trim_main s.size [] (-1) s.data.toList n 0 0 hTx (by rw [bytes_len]; omega) (by rw [bytes_len]; exact hn) (by omega)
  have hz : (s.extract 0 n).size = n := by rw [← bytes_len, ext_pre, List.length_take, bytes_len]; omega
  have e : (lrn l m s.size [] (-1) (s.data.toList.take n)).1 = lrn0 l m (s.extract 0 n) := by
    unfold lrn0
    rw [hz, ext_pre]
    rw [lrn_fuel s.size n [] (-1) (s.data.toList.take n) (hTx.take n) (by rw [List.length_take, bytes_len]; omega) (by rw [List.length_take]; omega)]
  rw [e] at q1 q2
  rw [bytes_len] at q3
  refine ⟨q1, ?_, q4, by unfold ned0; omega, ?_, hz⟩
  · unfold ned0
    rw [Int.zero_add] at q2
    exact q2
  · have := dfB_pre (d := s.data.toList) (by rw [bstr_bytes]; exact hd) n
    rw [← ext_pre, bstr_bytes] at this
    exact this

/-- the trimmed part is trimmed -/
theorem ned_ned {o l m : Int} {s : ByteArray} (hs : sv o l m = true) (hd : dfB o l m s = true) {N : Nat} (hN : ned0 l m s = N) : ned0 l m (s.extract 0 N) = N := by
  obtain ⟨_, a1, a2, a3, a4, a5⟩ := lrn_pre hs hd (n := N) (by
    obtain ⟨_, _, _, b3, _⟩ := lrn_pre hs hd (n := 0) (by omega)
    omega)
  have hNs : N ≤ s.size := by omega
  obtain ⟨_, _, b2, b3, _, _⟩ := lrn_pre hs a4 (n := 0) (by omega)
  rw [a5] at b3
  obtain ⟨M, hM⟩ : ∃ M : Nat, ned0 l m (s.extract 0 N) = M := ⟨(ned0 l m (s.extract 0 N)).toNat, by omega⟩
  have hMN : M ≤ N := by omega
  obtain ⟨_, c1, _, _, _, _⟩ := lrn_pre hs a4 (n := M) (by rw [a5]; omega)
  have e : (s.extract 0 N).extract 0 M = s.extract 0 M := by
    rw [← bstr_bytes ((s.extract 0 N).extract 0 M), ext_pre, ext_pre, List.take_take, Nat.min_eq_left hMN, ← ext_pre, bstr_bytes]
  rw [e] at c1
  obtain ⟨_, d1, _⟩ := lrn_pre hs hd (n := M) (by omega)
  have h1 := a1.2 (by omega)
  have h2 := c1.2 (by omega)
  have h3 := d1.1 (h1.trans h2)
  omega

theorem implStartWith_yes0 (o l m : Int) (s : ByteArray) (w : World) (hs : sv o l m = true) (hd : dfB o l m s = true) (hm : s.size ≤ maxLen) (qs : List Pr) (hq : lrn0 l m s = qs) :
    Calls Try.prog 32 #[.agg #[.int .i64 o, .int .i64 l, .int .i64 m], .string s] w (RetO w (fun a0 c0 => .tuple #[.agg #[.int .i64 o, .int .i64 l, .int .i64 m, .slice a0 qs.length c0, .int .i64 qs.length, .int .i64 (-1)], .bool true]) qs) :=
  implStartWith_of o l m s w hs _ _ _ _ _ _ _ fun W => implLearnKnown_yes o l m none 0 [] 0 (-1) s W (rd_none W) hm (kvb_iff.2 (kv_start hs)) hd qs hq

set_option maxRecDepth 100000 in
set_option maxHeartbeats 4000000 in
theorem lawTrim_any (a : Option Addr) (cap : Nat) (bs : List UInt8) (w : World) (hr : Rd encB w a cap bs) :
    Calls Try.prog 6 #[.slice a bs.length cap] w (fun e w' => e = .returned (.bool true) ∧ Below w.heap.size w w') := by
  have g1 := hr.1
  have g2 := hr.2.1
  by_cases h1 : bs.length ≤ 1048576
  case neg =>
    go_enter Try.func6, Try.ntmps6
    go_wp2
    go_ret
    exact ⟨rfl, (by repeat (first | exact Below.refl _ _ | refine below_plus ?_ (by first | omega | (simp <;> omega)) _ | refine Below.alloc ?_ (by first | omega | (simp <;> omega)) _ | refine below_patch ?_ (by omega) _ | refine Below.drew ?_))⟩
  go_enter Try.func6, Try.ntmps6
  go_wp2_with fail
  refine (DrawTrimDict_any a cap bs _ (by repeat (first | exact hr | apply rd_seq | apply Rd.plus | apply Rd.alloc | apply Rd.drew | apply Rd.drewN | refine rd_patch ?_ _ _ (by intro A hA; first | (cases hA; show _ ≠ _; omega) | (have := hal A hA; omega))))).mono ?_
  rintro e w' ⟨o, l, m, s, rfl, hs3, x1, rfl⟩
  have hm : s.size ≤ maxLen := by unfold maxLen; omega
  by_cases hbad : sv o l m = false ∨ dfB o l m s = false
  · go_wp2_with (first | (go_at_call 30; refine (implTrimDict_no o l m s _ hm hbad).mono ?_; rintro e w' ⟨rfl, xc, rfl⟩) | (go_at_call 31; refine (specTrimDict_no o l m s _ hm hbad).mono ?_; rintro e w' ⟨rfl, xc, rfl⟩))
    go_ret
    exact ⟨rfl, (by repeat (first | exact Below.refl _ _ | refine below_plus ?_ (by first | omega | (simp <;> omega)) _ | refine Below.alloc ?_ (by first | omega | (simp <;> omega)) _ | refine below_patch ?_ (by omega) _ | refine Below.drew ?_))⟩
  have hs : sv o l m = true := by
    cases hk : sv o l m
    · exact absurd (.inl hk) hbad
    · rfl
  have hd : dfB o l m s = true := by
    cases hd : dfB o l m s
    · exact absurd (.inr hd) hbad
    · rfl
  clear hbad
  obtain ⟨_, _, n0, n1, _, _⟩ := lrn_pre hs hd (n := 0) (by omega)
  obtain ⟨N, hN⟩ : ∃ N : Nat, ned0 l m s = N := ⟨(ned0 l m s).toNat, by omega⟩
  have hNs : N ≤ s.size := by omega
  obtain ⟨_, _, _, _, hd2, hz2⟩ := lrn_pre hs hd hNs
  have hN2 := ned_ned hs hd hN
  obtain ⟨d, hdd⟩ : ∃ d, s.extract 0 N = d := ⟨_, rfl⟩
  rw [hdd] at hd2 hz2 hN2
  have hdd2 : d.extract 0 N = d := by
    rw [← bstr_bytes (d.extract 0 N), ext_pre, List.take_of_length_le (by rw [bytes_len]; omega), bstr_bytes]
  have hmd : d.size ≤ maxLen := by omega
  have HT1 := Lib.hid (fun (W : World) => implTrimDict_yes o l m s W hm hs hd N hN hNs)
  have HT2 := Lib.hid (fun (W : World) => specTrimDict_yes o l m s W hm hs hd N hN hNs)
  have HT3 := Lib.hid (fun (W : World) => implTrimDict_yes o l m d W hmd hs hd2 N (by have := hN2; unfold ned0 at this; exact this) (by omega))
  rw [hdd] at HT1 HT2
  rw [hdd2] at HT3
  have he1 := isEmpty_size d
  rcases Nat.eq_zero_or_pos N with hz | hz
  · rw [decide_eq_true (by omega)] at he1
    clear hN hN2 hdd2 hs hd hd2 n0 n1 hz
    go_wp2_with fail
    refine (HT1.out _).mono ?_
    rintro e w' ⟨rfl, x2, rfl⟩
    go_wp2_with fail
    refine (HT2.out _).mono ?_
    rintro e w' ⟨rfl, x3, rfl⟩
    go_wp2_with fail
    refine (HT3.out _).mono ?_
    rintro e w' ⟨rfl, x4, rfl⟩
    go_wp2_with fail
    go_ret
    exact ⟨rfl, (by repeat (first | exact Below.refl _ _ | refine below_plus ?_ (by first | omega | (simp <;> omega)) _ | refine Below.alloc ?_ (by first | omega | (simp <;> omega)) _ | refine below_patch ?_ (by omega) _ | refine Below.drew ?_))⟩
  · rw [decide_eq_false (by omega)] at he1
    obtain ⟨M, rfl⟩ : ∃ M, N = M + 1 := ⟨N - 1, by omega⟩
    obtain ⟨⟨r, hr1⟩, hr2, _, _, hd4, hz4⟩ := lrn_pre hs hd (n := M) (by omega)
    have hlt : (lrn0 l m (s.extract 0 M)).length < (lrn0 l m s).length := by
      have e := congrArg List.length hr1
      rw [List.length_append] at e
      rcases Nat.lt_or_ge (lrn0 l m (s.extract 0 M)).length (lrn0 l m s).length with h | h
      · exact h
      · have := hr2.1 (by omega)
        omega
    have hey : d.extract 0 M = s.extract 0 M := by
      rw [← bstr_bytes (d.extract 0 M), ext_pre, ← hdd, ext_pre, List.take_take, Nat.min_eq_left (by omega), ← ext_pre, bstr_bytes]
    obtain ⟨y, hy⟩ : ∃ y, s.extract 0 M = y := ⟨_, rfl⟩
    rw [hy] at hey hlt hd4 hz4
    have hmy : y.size ≤ maxLen := by omega
    obtain ⟨P1, hP1⟩ : ∃ P1, lrn0 l m s = P1 := ⟨_, rfl⟩
    obtain ⟨P2, hP2⟩ : ∃ P2, lrn0 l m y = P2 := ⟨_, rfl⟩
    rw [hP1, hP2] at hlt
    have HS1 := Lib.hid (fun (W : World) => implStartWith_yes0 o l m s W hs hd hm P1 hP1)
    have HS2 := Lib.hid (fun (W : World) => implStartWith_yes0 o l m y W hs hd4 hmy P2 hP2)
    have HWR := Lib.hid (show IntKind.i64.wrap (M : Int) = (M : Int) from IntWalk.i64_in _ (by omega))
    clear hN hN2 hdd2 hs hd hd2 n0 n1 hP1 hP2 hr1 hr2 hd4 hy hz
    go_wp2_with fail
    refine (HT1.out _).mono ?_
    rintro e w' ⟨rfl, x2, rfl⟩
    go_wp2_with fail
    refine (HT2.out _).mono ?_
    rintro e w' ⟨rfl, x3, rfl⟩
    go_wp2_with fail
    refine (HT3.out _).mono ?_
    rintro e w' ⟨rfl, x4, rfl⟩
    go_wp2_with fail
    refine (HS1.out _).mono ?_
    rintro e w' ⟨pa, pc, rfl, hown, x5, rfl⟩
    clear hown
    go_wp2_with fail
    refine wp_region_pt 12 (fun w' => w'.heap[w.heap.size + x1.n]? = some (.cells #[.int .i64 o, .int .i64 l, .int .i64 m] 24 (0, 0))) (Plan.quiet 0 (Plan.quiet 1 (Plan.quiet 2 (Plan.quiet 3 (Plan.quiet 4 (Plan.quiet 5 (Plan.two 6 (Plan.quiet 7 (Plan.quiet 8 (Plan.quiet 9 (Plan.one 10 (Plan.one 11 (Plan.one 12 Plan.done)))))) 10 (Plan.one 6 (Plan.quiet 7 (Plan.quiet 8 (Plan.quiet 9 (Plan.one 11 (Plan.one 12 Plan.done))))))))))))) (by kernel_rfl) (by kernel_rfl) ((by repeat (first | (with_reducible exact push_new _ _ _ (by simp)) | (with_reducible apply blk_plus) | (with_reducible apply blk_alloc) | (with_reducible apply blk_drew)))) ?_
    refine wpPt_val rfl rfl ?_
    apply Exists.intro
    refine ⟨fun w' hS => ?_, ?_⟩
    focus (have rS := cell_of hS; simp [go_sem, ↓IntWalk.iteOmega, rS, hz2, hey, HWR.out] <;> first | done | exact rfl | (rw [IntWalk.i64_in _ (by omega)]; exact rfl) | trace_state)
    refine wpPt_val rfl rfl ?_
    apply Exists.intro
    refine ⟨fun w' hS => ?_, ?_⟩
    focus (have rS := cell_of hS; simp [go_sem, ↓IntWalk.iteOmega, rS, hz2, hey, HWR.out] <;> first | done | exact rfl | (rw [IntWalk.i64_in _ (by omega)]; exact rfl) | trace_state)
    refine wpPt_val rfl rfl ?_
    apply Exists.intro
    refine ⟨fun w' hS => ?_, ?_⟩
    focus (have rS := cell_of hS; simp [go_sem, ↓IntWalk.iteOmega, rS, hz2, hey, HWR.out] <;> first | done | exact rfl | (rw [IntWalk.i64_in _ (by omega)]; exact rfl) | trace_state)
    refine wpPt_val rfl rfl ?_
    apply Exists.intro
    refine ⟨fun w' hS => ?_, ?_⟩
    focus (have rS := cell_of hS; simp [go_sem, ↓IntWalk.iteOmega, rS, hz2, hey, HWR.out] <;> first | done | exact rfl | (rw [IntWalk.i64_in _ (by omega)]; exact rfl) | trace_state)
    refine wpPt_val rfl rfl ?_
    apply Exists.intro
    refine ⟨fun w' hS => ?_, ?_⟩
    focus (have rS := cell_of hS; simp [go_sem, ↓IntWalk.iteOmega, rS, hz2, hey, HWR.out] <;> first | done | exact rfl | (rw [IntWalk.i64_in _ (by omega)]; exact rfl) | trace_state)
    refine wpPt_val rfl rfl ?_
    apply Exists.intro
    refine ⟨fun w' hS => ?_, ?_⟩
    focus (have rS := cell_of hS; simp [go_sem, ↓IntWalk.iteOmega, rS, hz2, hey, HWR.out] <;> first | done | exact rfl | (rw [IntWalk.i64_in _ (by omega)]; exact rfl) | trace_state)
    refine wpPt_two rfl rfl rfl rfl (fun K hK => ?_) (fun K hK => ?_)
    go_simp
    refine (HS2.out _).mono ?_
    rintro e w' ⟨pa2, pc2, rfl, hown2, x6, rfl⟩
    clear hown2
    refine hK _ _ (fun hkn => (by repeat (first | (with_reducible exact push_new _ _ _ (by simp)) | (with_reducible apply blk_plus) | (with_reducible apply blk_alloc) | (with_reducible apply blk_drew)))) ?_
    clear hK K
    refine wpPt_val rfl rfl ?_
    apply Exists.intro
    refine ⟨fun w' hS => ?_, ?_⟩
    focus (have rS := cell_of hS; simp [go_sem, ↓IntWalk.iteOmega, rS, hz2, hey, HWR.out] <;> first | done | exact rfl | (rw [IntWalk.i64_in _ (by omega)]; exact rfl) | trace_state)
    refine wpPt_val rfl rfl ?_
    apply Exists.intro
    refine ⟨fun w' hS => ?_, ?_⟩
    focus (have rS := cell_of hS; simp [go_sem, ↓IntWalk.iteOmega, rS, hz2, hey, HWR.out] <;> first | done | exact rfl | (rw [IntWalk.i64_in _ (by omega)]; exact rfl) | trace_state)
    refine wpPt_val rfl rfl ?_
    apply Exists.intro
    refine ⟨fun w' hS => ?_, ?_⟩
    focus (have rS := cell_of hS; simp [go_sem, ↓IntWalk.iteOmega, rS, hz2, hey, HWR.out] <;> first | done | exact rfl | (rw [IntWalk.i64_in _ (by omega)]; exact rfl) | trace_state)
    refine wpPt_one rfl rfl (fun K hK => ?_)
    go_simp
    refine hK _ _ (fun hkn => (by repeat (first | (with_reducible exact push_new _ _ _ (by simp)) | (with_reducible apply blk_plus) | (with_reducible apply blk_alloc) | (with_reducible apply blk_drew)))) ?_
    clear hK K
    refine wpPt_one rfl rfl (fun K hK => ?_)
    go_simp
    refine hK _ _ (fun hkn => (by repeat (first | (with_reducible exact push_new _ _ _ (by simp)) | (with_reducible apply blk_plus) | (with_reducible apply blk_alloc) | (with_reducible apply blk_drew)))) ?_
    clear hK K
    refine wpPt_one rfl rfl (fun K hK => ?_)
    go_simp
    refine hK _ _ (fun hkn => absurd hkn (by decide)) ?_
    clear hK K
    refine NoPanic.normal ?_
    rotate_left
    go_simp
    refine hK _ _ (fun hkn => (by repeat (first | (with_reducible exact push_new _ _ _ (by simp)) | (with_reducible apply blk_plus) | (with_reducible apply blk_alloc) | (with_reducible apply blk_drew)))) ?_
    clear hK K
    refine wpPt_one rfl rfl (fun K hK => ?_)
    go_simp
    refine (HS2.out _).mono ?_
    rintro e w' ⟨pa2, pc2, rfl, hown2, x6, rfl⟩
    clear hown2
    refine hK _ _ (fun hkn => (by repeat (first | (with_reducible exact push_new _ _ _ (by simp)) | (with_reducible apply blk_plus) | (with_reducible apply blk_alloc) | (with_reducible apply blk_drew)))) ?_
    clear hK K
    refine wpPt_val rfl rfl ?_
    apply Exists.intro
    refine ⟨fun w' hS => ?_, ?_⟩
    focus (have rS := cell_of hS; simp [go_sem, ↓IntWalk.iteOmega, rS, hz2, hey, HWR.out] <;> first | done | exact rfl | (rw [IntWalk.i64_in _ (by omega)]; exact rfl) | trace_state)
    refine wpPt_val rfl rfl ?_
    apply Exists.intro
    refine ⟨fun w' hS => ?_, ?_⟩
    focus (have rS := cell_of hS; simp [go_sem, ↓IntWalk.iteOmega, rS, hz2, hey, HWR.out] <;> first | done | exact rfl | (rw [IntWalk.i64_in _ (by omega)]; exact rfl) | trace_state)
    refine wpPt_val rfl rfl ?_
    apply Exists.intro
    refine ⟨fun w' hS => ?_, ?_⟩
    focus (have rS := cell_of hS; simp [go_sem, ↓IntWalk.iteOmega, rS, hz2, hey, HWR.out] <;> first | done | exact rfl | (rw [IntWalk.i64_in _ (by omega)]; exact rfl) | trace_state)
    refine wpPt_one rfl rfl (fun K hK => ?_)
    go_simp
    refine hK _ _ (fun hkn => (by repeat (first | (with_reducible exact push_new _ _ _ (by simp)) | (with_reducible apply blk_plus) | (with_reducible apply blk_alloc) | (with_reducible apply blk_drew)))) ?_
    clear hK K
    refine wpPt_one rfl rfl (fun K hK => ?_)
    go_simp
    refine hK _ _ (fun hkn => absurd hkn (by decide)) ?_
    clear hK K
    refine NoPanic.normal ?_
    all_goals
      go_wp2_with fail
      go_ret
      exact ⟨rfl, (by repeat (first | exact Below.refl _ _ | refine below_plus ?_ (by first | omega | (simp <;> omega)) _ | refine Below.alloc ?_ (by first | omega | (simp <;> omega)) _ | refine below_patch ?_ (by omega) _ | refine Below.drew ?_))⟩

end Go.Proofs.Ytlihhlihcjncoaa
