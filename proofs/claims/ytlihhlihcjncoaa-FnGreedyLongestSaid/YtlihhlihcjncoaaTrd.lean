/- The walks of TrimDict, of the program and of the reference. -/
import Derived.Test.YtlihhlihcjncoaaTmp
import Derived.Test.YtlihhlihcjncoaaSwi
namespace Go.Proofs.Ytlihhlihcjncoaa
open Go.RowKit
set_option linter.unusedVariables false
set_option linter.unusedSimpArgs false

theorem dfB_len {o l m : Int} {s : ByteArray} (h : dfB o l m s = true) : s.size ≤ 2000 := by
  unfold dfB at h
  simp only [Bool.and_eq_true, decide_eq_true_eq] at h
  omega

theorem implTrimDict_no (o l m : Int) (s : ByteArray) (w : World) (hs2 : s.size ≤ maxLen) (h : sv o l m = false ∨ dfB o l m s = false) :
    Calls Try.prog 30 #[.agg #[.int .i64 o, .int .i64 l, .int .i64 m], .string s] w (Ret w (.tuple #[.string ⟨#[]⟩, .bool false])) := by
  cases hs : sv o l m
  · clear h
    go_enter Try.func30, Try.ntmps30
    go_wp2_with (go_at_call 36; refine (implStart_no _ _ _ _ hs).mono ?_; rintro e w' ⟨rfl, xc, rfl⟩)
    go_ret2
    exact Ret.mk (by repeat (first | exact More.refl _ | apply More.plus | apply More.alloc | apply More.drew | apply More.drewN))
  · have hd : dfB o l m s = false := by
      rcases h with h | h
      · rw [hs] at h; cases h
      · exact h
    clear h
    go_enter Try.func30, Try.ntmps30
    go_wp2_with (first | (go_at_call 36; refine (implStart_yes _ _ _ _ hs).mono ?_; rintro e w' ⟨rfl, xc, rfl⟩) | (go_at_call 18; refine (DataFits_any _ _ _ _ _ hs2).mono ?_; rintro e w' ⟨rfl, xc, rfl⟩))
    go_ret2
    exact Ret.mk (by repeat (first | exact More.refl _ | apply More.plus | apply More.alloc | apply More.drew | apply More.drewN))

theorem implTrimDict_yes (o l m : Int) (s : ByteArray) (w : World) (hs2 : s.size ≤ maxLen) (hs : sv o l m = true) (hd : dfB o l m s = true) (N : Nat) (hN : ned l m s.size [] (-1) s.data.toList 0 0 = N) (hN2 : N ≤ s.size) :
    Calls Try.prog 30 #[.agg #[.int .i64 o, .int .i64 l, .int .i64 m], .string s] w (Ret w (.tuple #[.string (s.extract 0 N), .bool true])) := by
  have HV := Lib.hid (kv_start hs)
  obtain ⟨R, hR2⟩ : ∃ R, lrn l m s.size (([] : List Pr).take (0 : Int).toNat) (-1) s.data.toList = R := ⟨_, rfl⟩
  have HR := Lib.hid hR2
  have HN := Lib.hid (show ned l m s.size (([] : List Pr).take (0 : Int).toNat) (-1) s.data.toList 0 0 = N from hN)
  have hz := dfB_len hd
  clear hR2 hN
  go_enter Try.func30, Try.ntmps30
  go_wp2_with (first | (go_at_call 36; refine (implStart_yes _ _ _ _ hs).mono ?_; rintro e w' ⟨rfl, xc, rfl⟩) | (go_at_call 18; refine (DataFits_any _ _ _ _ _ hs2).mono ?_; rintro e w' ⟨rfl, xc, rfl⟩) | fail)
  refine (ilearn_any _ _ _ none 0 [] _ _ s _ (rd_none _) HV.out hd R HR.out N HN.out).mono ?_
  rintro e w' ⟨pa, pc, rfl, _, x2, rfl⟩
  go_wp2
  go_ret2
  exact Ret.mk (by repeat (first | exact More.refl _ | apply More.plus | apply More.alloc | apply More.drew | apply More.drewN))

theorem specTrimDict_no (o l m : Int) (s : ByteArray) (w : World) (hs2 : s.size ≤ maxLen) (h : sv o l m = false ∨ dfB o l m s = false) :
    Calls Try.prog 31 #[.agg #[.int .i64 o, .int .i64 l, .int .i64 m], .string s] w (Ret w (.tuple #[.string ⟨#[]⟩, .bool false])) := by
  have key : ∀ W : World, Calls Try.prog 35 #[.agg #[.int .i64 o, .int .i64 l, .int .i64 m], .string s] W (RetO W (fun a0 c0 => .tuple #[.agg #[.int .i64 0, .int .i64 0, .int .i64 0, .slice a0 ([] : List Pr).length c0, .int .i64 0, .int .i64 0], .bool false]) []) := fun W => by
    cases hs : sv o l m
    · exact specStartWith_nos o l m s W hs
    · have hd : dfB o l m s = false := by
        rcases h with h | h
        · rw [hs] at h; cases h
        · exact h
      exact specStartWith_of o l m s W hs _ _ _ _ _ _ _ fun W => specLearnKnown_no o l m none 0 [] 0 (-1) s W (rd_none W) hs2 (.inr hd)
  have HK := Lib.hid key
  clear key h
  go_enter Try.func31, Try.ntmps31
  go_wp2_with fail
  refine (HK.out _).mono ?_
  rintro e w' ⟨pa, pc, rfl, _, x2, rfl⟩
  go_wp2
  go_ret2
  exact Ret.mk (by repeat (first | exact More.refl _ | apply More.plus | apply More.alloc | apply More.drew | apply More.drewN))

set_option maxRecDepth 100000 in
set_option maxHeartbeats 4000000 in
theorem specTrimDict_yes (o l m : Int) (s : ByteArray) (w : World) (hs2 : s.size ≤ maxLen) (hs : sv o l m = true) (hd : dfB o l m s = true) (N : Nat) (hN : ned l m s.size [] (-1) s.data.toList 0 0 = N) (hN2 : N ≤ s.size) :
    Calls Try.prog 31 #[.agg #[.int .i64 o, .int .i64 l, .int .i64 m], .string s] w (Ret w (.tuple #[.string (s.extract 0 N), .bool true])) := by
  have hkv := kv_start hs
  have hz := dfB_len hd
  obtain ⟨A, hA⟩ : ∃ A, (lrn l m s.size [] (-1) s.data.toList).1 = A := ⟨_, rfl⟩
  have hAl := lrn_len hkv hd s.size
  rw [hA] at hAl
  have hTx : Tx o l m 0 [] (-1) s.data.toList := ⟨hkv, by rw [bstr_bytes]; exact hd⟩
  have hmain := fun n (hn : n ≤ s.size) => (trim_main s.size [] (-1) s.data.toList n 0 0 hTx (by rw [bytes_len]; omega) (by rw [bytes_len]; exact hn) (by omega)).2.1
  have key : ∀ n, n ≤ s.size → ∃ qs : List Pr, qs.length ≤ 2000 ∧ (A.length = qs.length ↔ N ≤ n) ∧ ∀ W : World, Calls Try.prog 35 #[.agg #[.int .i64 o, .int .i64 l, .int .i64 m], .string (s.extract 0 n)] W (RetO W (fun a0 c0 => .tuple #[.agg #[.int .i64 o, .int .i64 l, .int .i64 m, .slice a0 qs.length c0, .int .i64 qs.length, .int .i64 (-1)], .bool true]) qs) := fun n hn => by
    have hT2 := hTx.take n
    have hsz : (s.extract 0 n).size = n := by rw [ext_take, bstr_size, List.length_take, bytes_len]; omega
    have hby : (s.extract 0 n).data.toList = s.data.toList.take n := by rw [ext_take, bytes_bstr]
    have hd2 : dfB o l m (s.extract 0 n) = true := by rw [ext_take]; exact hT2.2
    have hf := lrn_fuel n s.size [] (-1) _ hT2 (by rw [List.length_take]; omega) (by rw [List.length_take, bytes_len]; omega)
    have hl := lrn_len hkv hd2 n
    rw [hby] at hl
    refine ⟨_, hl, ?_, fun W => specStartWith_of o l m _ W hs _ _ _ _ _ _ _ fun W => specLearnKnown_yes o l m none 0 [] 0 (-1) _ W (rd_none W) (by rw [hsz]; unfold maxLen; omega) (kvb_iff.2 hkv) hd2 _ (by rw [hsz, hby]; rfl)⟩
    have := hmain n hn
    rw [hA, hN, ← hf] at this
    rw [this]
    omega
  have hK0 : ∀ W : World, Calls Try.prog 35 #[.agg #[.int .i64 o, .int .i64 l, .int .i64 m], .string s] W (RetO W (fun a0 c0 => .tuple #[.agg #[.int .i64 o, .int .i64 l, .int .i64 m, .slice a0 A.length c0, .int .i64 A.length, .int .i64 (-1)], .bool true]) A) := fun W => specStartWith_of o l m _ W hs _ _ _ _ _ _ _ fun W => specLearnKnown_yes o l m none 0 [] 0 (-1) _ W (rd_none W) hs2 (kvb_iff.2 hkv) hd _ hA
  have HK := Lib.hid key
  have HK0 := Lib.hid hK0
  clear key hK0 hmain hTx hkv hN hA
  go_enter Try.func31, Try.ntmps31
  go_wp2_with fail
  refine (HK0.out _).mono ?_
  rintro e w' ⟨pa, pc, rfl, _, x2, rfl⟩
  go_wp2_with fail
  go_loopw [8, 9] (fun q1 q2 wr => ∃ (lo hi : Nat), q1 = .int .i64 lo ∧ q2 = .int .i64 hi ∧ lo ≤ N ∧ N ≤ hi ∧ hi ≤ s.size ∧ More ((plus (w.alloc (.cells #[.int .i64 o, .int .i64 l, .int .i64 m] 24)) x2).alloc (.cells #[.int .i64 o, .int .i64 l, .int .i64 m, .slice pa A.length pc, .int .i64 A.length, .int .i64 (-1)] 27)) wr) (fun q1 q2 _ => (intOf q2 - intOf q1).toNat)
  case atStart => exact ⟨0, s.size, rfl, rfl, by omega, hN2, by omega, More.refl _⟩
  case round =>
    obtain ⟨lo, hi, rfl, rfl, h1, h2, h3, x, rfl⟩ := hrel
    by_cases hlt : lo < hi
    · obtain ⟨qs, k1, k2, k3⟩ := HK.out ((lo + hi) / 2) (by omega)
      have hq : ((lo : Int) + hi).tdiv 2 = (((lo + hi) / 2 : Nat) : Int) := by
        rw [Int.tdiv_eq_ediv_of_nonneg (by omega)]; omega
      have v1 : decide (lo < hi) = true := decide_eq_true hlt
      obtain ⟨n, hn⟩ : ∃ n, (lo + hi) / 2 = n := ⟨_, rfl⟩
      rw [hn] at hq k2 k3
      have HK3 := Lib.hid k3
      clear k3
      have hn1 : lo ≤ n := by omega
      have hn2 : n < hi := by omega
      by_cases hNn : N ≤ n
      · have v2 : ((qs.length : Int) == (A.length : Int)) = true := by have := k2.2 hNn; rw [this]; simp
        clear k2 hn
        go_wp2_with fail
        refine wp_region_pt 10 (fun w' => ∃ y, w' = plus _ y) (Plan.quiet 0 (Plan.quiet 1 (Plan.quiet 2 (Plan.quiet 3 (Plan.two 4 (Plan.quiet 5 (Plan.quiet 6 (Plan.quiet 7 (Plan.one 8 (Plan.one 9 (Plan.one 10 Plan.done)))))) 8 (Plan.one 4 (Plan.quiet 5 (Plan.quiet 6 (Plan.quiet 7 (Plan.one 9 (Plan.one 10 Plan.done))))))))))) (by kernel_rfl) (by kernel_rfl) (⟨_, drew_is_plus _⟩) ?_
        refine wpPt_val rfl rfl ?_
        apply Exists.intro
        refine ⟨fun w' hS => ?_, ?_⟩
        focus (obtain ⟨y2, rfl⟩ := hS; simp [go_sem, ↓IntWalk.iteOmega] <;> first | done | exact rfl | (rw [IntWalk.i64_in _ (by omega)]; exact rfl) | trace_state)
        refine wpPt_val rfl rfl ?_
        apply Exists.intro
        refine ⟨fun w' hS => ?_, ?_⟩
        focus (obtain ⟨y2, rfl⟩ := hS; simp [go_sem, ↓IntWalk.iteOmega] <;> first | done | exact rfl | (rw [IntWalk.i64_in _ (by omega)]; exact rfl) | trace_state)
        refine wpPt_val rfl rfl ?_
        apply Exists.intro
        refine ⟨fun w' hS => ?_, ?_⟩
        focus (obtain ⟨y2, rfl⟩ := hS; simp [go_sem, ↓IntWalk.iteOmega] <;> first | done | exact rfl | (rw [IntWalk.i64_in _ (by omega)]; exact rfl) | trace_state)
        refine wpPt_val rfl rfl ?_
        apply Exists.intro
        refine ⟨fun w' hS => ?_, ?_⟩
        focus (obtain ⟨y2, rfl⟩ := hS; simp [go_sem, ↓IntWalk.iteOmega] <;> first | done | exact rfl | (rw [IntWalk.i64_in _ (by omega)]; exact rfl) | trace_state)
        refine wpPt_two rfl rfl rfl rfl (fun K hK => ?_) (fun K hK => ?_)
        go_simp
        refine (HK3.out _).mono ?_
        rintro e w' ⟨pb, pd, rfl, _, x3, rfl⟩
        refine hK _ _ (fun hkn => (by repeat (first | exact More.refl _ | (with_reducible apply more_seq) | (with_reducible apply more_draw) | apply More.plus | apply More.alloc | apply More.drew))) ?_
        clear hK K
        refine wpPt_val rfl rfl ?_
        apply Exists.intro
        refine ⟨fun w' hS => ?_, ?_⟩
        focus (obtain ⟨y2, rfl⟩ := hS; simp [go_sem, ↓IntWalk.iteOmega] <;> first | done | exact rfl | (rw [IntWalk.i64_in _ (by omega)]; exact rfl) | trace_state)
        refine wpPt_val rfl rfl ?_
        apply Exists.intro
        refine ⟨fun w' hS => ?_, ?_⟩
        focus (obtain ⟨y2, rfl⟩ := hS; simp [go_sem, ↓IntWalk.iteOmega] <;> first | done | exact rfl | (rw [IntWalk.i64_in _ (by omega)]; exact rfl) | trace_state)
        refine wpPt_val rfl rfl ?_
        apply Exists.intro
        refine ⟨fun w' hS => ?_, ?_⟩
        focus (obtain ⟨y2, rfl⟩ := hS; simp [go_sem, ↓IntWalk.iteOmega] <;> first | done | exact rfl | (rw [IntWalk.i64_in _ (by omega)]; exact rfl) | trace_state)
        refine wpPt_one rfl rfl (fun K hK => ?_)
        go_simp
        refine hK _ _ (fun hkn => (by repeat (first | exact More.refl _ | (with_reducible apply more_seq) | (with_reducible apply more_draw) | apply More.plus | apply More.alloc | apply More.drew))) ?_
        clear hK K
        refine wpPt_one rfl rfl (fun K hK => ?_)
        go_simp
        refine hK _ _ (fun hkn => (by repeat (first | exact More.refl _ | (with_reducible apply more_seq) | (with_reducible apply more_draw) | apply More.plus | apply More.alloc | apply More.drew))) ?_
        clear hK K
        refine wpPt_one rfl rfl (fun K hK => ?_)
        go_simp
        refine hK _ _ (fun hkn => absurd hkn (by decide)) ?_
        clear hK K
        refine NoPanic.normal ?_
        rotate_left
        go_simp
        refine hK _ _ (fun hkn => (by repeat (first | exact More.refl _ | (with_reducible apply more_seq) | (with_reducible apply more_draw) | apply More.plus | apply More.alloc | apply More.drew))) ?_
        clear hK K
        refine wpPt_one rfl rfl (fun K hK => ?_)
        go_simp
        refine (HK3.out _).mono ?_
        rintro e w' ⟨pb, pd, rfl, _, x3, rfl⟩
        refine hK _ _ (fun hkn => (by repeat (first | exact More.refl _ | (with_reducible apply more_seq) | (with_reducible apply more_draw) | apply More.plus | apply More.alloc | apply More.drew))) ?_
        clear hK K
        refine wpPt_val rfl rfl ?_
        apply Exists.intro
        refine ⟨fun w' hS => ?_, ?_⟩
        focus (obtain ⟨y2, rfl⟩ := hS; simp [go_sem, ↓IntWalk.iteOmega] <;> first | done | exact rfl | (rw [IntWalk.i64_in _ (by omega)]; exact rfl) | trace_state)
        refine wpPt_val rfl rfl ?_
        apply Exists.intro
        refine ⟨fun w' hS => ?_, ?_⟩
        focus (obtain ⟨y2, rfl⟩ := hS; simp [go_sem, ↓IntWalk.iteOmega] <;> first | done | exact rfl | (rw [IntWalk.i64_in _ (by omega)]; exact rfl) | trace_state)
        refine wpPt_val rfl rfl ?_
        apply Exists.intro
        refine ⟨fun w' hS => ?_, ?_⟩
        focus (obtain ⟨y2, rfl⟩ := hS; simp [go_sem, ↓IntWalk.iteOmega] <;> first | done | exact rfl | (rw [IntWalk.i64_in _ (by omega)]; exact rfl) | trace_state)
        refine wpPt_one rfl rfl (fun K hK => ?_)
        go_simp
        refine hK _ _ (fun hkn => (by repeat (first | exact More.refl _ | (with_reducible apply more_seq) | (with_reducible apply more_draw) | apply More.plus | apply More.alloc | apply More.drew))) ?_
        clear hK K
        refine wpPt_one rfl rfl (fun K hK => ?_)
        go_simp
        refine hK _ _ (fun hkn => absurd hkn (by decide)) ?_
        clear hK K
        refine NoPanic.normal ?_
        all_goals
          go_wp2_with fail
          go_roundw
          case rel => exact ⟨lo, n, rfl, rfl, h1, hNn, by omega, (by repeat (first | exact More.refl _ | apply More.plus | apply More.alloc | apply More.drew | apply More.drewN))⟩
          case measure => simp [intOf]; omega
      · have v2 : ((qs.length : Int) == (A.length : Int)) = false := by
          simp; intro e; exact hNn (k2.1 (by omega))
        clear k2 hn
        go_wp2_with fail
        refine wp_region_pt 10 (fun w' => ∃ y, w' = plus _ y) (Plan.quiet 0 (Plan.quiet 1 (Plan.quiet 2 (Plan.quiet 3 (Plan.two 4 (Plan.quiet 5 (Plan.quiet 6 (Plan.quiet 7 (Plan.one 8 (Plan.one 9 (Plan.one 10 Plan.done)))))) 8 (Plan.one 4 (Plan.quiet 5 (Plan.quiet 6 (Plan.quiet 7 (Plan.one 9 (Plan.one 10 Plan.done))))))))))) (by kernel_rfl) (by kernel_rfl) (⟨_, drew_is_plus _⟩) ?_
        refine wpPt_val rfl rfl ?_
        apply Exists.intro
        refine ⟨fun w' hS => ?_, ?_⟩
        focus (obtain ⟨y2, rfl⟩ := hS; simp [go_sem, ↓IntWalk.iteOmega] <;> first | done | exact rfl | (rw [IntWalk.i64_in _ (by omega)]; exact rfl) | trace_state)
        refine wpPt_val rfl rfl ?_
        apply Exists.intro
        refine ⟨fun w' hS => ?_, ?_⟩
        focus (obtain ⟨y2, rfl⟩ := hS; simp [go_sem, ↓IntWalk.iteOmega] <;> first | done | exact rfl | (rw [IntWalk.i64_in _ (by omega)]; exact rfl) | trace_state)
        refine wpPt_val rfl rfl ?_
        apply Exists.intro
        refine ⟨fun w' hS => ?_, ?_⟩
        focus (obtain ⟨y2, rfl⟩ := hS; simp [go_sem, ↓IntWalk.iteOmega] <;> first | done | exact rfl | (rw [IntWalk.i64_in _ (by omega)]; exact rfl) | trace_state)
        refine wpPt_val rfl rfl ?_
        apply Exists.intro
        refine ⟨fun w' hS => ?_, ?_⟩
        focus (obtain ⟨y2, rfl⟩ := hS; simp [go_sem, ↓IntWalk.iteOmega] <;> first | done | exact rfl | (rw [IntWalk.i64_in _ (by omega)]; exact rfl) | trace_state)
        refine wpPt_two rfl rfl rfl rfl (fun K hK => ?_) (fun K hK => ?_)
        go_simp
        refine (HK3.out _).mono ?_
        rintro e w' ⟨pb, pd, rfl, _, x3, rfl⟩
        refine hK _ _ (fun hkn => (by repeat (first | exact More.refl _ | (with_reducible apply more_seq) | (with_reducible apply more_draw) | apply More.plus | apply More.alloc | apply More.drew))) ?_
        clear hK K
        refine wpPt_val rfl rfl ?_
        apply Exists.intro
        refine ⟨fun w' hS => ?_, ?_⟩
        focus (obtain ⟨y2, rfl⟩ := hS; simp [go_sem, ↓IntWalk.iteOmega] <;> first | done | exact rfl | (rw [IntWalk.i64_in _ (by omega)]; exact rfl) | trace_state)
        refine wpPt_val rfl rfl ?_
        apply Exists.intro
        refine ⟨fun w' hS => ?_, ?_⟩
        focus (obtain ⟨y2, rfl⟩ := hS; simp [go_sem, ↓IntWalk.iteOmega] <;> first | done | exact rfl | (rw [IntWalk.i64_in _ (by omega)]; exact rfl) | trace_state)
        refine wpPt_val rfl rfl ?_
        apply Exists.intro
        refine ⟨fun w' hS => ?_, ?_⟩
        focus (obtain ⟨y2, rfl⟩ := hS; simp [go_sem, ↓IntWalk.iteOmega] <;> first | done | exact rfl | (rw [IntWalk.i64_in _ (by omega)]; exact rfl) | trace_state)
        refine wpPt_one rfl rfl (fun K hK => ?_)
        go_simp
        refine hK _ _ (fun hkn => (by repeat (first | exact More.refl _ | (with_reducible apply more_seq) | (with_reducible apply more_draw) | apply More.plus | apply More.alloc | apply More.drew))) ?_
        clear hK K
        refine wpPt_one rfl rfl (fun K hK => ?_)
        go_simp
        refine hK _ _ (fun hkn => (by repeat (first | exact More.refl _ | (with_reducible apply more_seq) | (with_reducible apply more_draw) | apply More.plus | apply More.alloc | apply More.drew))) ?_
        clear hK K
        refine wpPt_one rfl rfl (fun K hK => ?_)
        go_simp
        refine hK _ _ (fun hkn => absurd hkn (by decide)) ?_
        clear hK K
        refine NoPanic.normal ?_
        rotate_left
        go_simp
        refine hK _ _ (fun hkn => (by repeat (first | exact More.refl _ | (with_reducible apply more_seq) | (with_reducible apply more_draw) | apply More.plus | apply More.alloc | apply More.drew))) ?_
        clear hK K
        refine wpPt_one rfl rfl (fun K hK => ?_)
        go_simp
        refine (HK3.out _).mono ?_
        rintro e w' ⟨pb, pd, rfl, _, x3, rfl⟩
        refine hK _ _ (fun hkn => (by repeat (first | exact More.refl _ | (with_reducible apply more_seq) | (with_reducible apply more_draw) | apply More.plus | apply More.alloc | apply More.drew))) ?_
        clear hK K
        refine wpPt_val rfl rfl ?_
        apply Exists.intro
        refine ⟨fun w' hS => ?_, ?_⟩
        focus (obtain ⟨y2, rfl⟩ := hS; simp [go_sem, ↓IntWalk.iteOmega] <;> first | done | exact rfl | (rw [IntWalk.i64_in _ (by omega)]; exact rfl) | trace_state)
        refine wpPt_val rfl rfl ?_
        apply Exists.intro
        refine ⟨fun w' hS => ?_, ?_⟩
        focus (obtain ⟨y2, rfl⟩ := hS; simp [go_sem, ↓IntWalk.iteOmega] <;> first | done | exact rfl | (rw [IntWalk.i64_in _ (by omega)]; exact rfl) | trace_state)
        refine wpPt_val rfl rfl ?_
        apply Exists.intro
        refine ⟨fun w' hS => ?_, ?_⟩
        focus (obtain ⟨y2, rfl⟩ := hS; simp [go_sem, ↓IntWalk.iteOmega] <;> first | done | exact rfl | (rw [IntWalk.i64_in _ (by omega)]; exact rfl) | trace_state)
        refine wpPt_one rfl rfl (fun K hK => ?_)
        go_simp
        refine hK _ _ (fun hkn => (by repeat (first | exact More.refl _ | (with_reducible apply more_seq) | (with_reducible apply more_draw) | apply More.plus | apply More.alloc | apply More.drew))) ?_
        clear hK K
        refine wpPt_one rfl rfl (fun K hK => ?_)
        go_simp
        refine hK _ _ (fun hkn => absurd hkn (by decide)) ?_
        clear hK K
        refine NoPanic.normal ?_
        all_goals
          go_wp2_with fail
          go_roundw
          case rel => exact ⟨n + 1, hi, by go_num, rfl, by omega, h2, by omega, (by repeat (first | exact More.refl _ | apply More.plus | apply More.alloc | apply More.drew | apply More.drewN))⟩
          case measure => simp [intOf]; omega
    · obtain rfl : lo = N := by omega
      have v1 : decide (lo < hi) = false := decide_eq_false hlt
      clear hlt
      go_wp2
      go_ret2
      exact Ret.mk (by repeat (first | exact More.refl _ | apply More.plus | apply More.alloc | apply More.drew | apply More.drewN))

end Go.Proofs.Ytlihhlihcjncoaa
