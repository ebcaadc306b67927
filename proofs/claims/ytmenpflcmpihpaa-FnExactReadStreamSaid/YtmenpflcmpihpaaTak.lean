/- The walk of spec.l3Take: one code read. -/
import Derived.Test.YtmenpflcmpihpaaUnd
namespace Go.Proofs.Ytmenpflcmpihpaa
open Go.RowKit
set_option linter.unusedVariables false
set_option linter.unusedSimpArgs false

/-- what l3Take leaves -/
def RetTk (w : World) (a : Option Addr) (cap : Nat) (ps : List Pr) (o l m base : Int) (qs : List Pr) (la : Int) (sb : ByteArray) (z c e : Int) (word : ByteArray) (E : Ending) (w' : World) : Prop :=
  ∃ A' c', E = .returned (.tuple #[.agg #[.int .i64 o, .int .i64 l, .int .i64 m, .slice A' qs.length c', .int .i64 base, .int .i64 la, .string sb, .int .i64 z, .int .i64 c, .int .i64 e], .string word]) ∧
    ((A' = a ∧ c' = cap ∧ qs = ps) ∨ Own encP 127 w' A' c' qs w.heap.size) ∧ ∃ x, w' = plus w x

set_option maxRecDepth 100000 in
set_option maxHeartbeats 4000000 in
theorem l3Take_end
    (o l m : Int) (a : Option Addr) (cap : Nat) (ps : List Pr) (b : Nat) (last : Int) (s : ByteArray) (sz ct : Nat) (w : World) (hr : RdP w a cap ps) (hkv : KV o l m ps (b : Int) last) (hbv : BV s.data.toList) (hss : s.size ≤ 100000) (n : Nat) (hn : wd l m ps.length last = n) (hns : n ≤ s.size) (hsz : sz ≤ 2000) (hct : ct < 3100) (c : Int) (hc : numL o (s.data.toList.take n) = c)
    (he : c = two l + 1) :
    Calls Try.prog 144 #[.agg #[.int .i64 o, .int .i64 l, .int .i64 m, .slice a ps.length cap, .int .i64 b, .int .i64 last, .string s, .int .i64 sz, .int .i64 ct, .int .i64 1]] w
      (RetTk w a cap ps o l m b (ps) (last) (s.extract n s.size) (sz) ((ct : Int) + 1) (0) ⟨#[]⟩) := by
  obtain ⟨ho, l1, l2, m1, m2⟩ := sv_iff.1 hkv.s
  have hs := hkv.s
  have l0 : 0 ≤ l := by omega
  have l10 : l ≤ 10 := by omega
  have hlim := hkv.lim
  obtain ⟨_, _, _, _, t1, t2, t3, t4⟩ := hlim.bds
  have hlen := kv_len (kvb_iff.2 hkv)
  have hlast := hlim.last
  have hb1 := hkv.b1
  have hbm : min b ps.length = b := Nat.min_eq_left (by omega)
  obtain ⟨wd1, wd2⟩ := wd_ten hlim
  rw [hn] at wd1 wd2
  have HN := Lib.hid hn
  have HLM := Lib.hid hlim
  have HK := Lib.hid hkv
  have HRP := Lib.hid hr
  obtain ⟨t, ht⟩ : ∃ t, s.extract 0 n = t := ⟨_, rfl⟩
  have htb : t.data.toList = s.data.toList.take n := by rw [← ht]; simp
  have hts : t.size = n := by rw [← bytes_len, htb, List.length_take, bytes_len]; omega
  have HTS := Lib.hid hts
  have HTV := Lib.hid (show BV t.data.toList by intro x hx; rw [htb] at hx; exact hbv x (List.mem_of_mem_take hx))
  have HTC := Lib.hid (show numL o t.data.toList = c by rw [htb]; exact hc)
  obtain ⟨q, hq⟩ : ∃ q, s.extract n s.size = q := ⟨_, rfl⟩
  rw [hq]
  clear hr hkv hbv hn hlim hc htb hts
  go_enter Try.func144, Try.ntmps144
  go_wp2_with (go_at_call 77; refine (l2Width_any _ _ _ _ _ _ _ _ _ HLM.out (by omega)).mono ?_; rintro e w' ⟨rfl, xc, rfl⟩; rw [HN.out])
  refine wp_region_pt 9 (fun w' => ∃ y, w' = plus _ y) (Plan.quiet 0 (Plan.quiet 1 (Plan.quiet 2 (Plan.quiet 3 (Plan.quiet 4 (Plan.quiet 5 (Plan.quiet 6 (Plan.quiet 7 (Plan.one 8 (Plan.one 9 Plan.done)))))))))) (by kernel_rfl) (by kernel_rfl) (⟨_, drew_is_plus _⟩) ?_
  refine wpPt_val rfl rfl ?_
  apply Exists.intro
  refine ⟨fun w' hS => ?_, ?_⟩
  focus (obtain ⟨y3, rfl⟩ := hS; simp [go_sem, ↓IntWalk.iteOmega, ht] <;> first | done | exact rfl | (rw [IntWalk.i64_in _ (by omega)]; exact rfl) | trace_state)
  refine wpPt_val rfl rfl ?_
  apply Exists.intro
  refine ⟨fun w' hS => ?_, ?_⟩
  focus (obtain ⟨y3, rfl⟩ := hS; simp [go_sem, ↓IntWalk.iteOmega, ht] <;> first | done | exact rfl | (rw [IntWalk.i64_in _ (by omega)]; exact rfl) | trace_state)
  refine wpPt_val rfl rfl ?_
  apply Exists.intro
  refine ⟨fun w' hS => ?_, ?_⟩
  focus (obtain ⟨y3, rfl⟩ := hS; simp [go_sem, ↓IntWalk.iteOmega, ht] <;> first | done | exact rfl | (rw [IntWalk.i64_in _ (by omega)]; exact rfl) | trace_state)
  refine wpPt_val rfl rfl ?_
  apply Exists.intro
  refine ⟨fun w' hS => ?_, ?_⟩
  focus (obtain ⟨y3, rfl⟩ := hS; simp [go_sem, ↓IntWalk.iteOmega, ht] <;> first | done | exact rfl | (rw [IntWalk.i64_in _ (by omega)]; exact rfl) | trace_state)
  refine wpPt_val rfl rfl ?_
  apply Exists.intro
  refine ⟨fun w' hS => ?_, ?_⟩
  focus (obtain ⟨y3, rfl⟩ := hS; simp [go_sem, ↓IntWalk.iteOmega, ht] <;> first | done | exact rfl | (rw [IntWalk.i64_in _ (by omega)]; exact rfl) | trace_state)
  refine wpPt_val rfl rfl ?_
  apply Exists.intro
  refine ⟨fun w' hS => ?_, ?_⟩
  focus (obtain ⟨y3, rfl⟩ := hS; simp [go_sem, ↓IntWalk.iteOmega, ht] <;> first | done | exact rfl | (rw [IntWalk.i64_in _ (by omega)]; exact rfl) | trace_state)
  refine wpPt_val rfl rfl ?_
  apply Exists.intro
  refine ⟨fun w' hS => ?_, ?_⟩
  focus (obtain ⟨y3, rfl⟩ := hS; simp [go_sem, ↓IntWalk.iteOmega, ht] <;> first | done | exact rfl | (rw [IntWalk.i64_in _ (by omega)]; exact rfl) | trace_state)
  refine wpPt_val rfl rfl ?_
  apply Exists.intro
  refine ⟨fun w' hS => ?_, ?_⟩
  focus (obtain ⟨y3, rfl⟩ := hS; simp [go_sem, ↓IntWalk.iteOmega, ht] <;> first | done | exact rfl | (rw [IntWalk.i64_in _ (by omega)]; exact rfl) | trace_state)
  refine wpPt_one rfl rfl (fun K hK => ?_)
  go_simp
  refine (l1Number_any o t _ ho (by have := HTS.out; omega) HTV.out).mono ?_
  rintro e w' ⟨rfl, x9, rfl⟩
  rw [HTC.out]
  refine hK _ _ (fun hkn => (by repeat (first | exact More.refl _ | (with_reducible apply more_seq) | (with_reducible apply more_draw) | apply More.plus | apply More.alloc | apply More.drew))) ?_
  clear hK K
  refine wpPt_one rfl rfl (fun K hK => ?_)
  go_simp
  refine hK _ _ (fun hkn => absurd hkn (by decide)) ?_
  clear hK K
  refine NoPanic.normal ?_
  subst he
  go_wp2_with (go_at_call 68; refine (l1End_any _ _ _ l0 l10 _).mono ?_; rintro e w' ⟨rfl, xc, rfl⟩)
  all_goals
    refine bodyPost_ret (v := .tuple #[.agg #[.int .i64 o, .int .i64 l, .int .i64 m, .slice a (ps).length cap, .int .i64 b, .int .i64 (last), .string q, .int .i64 (sz), .int .i64 ((ct : Int) + 1), .int .i64 (0)], .string ⟨#[]⟩]) (by simp [results, Try.results144, go_sem, ↓IntWalk.iteOmega, hbm] <;> omega) rfl ?_
    exact ⟨a, cap, rfl, .inl ⟨rfl, rfl, rfl⟩, (by repeat (first | exact More.refl _ | apply More.plus | apply More.alloc | apply More.drew | apply More.drewN))⟩

set_option maxRecDepth 100000 in
set_option maxHeartbeats 4000000 in
theorem l3Take_clear
    (o l m : Int) (a : Option Addr) (cap : Nat) (ps : List Pr) (b : Nat) (last : Int) (s : ByteArray) (sz ct : Nat) (w : World) (hr : RdP w a cap ps) (hkv : KV o l m ps (b : Int) last) (hbv : BV s.data.toList) (hss : s.size ≤ 100000) (n : Nat) (hn : wd l m ps.length last = n) (hns : n ≤ s.size) (hsz : sz ≤ 2000) (hct : ct < 3100) (c : Int) (hc : numL o (s.data.toList.take n) = c)
    (he : c = two l) (hf : ct + 1 ≠ 3100) :
    Calls Try.prog 144 #[.agg #[.int .i64 o, .int .i64 l, .int .i64 m, .slice a ps.length cap, .int .i64 b, .int .i64 last, .string s, .int .i64 sz, .int .i64 ct, .int .i64 1]] w
      (RetTk w a cap ps o l m b (ps.take b) (-1) (s.extract n s.size) (sz) ((ct : Int) + 1) (1) ⟨#[]⟩) := by
  have v9 : ((ct : Int) + 1 == 3100) = false := by simp; omega
  clear hf
  obtain ⟨ho, l1, l2, m1, m2⟩ := sv_iff.1 hkv.s
  have hs := hkv.s
  have l0 : 0 ≤ l := by omega
  have l10 : l ≤ 10 := by omega
  have hlim := hkv.lim
  obtain ⟨_, _, _, _, t1, t2, t3, t4⟩ := hlim.bds
  have hlen := kv_len (kvb_iff.2 hkv)
  have hlast := hlim.last
  have hb1 := hkv.b1
  have hbm : min b ps.length = b := Nat.min_eq_left (by omega)
  obtain ⟨wd1, wd2⟩ := wd_ten hlim
  rw [hn] at wd1 wd2
  have HN := Lib.hid hn
  have HLM := Lib.hid hlim
  have HK := Lib.hid hkv
  have HRP := Lib.hid hr
  obtain ⟨t, ht⟩ : ∃ t, s.extract 0 n = t := ⟨_, rfl⟩
  have htb : t.data.toList = s.data.toList.take n := by rw [← ht]; simp
  have hts : t.size = n := by rw [← bytes_len, htb, List.length_take, bytes_len]; omega
  have HTS := Lib.hid hts
  have HTV := Lib.hid (show BV t.data.toList by intro x hx; rw [htb] at hx; exact hbv x (List.mem_of_mem_take hx))
  have HTC := Lib.hid (show numL o t.data.toList = c by rw [htb]; exact hc)
  obtain ⟨q, hq⟩ : ∃ q, s.extract n s.size = q := ⟨_, rfl⟩
  rw [hq]
  clear hr hkv hbv hn hlim hc htb hts
  go_enter Try.func144, Try.ntmps144
  go_wp2_with (go_at_call 77; refine (l2Width_any _ _ _ _ _ _ _ _ _ HLM.out (by omega)).mono ?_; rintro e w' ⟨rfl, xc, rfl⟩; rw [HN.out])
  refine wp_region_pt 9 (fun w' => ∃ y, w' = plus _ y) (Plan.quiet 0 (Plan.quiet 1 (Plan.quiet 2 (Plan.quiet 3 (Plan.quiet 4 (Plan.quiet 5 (Plan.quiet 6 (Plan.quiet 7 (Plan.one 8 (Plan.one 9 Plan.done)))))))))) (by kernel_rfl) (by kernel_rfl) (⟨_, drew_is_plus _⟩) ?_
  refine wpPt_val rfl rfl ?_
  apply Exists.intro
  refine ⟨fun w' hS => ?_, ?_⟩
  focus (obtain ⟨y3, rfl⟩ := hS; simp [go_sem, ↓IntWalk.iteOmega, ht] <;> first | done | exact rfl | (rw [IntWalk.i64_in _ (by omega)]; exact rfl) | trace_state)
  refine wpPt_val rfl rfl ?_
  apply Exists.intro
  refine ⟨fun w' hS => ?_, ?_⟩
  focus (obtain ⟨y3, rfl⟩ := hS; simp [go_sem, ↓IntWalk.iteOmega, ht] <;> first | done | exact rfl | (rw [IntWalk.i64_in _ (by omega)]; exact rfl) | trace_state)
  refine wpPt_val rfl rfl ?_
  apply Exists.intro
  refine ⟨fun w' hS => ?_, ?_⟩
  focus (obtain ⟨y3, rfl⟩ := hS; simp [go_sem, ↓IntWalk.iteOmega, ht] <;> first | done | exact rfl | (rw [IntWalk.i64_in _ (by omega)]; exact rfl) | trace_state)
  refine wpPt_val rfl rfl ?_
  apply Exists.intro
  refine ⟨fun w' hS => ?_, ?_⟩
  focus (obtain ⟨y3, rfl⟩ := hS; simp [go_sem, ↓IntWalk.iteOmega, ht] <;> first | done | exact rfl | (rw [IntWalk.i64_in _ (by omega)]; exact rfl) | trace_state)
  refine wpPt_val rfl rfl ?_
  apply Exists.intro
  refine ⟨fun w' hS => ?_, ?_⟩
  focus (obtain ⟨y3, rfl⟩ := hS; simp [go_sem, ↓IntWalk.iteOmega, ht] <;> first | done | exact rfl | (rw [IntWalk.i64_in _ (by omega)]; exact rfl) | trace_state)
  refine wpPt_val rfl rfl ?_
  apply Exists.intro
  refine ⟨fun w' hS => ?_, ?_⟩
  focus (obtain ⟨y3, rfl⟩ := hS; simp [go_sem, ↓IntWalk.iteOmega, ht] <;> first | done | exact rfl | (rw [IntWalk.i64_in _ (by omega)]; exact rfl) | trace_state)
  refine wpPt_val rfl rfl ?_
  apply Exists.intro
  refine ⟨fun w' hS => ?_, ?_⟩
  focus (obtain ⟨y3, rfl⟩ := hS; simp [go_sem, ↓IntWalk.iteOmega, ht] <;> first | done | exact rfl | (rw [IntWalk.i64_in _ (by omega)]; exact rfl) | trace_state)
  refine wpPt_val rfl rfl ?_
  apply Exists.intro
  refine ⟨fun w' hS => ?_, ?_⟩
  focus (obtain ⟨y3, rfl⟩ := hS; simp [go_sem, ↓IntWalk.iteOmega, ht] <;> first | done | exact rfl | (rw [IntWalk.i64_in _ (by omega)]; exact rfl) | trace_state)
  refine wpPt_one rfl rfl (fun K hK => ?_)
  go_simp
  refine (l1Number_any o t _ ho (by have := HTS.out; omega) HTV.out).mono ?_
  rintro e w' ⟨rfl, x9, rfl⟩
  rw [HTC.out]
  refine hK _ _ (fun hkn => (by repeat (first | exact More.refl _ | (with_reducible apply more_seq) | (with_reducible apply more_draw) | apply More.plus | apply More.alloc | apply More.drew))) ?_
  clear hK K
  refine wpPt_one rfl rfl (fun K hK => ?_)
  go_simp
  refine hK _ _ (fun hkn => absurd hkn (by decide)) ?_
  clear hK K
  refine NoPanic.normal ?_
  subst he
  go_wp2_with (first | (go_at_call 68; refine (l1End_any _ _ _ l0 l10 _).mono ?_; rintro e w' ⟨rfl, xc, rfl⟩) | (go_at_call 79; refine (l1Clear_any _ _ _ l0 l10 _).mono ?_; rintro e w' ⟨rfl, xc, rfl⟩) | (go_at_call 110; refine (l2Cleared_any o l m a cap ps b last _ (by repeat (first | exact HRP.out | apply rd_seq | apply Rd.plus | apply Rd.alloc | apply Rd.drew | apply Rd.drewN | refine rd_patch ?_ _ _ (by intro A hA; first | (cases hA; show _ ≠ _; omega) | (have := hal A hA; omega)))) (by omega) hlen).mono ?_; rintro e w' ⟨A8, c8, rfl, hown8, x8, rfl⟩; (try simp only [plus_plus] at hown8); have HO8 := Lib.hid hown8; clear hown8))
  refine bodyPost_ret (v := .tuple #[.agg #[.int .i64 o, .int .i64 l, .int .i64 m, .slice A8 (ps.take b).length c8, .int .i64 b, .int .i64 (-1), .string q, .int .i64 (sz), .int .i64 ((ct : Int) + 1), .int .i64 (1)], .string ⟨#[]⟩]) (by simp [results, Try.results144, go_sem, ↓IntWalk.iteOmega, hbm] <;> omega) rfl ?_
  exact ⟨A8, c8, rfl, .inr (by repeat (first | exact (own_swap HO8.out (by simp) (by simp <;> omega)).lower (by simp <;> omega) | (with_reducible apply own_seq) | (with_reducible apply own_draw) | (with_reducible apply Own.plus) | (with_reducible apply Own.alloc) | (with_reducible apply Own.drew))), (by repeat (first | exact More.refl _ | apply More.plus | apply More.alloc | apply More.drew | apply More.drewN))⟩

set_option maxRecDepth 100000 in
set_option maxHeartbeats 4000000 in
theorem l3Take_clearf
    (o l m : Int) (a : Option Addr) (cap : Nat) (ps : List Pr) (b : Nat) (last : Int) (s : ByteArray) (sz ct : Nat) (w : World) (hr : RdP w a cap ps) (hkv : KV o l m ps (b : Int) last) (hbv : BV s.data.toList) (hss : s.size ≤ 100000) (n : Nat) (hn : wd l m ps.length last = n) (hns : n ≤ s.size) (hsz : sz ≤ 2000) (hct : ct < 3100) (c : Int) (hc : numL o (s.data.toList.take n) = c)
    (he : c = two l) (hf : ct + 1 = 3100) :
    Calls Try.prog 144 #[.agg #[.int .i64 o, .int .i64 l, .int .i64 m, .slice a ps.length cap, .int .i64 b, .int .i64 last, .string s, .int .i64 sz, .int .i64 ct, .int .i64 1]] w
      (RetTk w a cap ps o l m b (ps.take b) (-1) (s.extract n s.size) (sz) ((ct : Int) + 1) (3) ⟨#[]⟩) := by
  have v9 : ((ct : Int) + 1 == 3100) = true := by simp; omega
  clear hf
  obtain ⟨ho, l1, l2, m1, m2⟩ := sv_iff.1 hkv.s
  have hs := hkv.s
  have l0 : 0 ≤ l := by omega
  have l10 : l ≤ 10 := by omega
  have hlim := hkv.lim
  obtain ⟨_, _, _, _, t1, t2, t3, t4⟩ := hlim.bds
  have hlen := kv_len (kvb_iff.2 hkv)
  have hlast := hlim.last
  have hb1 := hkv.b1
  have hbm : min b ps.length = b := Nat.min_eq_left (by omega)
  obtain ⟨wd1, wd2⟩ := wd_ten hlim
  rw [hn] at wd1 wd2
  have HN := Lib.hid hn
  have HLM := Lib.hid hlim
  have HK := Lib.hid hkv
  have HRP := Lib.hid hr
  obtain ⟨t, ht⟩ : ∃ t, s.extract 0 n = t := ⟨_, rfl⟩
  have htb : t.data.toList = s.data.toList.take n := by rw [← ht]; simp
  have hts : t.size = n := by rw [← bytes_len, htb, List.length_take, bytes_len]; omega
  have HTS := Lib.hid hts
  have HTV := Lib.hid (show BV t.data.toList by intro x hx; rw [htb] at hx; exact hbv x (List.mem_of_mem_take hx))
  have HTC := Lib.hid (show numL o t.data.toList = c by rw [htb]; exact hc)
  obtain ⟨q, hq⟩ : ∃ q, s.extract n s.size = q := ⟨_, rfl⟩
  rw [hq]
  clear hr hkv hbv hn hlim hc htb hts
  go_enter Try.func144, Try.ntmps144
  go_wp2_with (go_at_call 77; refine (l2Width_any _ _ _ _ _ _ _ _ _ HLM.out (by omega)).mono ?_; rintro e w' ⟨rfl, xc, rfl⟩; rw [HN.out])
  refine wp_region_pt 9 (fun w' => ∃ y, w' = plus _ y) (Plan.quiet 0 (Plan.quiet 1 (Plan.quiet 2 (Plan.quiet 3 (Plan.quiet 4 (Plan.quiet 5 (Plan.quiet 6 (Plan.quiet 7 (Plan.one 8 (Plan.one 9 Plan.done)))))))))) (by kernel_rfl) (by kernel_rfl) (⟨_, drew_is_plus _⟩) ?_
  refine wpPt_val rfl rfl ?_
  apply Exists.intro
  refine ⟨fun w' hS => ?_, ?_⟩
  focus (obtain ⟨y3, rfl⟩ := hS; simp [go_sem, ↓IntWalk.iteOmega, ht] <;> first | done | exact rfl | (rw [IntWalk.i64_in _ (by omega)]; exact rfl) | trace_state)
  refine wpPt_val rfl rfl ?_
  apply Exists.intro
  refine ⟨fun w' hS => ?_, ?_⟩
  focus (obtain ⟨y3, rfl⟩ := hS; simp [go_sem, ↓IntWalk.iteOmega, ht] <;> first | done | exact rfl | (rw [IntWalk.i64_in _ (by omega)]; exact rfl) | trace_state)
  refine wpPt_val rfl rfl ?_
  apply Exists.intro
  refine ⟨fun w' hS => ?_, ?_⟩
  focus (obtain ⟨y3, rfl⟩ := hS; simp [go_sem, ↓IntWalk.iteOmega, ht] <;> first | done | exact rfl | (rw [IntWalk.i64_in _ (by omega)]; exact rfl) | trace_state)
  refine wpPt_val rfl rfl ?_
  apply Exists.intro
  refine ⟨fun w' hS => ?_, ?_⟩
  focus (obtain ⟨y3, rfl⟩ := hS; simp [go_sem, ↓IntWalk.iteOmega, ht] <;> first | done | exact rfl | (rw [IntWalk.i64_in _ (by omega)]; exact rfl) | trace_state)
  refine wpPt_val rfl rfl ?_
  apply Exists.intro
  refine ⟨fun w' hS => ?_, ?_⟩
  focus (obtain ⟨y3, rfl⟩ := hS; simp [go_sem, ↓IntWalk.iteOmega, ht] <;> first | done | exact rfl | (rw [IntWalk.i64_in _ (by omega)]; exact rfl) | trace_state)
  refine wpPt_val rfl rfl ?_
  apply Exists.intro
  refine ⟨fun w' hS => ?_, ?_⟩
  focus (obtain ⟨y3, rfl⟩ := hS; simp [go_sem, ↓IntWalk.iteOmega, ht] <;> first | done | exact rfl | (rw [IntWalk.i64_in _ (by omega)]; exact rfl) | trace_state)
  refine wpPt_val rfl rfl ?_
  apply Exists.intro
  refine ⟨fun w' hS => ?_, ?_⟩
  focus (obtain ⟨y3, rfl⟩ := hS; simp [go_sem, ↓IntWalk.iteOmega, ht] <;> first | done | exact rfl | (rw [IntWalk.i64_in _ (by omega)]; exact rfl) | trace_state)
  refine wpPt_val rfl rfl ?_
  apply Exists.intro
  refine ⟨fun w' hS => ?_, ?_⟩
  focus (obtain ⟨y3, rfl⟩ := hS; simp [go_sem, ↓IntWalk.iteOmega, ht] <;> first | done | exact rfl | (rw [IntWalk.i64_in _ (by omega)]; exact rfl) | trace_state)
  refine wpPt_one rfl rfl (fun K hK => ?_)
  go_simp
  refine (l1Number_any o t _ ho (by have := HTS.out; omega) HTV.out).mono ?_
  rintro e w' ⟨rfl, x9, rfl⟩
  rw [HTC.out]
  refine hK _ _ (fun hkn => (by repeat (first | exact More.refl _ | (with_reducible apply more_seq) | (with_reducible apply more_draw) | apply More.plus | apply More.alloc | apply More.drew))) ?_
  clear hK K
  refine wpPt_one rfl rfl (fun K hK => ?_)
  go_simp
  refine hK _ _ (fun hkn => absurd hkn (by decide)) ?_
  clear hK K
  refine NoPanic.normal ?_
  subst he
  go_wp2_with (first | (go_at_call 68; refine (l1End_any _ _ _ l0 l10 _).mono ?_; rintro e w' ⟨rfl, xc, rfl⟩) | (go_at_call 79; refine (l1Clear_any _ _ _ l0 l10 _).mono ?_; rintro e w' ⟨rfl, xc, rfl⟩) | (go_at_call 110; refine (l2Cleared_any o l m a cap ps b last _ (by repeat (first | exact HRP.out | apply rd_seq | apply Rd.plus | apply Rd.alloc | apply Rd.drew | apply Rd.drewN | refine rd_patch ?_ _ _ (by intro A hA; first | (cases hA; show _ ≠ _; omega) | (have := hal A hA; omega)))) (by omega) hlen).mono ?_; rintro e w' ⟨A8, c8, rfl, hown8, x8, rfl⟩; (try simp only [plus_plus] at hown8); have HO8 := Lib.hid hown8; clear hown8))
  refine bodyPost_ret (v := .tuple #[.agg #[.int .i64 o, .int .i64 l, .int .i64 m, .slice A8 (ps.take b).length c8, .int .i64 b, .int .i64 (-1), .string q, .int .i64 (sz), .int .i64 ((ct : Int) + 1), .int .i64 (3)], .string ⟨#[]⟩]) (by simp [results, Try.results144, go_sem, ↓IntWalk.iteOmega, hbm] <;> omega) rfl ?_
  exact ⟨A8, c8, rfl, .inr (by repeat (first | exact (own_swap HO8.out (by simp) (by simp <;> omega)).lower (by simp <;> omega) | (with_reducible apply own_seq) | (with_reducible apply own_draw) | (with_reducible apply Own.plus) | (with_reducible apply Own.alloc) | (with_reducible apply Own.drew))), (by repeat (first | exact More.refl _ | apply More.plus | apply More.alloc | apply More.drew | apply More.drewN))⟩

set_option maxRecDepth 100000 in
set_option maxHeartbeats 4000000 in
theorem l3Take_wrong
    (o l m : Int) (a : Option Addr) (cap : Nat) (ps : List Pr) (b : Nat) (last : Int) (s : ByteArray) (sz ct : Nat) (w : World) (hr : RdP w a cap ps) (hkv : KV o l m ps (b : Int) last) (hbv : BV s.data.toList) (hss : s.size ≤ 100000) (n : Nat) (hn : wd l m ps.length last = n) (hns : n ≤ s.size) (hsz : sz ≤ 2000) (hct : ct < 3100) (c : Int) (hc : numL o (s.data.toList.take n) = c)
    (h1 : c ≠ two l + 1) (h2 : c ≠ two l) (hfo : folB l m ps.length last c = false) :
    Calls Try.prog 144 #[.agg #[.int .i64 o, .int .i64 l, .int .i64 m, .slice a ps.length cap, .int .i64 b, .int .i64 last, .string s, .int .i64 sz, .int .i64 ct, .int .i64 1]] w
      (RetTk w a cap ps o l m b (ps) (last) (s.extract n s.size) (sz) (ct) (2) ⟨#[]⟩) := by
  have v1 : (c == two l + 1) = false := by simp [h1]
  have v2 : (c == two l) = false := by simp [h2]
  clear h1 h2
  obtain ⟨ho, l1, l2, m1, m2⟩ := sv_iff.1 hkv.s
  have hs := hkv.s
  have l0 : 0 ≤ l := by omega
  have l10 : l ≤ 10 := by omega
  have hlim := hkv.lim
  obtain ⟨_, _, _, _, t1, t2, t3, t4⟩ := hlim.bds
  have hlen := kv_len (kvb_iff.2 hkv)
  have hlast := hlim.last
  have hb1 := hkv.b1
  have hbm : min b ps.length = b := Nat.min_eq_left (by omega)
  obtain ⟨wd1, wd2⟩ := wd_ten hlim
  rw [hn] at wd1 wd2
  have HN := Lib.hid hn
  have HLM := Lib.hid hlim
  have HK := Lib.hid hkv
  have HRP := Lib.hid hr
  obtain ⟨t, ht⟩ : ∃ t, s.extract 0 n = t := ⟨_, rfl⟩
  have htb : t.data.toList = s.data.toList.take n := by rw [← ht]; simp
  have hts : t.size = n := by rw [← bytes_len, htb, List.length_take, bytes_len]; omega
  have HTS := Lib.hid hts
  have HTV := Lib.hid (show BV t.data.toList by intro x hx; rw [htb] at hx; exact hbv x (List.mem_of_mem_take hx))
  have HTC := Lib.hid (show numL o t.data.toList = c by rw [htb]; exact hc)
  obtain ⟨q, hq⟩ : ∃ q, s.extract n s.size = q := ⟨_, rfl⟩
  rw [hq]
  clear hr hkv hbv hn hlim hc htb hts
  go_enter Try.func144, Try.ntmps144
  go_wp2_with (go_at_call 77; refine (l2Width_any _ _ _ _ _ _ _ _ _ HLM.out (by omega)).mono ?_; rintro e w' ⟨rfl, xc, rfl⟩; rw [HN.out])
  refine wp_region_pt 9 (fun w' => ∃ y, w' = plus _ y) (Plan.quiet 0 (Plan.quiet 1 (Plan.quiet 2 (Plan.quiet 3 (Plan.quiet 4 (Plan.quiet 5 (Plan.quiet 6 (Plan.quiet 7 (Plan.one 8 (Plan.one 9 Plan.done)))))))))) (by kernel_rfl) (by kernel_rfl) (⟨_, drew_is_plus _⟩) ?_
  refine wpPt_val rfl rfl ?_
  apply Exists.intro
  refine ⟨fun w' hS => ?_, ?_⟩
  focus (obtain ⟨y3, rfl⟩ := hS; simp [go_sem, ↓IntWalk.iteOmega, ht] <;> first | done | exact rfl | (rw [IntWalk.i64_in _ (by omega)]; exact rfl) | trace_state)
  refine wpPt_val rfl rfl ?_
  apply Exists.intro
  refine ⟨fun w' hS => ?_, ?_⟩
  focus (obtain ⟨y3, rfl⟩ := hS; simp [go_sem, ↓IntWalk.iteOmega, ht] <;> first | done | exact rfl | (rw [IntWalk.i64_in _ (by omega)]; exact rfl) | trace_state)
  refine wpPt_val rfl rfl ?_
  apply Exists.intro
  refine ⟨fun w' hS => ?_, ?_⟩
  focus (obtain ⟨y3, rfl⟩ := hS; simp [go_sem, ↓IntWalk.iteOmega, ht] <;> first | done | exact rfl | (rw [IntWalk.i64_in _ (by omega)]; exact rfl) | trace_state)
  refine wpPt_val rfl rfl ?_
  apply Exists.intro
  refine ⟨fun w' hS => ?_, ?_⟩
  focus (obtain ⟨y3, rfl⟩ := hS; simp [go_sem, ↓IntWalk.iteOmega, ht] <;> first | done | exact rfl | (rw [IntWalk.i64_in _ (by omega)]; exact rfl) | trace_state)
  refine wpPt_val rfl rfl ?_
  apply Exists.intro
  refine ⟨fun w' hS => ?_, ?_⟩
  focus (obtain ⟨y3, rfl⟩ := hS; simp [go_sem, ↓IntWalk.iteOmega, ht] <;> first | done | exact rfl | (rw [IntWalk.i64_in _ (by omega)]; exact rfl) | trace_state)
  refine wpPt_val rfl rfl ?_
  apply Exists.intro
  refine ⟨fun w' hS => ?_, ?_⟩
  focus (obtain ⟨y3, rfl⟩ := hS; simp [go_sem, ↓IntWalk.iteOmega, ht] <;> first | done | exact rfl | (rw [IntWalk.i64_in _ (by omega)]; exact rfl) | trace_state)
  refine wpPt_val rfl rfl ?_
  apply Exists.intro
  refine ⟨fun w' hS => ?_, ?_⟩
  focus (obtain ⟨y3, rfl⟩ := hS; simp [go_sem, ↓IntWalk.iteOmega, ht] <;> first | done | exact rfl | (rw [IntWalk.i64_in _ (by omega)]; exact rfl) | trace_state)
  refine wpPt_val rfl rfl ?_
  apply Exists.intro
  refine ⟨fun w' hS => ?_, ?_⟩
  focus (obtain ⟨y3, rfl⟩ := hS; simp [go_sem, ↓IntWalk.iteOmega, ht] <;> first | done | exact rfl | (rw [IntWalk.i64_in _ (by omega)]; exact rfl) | trace_state)
  refine wpPt_one rfl rfl (fun K hK => ?_)
  go_simp
  refine (l1Number_any o t _ ho (by have := HTS.out; omega) HTV.out).mono ?_
  rintro e w' ⟨rfl, x9, rfl⟩
  rw [HTC.out]
  refine hK _ _ (fun hkn => (by repeat (first | exact More.refl _ | (with_reducible apply more_seq) | (with_reducible apply more_draw) | apply More.plus | apply More.alloc | apply More.drew))) ?_
  clear hK K
  refine wpPt_one rfl rfl (fun K hK => ?_)
  go_simp
  refine hK _ _ (fun hkn => absurd hkn (by decide)) ?_
  clear hK K
  refine NoPanic.normal ?_
  go_wp2_with (first | (go_at_call 68; refine (l1End_any _ _ _ l0 l10 _).mono ?_; rintro e w' ⟨rfl, xc, rfl⟩) | (go_at_call 79; refine (l1Clear_any _ _ _ l0 l10 _).mono ?_; rintro e w' ⟨rfl, xc, rfl⟩) | (go_at_call 80; refine (l2Follows_any _ _ _ _ _ _ _ _ _ _ hs (by omega) hlast).mono ?_; rintro e w' ⟨rfl, xf, rfl⟩; rw [hfo]))
  refine bodyPost_ret (v := .tuple #[.agg #[.int .i64 o, .int .i64 l, .int .i64 m, .slice a (ps).length cap, .int .i64 b, .int .i64 (last), .string q, .int .i64 (sz), .int .i64 (ct), .int .i64 (2)], .string ⟨#[]⟩]) (by simp [results, Try.results144, go_sem, ↓IntWalk.iteOmega, hbm] <;> omega) rfl ?_
  exact ⟨a, cap, rfl, .inl ⟨rfl, rfl, rfl⟩, (by repeat (first | exact More.refl _ | apply More.plus | apply More.alloc | apply More.drew | apply More.drewN))⟩

set_option maxRecDepth 100000 in
set_option maxHeartbeats 4000000 in
theorem l3Take_long
    (o l m : Int) (a : Option Addr) (cap : Nat) (ps : List Pr) (b : Nat) (last : Int) (s : ByteArray) (sz ct : Nat) (w : World) (hr : RdP w a cap ps) (hkv : KV o l m ps (b : Int) last) (hbv : BV s.data.toList) (hss : s.size ≤ 100000) (n : Nat) (hn : wd l m ps.length last = n) (hns : n ≤ s.size) (hsz : sz ≤ 2000) (hct : ct < 3100) (c : Int) (hc : numL o (s.data.toList.take n) = c)
    (h1 : c ≠ two l + 1) (h2 : c ≠ two l) (hfo : folB l m ps.length last c = true) (hd : 2000 < sz + (anyW l ps last c).length) :
    Calls Try.prog 144 #[.agg #[.int .i64 o, .int .i64 l, .int .i64 m, .slice a ps.length cap, .int .i64 b, .int .i64 last, .string s, .int .i64 sz, .int .i64 ct, .int .i64 1]] w
      (RetTk w a cap ps o l m b (ps) (last) (s.extract n s.size) (sz) (ct) (3) ⟨#[]⟩) := by
  have v1 : (c == two l + 1) = false := by simp [h1]
  have v2 : (c == two l) = false := by simp [h2]
  have HOK := Lib.hid (folB_iff.1 hfo)
  obtain ⟨y2, hy2⟩ : ∃ y2, bstr (anyW l ps last c) = y2 := ⟨_, rfl⟩
  have hyl : y2.size = (anyW l ps last c).length := by rw [← hy2, bstr_size]
  have hab := any_bd hkv HOK.out
  rw [← hyl] at hab hd
  have HY2 := Lib.hid hy2
  have v3 : decide (2000 < (sz : Int) + y2.size) = true := by simp; omega
  have hwz : IntKind.i64.wrap ((sz : Int) + y2.size) = (sz : Int) + y2.size := IntWalk.i64_in _ (by omega)
  clear h1 h2 hd hy2 hyl
  obtain ⟨ho, l1, l2, m1, m2⟩ := sv_iff.1 hkv.s
  have hs := hkv.s
  have l0 : 0 ≤ l := by omega
  have l10 : l ≤ 10 := by omega
  have hlim := hkv.lim
  obtain ⟨_, _, _, _, t1, t2, t3, t4⟩ := hlim.bds
  have hlen := kv_len (kvb_iff.2 hkv)
  have hlast := hlim.last
  have hb1 := hkv.b1
  have hbm : min b ps.length = b := Nat.min_eq_left (by omega)
  obtain ⟨wd1, wd2⟩ := wd_ten hlim
  rw [hn] at wd1 wd2
  have HN := Lib.hid hn
  have HLM := Lib.hid hlim
  have HK := Lib.hid hkv
  have HRP := Lib.hid hr
  obtain ⟨t, ht⟩ : ∃ t, s.extract 0 n = t := ⟨_, rfl⟩
  have htb : t.data.toList = s.data.toList.take n := by rw [← ht]; simp
  have hts : t.size = n := by rw [← bytes_len, htb, List.length_take, bytes_len]; omega
  have HTS := Lib.hid hts
  have HTV := Lib.hid (show BV t.data.toList by intro x hx; rw [htb] at hx; exact hbv x (List.mem_of_mem_take hx))
  have HTC := Lib.hid (show numL o t.data.toList = c by rw [htb]; exact hc)
  obtain ⟨q, hq⟩ : ∃ q, s.extract n s.size = q := ⟨_, rfl⟩
  rw [hq]
  clear hr hkv hbv hn hlim hc htb hts
  go_enter Try.func144, Try.ntmps144
  go_wp2_with (go_at_call 77; refine (l2Width_any _ _ _ _ _ _ _ _ _ HLM.out (by omega)).mono ?_; rintro e w' ⟨rfl, xc, rfl⟩; rw [HN.out])
  refine wp_region_pt 9 (fun w' => ∃ y, w' = plus _ y) (Plan.quiet 0 (Plan.quiet 1 (Plan.quiet 2 (Plan.quiet 3 (Plan.quiet 4 (Plan.quiet 5 (Plan.quiet 6 (Plan.quiet 7 (Plan.one 8 (Plan.one 9 Plan.done)))))))))) (by kernel_rfl) (by kernel_rfl) (⟨_, drew_is_plus _⟩) ?_
  refine wpPt_val rfl rfl ?_
  apply Exists.intro
  refine ⟨fun w' hS => ?_, ?_⟩
  focus (obtain ⟨y3, rfl⟩ := hS; simp [go_sem, ↓IntWalk.iteOmega, ht] <;> first | done | exact rfl | (rw [IntWalk.i64_in _ (by omega)]; exact rfl) | trace_state)
  refine wpPt_val rfl rfl ?_
  apply Exists.intro
  refine ⟨fun w' hS => ?_, ?_⟩
  focus (obtain ⟨y3, rfl⟩ := hS; simp [go_sem, ↓IntWalk.iteOmega, ht] <;> first | done | exact rfl | (rw [IntWalk.i64_in _ (by omega)]; exact rfl) | trace_state)
  refine wpPt_val rfl rfl ?_
  apply Exists.intro
  refine ⟨fun w' hS => ?_, ?_⟩
  focus (obtain ⟨y3, rfl⟩ := hS; simp [go_sem, ↓IntWalk.iteOmega, ht] <;> first | done | exact rfl | (rw [IntWalk.i64_in _ (by omega)]; exact rfl) | trace_state)
  refine wpPt_val rfl rfl ?_
  apply Exists.intro
  refine ⟨fun w' hS => ?_, ?_⟩
  focus (obtain ⟨y3, rfl⟩ := hS; simp [go_sem, ↓IntWalk.iteOmega, ht] <;> first | done | exact rfl | (rw [IntWalk.i64_in _ (by omega)]; exact rfl) | trace_state)
  refine wpPt_val rfl rfl ?_
  apply Exists.intro
  refine ⟨fun w' hS => ?_, ?_⟩
  focus (obtain ⟨y3, rfl⟩ := hS; simp [go_sem, ↓IntWalk.iteOmega, ht] <;> first | done | exact rfl | (rw [IntWalk.i64_in _ (by omega)]; exact rfl) | trace_state)
  refine wpPt_val rfl rfl ?_
  apply Exists.intro
  refine ⟨fun w' hS => ?_, ?_⟩
  focus (obtain ⟨y3, rfl⟩ := hS; simp [go_sem, ↓IntWalk.iteOmega, ht] <;> first | done | exact rfl | (rw [IntWalk.i64_in _ (by omega)]; exact rfl) | trace_state)
  refine wpPt_val rfl rfl ?_
  apply Exists.intro
  refine ⟨fun w' hS => ?_, ?_⟩
  focus (obtain ⟨y3, rfl⟩ := hS; simp [go_sem, ↓IntWalk.iteOmega, ht] <;> first | done | exact rfl | (rw [IntWalk.i64_in _ (by omega)]; exact rfl) | trace_state)
  refine wpPt_val rfl rfl ?_
  apply Exists.intro
  refine ⟨fun w' hS => ?_, ?_⟩
  focus (obtain ⟨y3, rfl⟩ := hS; simp [go_sem, ↓IntWalk.iteOmega, ht] <;> first | done | exact rfl | (rw [IntWalk.i64_in _ (by omega)]; exact rfl) | trace_state)
  refine wpPt_one rfl rfl (fun K hK => ?_)
  go_simp
  refine (l1Number_any o t _ ho (by have := HTS.out; omega) HTV.out).mono ?_
  rintro e w' ⟨rfl, x9, rfl⟩
  rw [HTC.out]
  refine hK _ _ (fun hkn => (by repeat (first | exact More.refl _ | (with_reducible apply more_seq) | (with_reducible apply more_draw) | apply More.plus | apply More.alloc | apply More.drew))) ?_
  clear hK K
  refine wpPt_one rfl rfl (fun K hK => ?_)
  go_simp
  refine hK _ _ (fun hkn => absurd hkn (by decide)) ?_
  clear hK K
  refine NoPanic.normal ?_
  go_wp2_with (first | (go_at_call 68; refine (l1End_any _ _ _ l0 l10 _).mono ?_; rintro e w' ⟨rfl, xc, rfl⟩) | (go_at_call 79; refine (l1Clear_any _ _ _ l0 l10 _).mono ?_; rintro e w' ⟨rfl, xc, rfl⟩) | (go_at_call 80; refine (l2Follows_any _ _ _ _ _ _ _ _ _ _ hs (by omega) hlast).mono ?_; rintro e w' ⟨rfl, xf, rfl⟩; rw [hfo]))
  refine wp_region_pu 7 (fun w' => ∃ y, w' = plus _ y) (Plan.quiet 0 (Plan.quiet 1 (Plan.quiet 2 (Plan.quiet 3 (Plan.quiet 4 (Plan.one 5 (Plan.quiet 6 (Plan.one 7 (Plan.one 8 (Plan.one 9 Plan.done)))))))))) (by kernel_rfl) (by kernel_rfl) (⟨_, drew_is_plus _⟩) ?_
  refine wpPt_val rfl rfl ?_
  apply Exists.intro
  refine ⟨fun w' hS => ?_, ?_⟩
  focus (obtain ⟨y3, rfl⟩ := hS; simp [go_sem, ↓IntWalk.iteOmega] <;> first | done | exact rfl | (rw [IntWalk.i64_in _ (by omega)]; exact rfl) | trace_state)
  refine wpPt_val rfl rfl ?_
  apply Exists.intro
  refine ⟨fun w' hS => ?_, ?_⟩
  focus (obtain ⟨y3, rfl⟩ := hS; simp [go_sem, ↓IntWalk.iteOmega] <;> first | done | exact rfl | (rw [IntWalk.i64_in _ (by omega)]; exact rfl) | trace_state)
  refine wpPt_val rfl rfl ?_
  apply Exists.intro
  refine ⟨fun w' hS => ?_, ?_⟩
  focus (obtain ⟨y3, rfl⟩ := hS; simp [go_sem, ↓IntWalk.iteOmega] <;> first | done | exact rfl | (rw [IntWalk.i64_in _ (by omega)]; exact rfl) | trace_state)
  refine wpPt_val rfl rfl ?_
  apply Exists.intro
  refine ⟨fun w' hS => ?_, ?_⟩
  focus (obtain ⟨y3, rfl⟩ := hS; simp [go_sem, ↓IntWalk.iteOmega] <;> first | done | exact rfl | (rw [IntWalk.i64_in _ (by omega)]; exact rfl) | trace_state)
  refine wpPt_val rfl rfl ?_
  apply Exists.intro
  refine ⟨fun w' hS => ?_, ?_⟩
  focus (obtain ⟨y3, rfl⟩ := hS; simp [go_sem, ↓IntWalk.iteOmega] <;> first | done | exact rfl | (rw [IntWalk.i64_in _ (by omega)]; exact rfl) | trace_state)
  refine wpPt_one rfl rfl (fun K hK => ?_)
  go_simp
  refine (l2Any_any o l m a cap ps b last c _ (by repeat (first | exact HRP.out | apply rd_seq | apply Rd.plus | apply Rd.alloc | apply Rd.drew | apply Rd.drewN | refine rd_patch ?_ _ _ (by intro A hA; first | (cases hA; show _ ≠ _; omega) | (have := hal A hA; omega)))) HK.out HOK.out).mono ?_
  rintro e w' ⟨rfl, xa, rfl⟩
  rw [HY2.out]
  refine hK _ _ (fun hkn => (by repeat (first | exact More.refl _ | (with_reducible apply more_seq) | (with_reducible apply more_draw) | apply More.plus | apply More.alloc | apply More.drew))) ?_
  clear hK K
  refine wpPt_val rfl rfl ?_
  apply Exists.intro
  refine ⟨fun w' hS => ?_, ?_⟩
  focus (obtain ⟨y3, rfl⟩ := hS; simp [go_sem, ↓IntWalk.iteOmega] <;> first | done | exact rfl | (rw [IntWalk.i64_in _ (by omega)]; exact rfl) | trace_state)
  refine wpPt_one rfl rfl (fun K hK => ?_)
  go_simp
  refine hK _ _ (fun hkn => absurd hkn (by decide)) ?_
  clear hK K
  refine wpPt_one rfl rfl (fun K hK => ?_)
  go_simp
  refine hK _ _ (fun hkn => absurd hkn (by decide)) ?_
  clear hK K
  refine wpPt_one rfl rfl (fun K hK => ?_)
  go_simp
  refine hK _ _ (fun hkn => absurd hkn (by decide)) ?_
  clear hK K
  refine NoPanic.normal ?_
  go_wp2_with fail
  refine bodyPost_ret (v := .tuple #[.agg #[.int .i64 o, .int .i64 l, .int .i64 m, .slice a (ps).length cap, .int .i64 b, .int .i64 (last), .string q, .int .i64 (sz), .int .i64 (ct), .int .i64 (3)], .string ⟨#[]⟩]) (by simp [results, Try.results144, go_sem, ↓IntWalk.iteOmega, hbm] <;> omega) rfl ?_
  exact ⟨a, cap, rfl, .inl ⟨rfl, rfl, rfl⟩, (by repeat (first | exact More.refl _ | apply More.plus | apply More.alloc | apply More.drew | apply More.drewN))⟩

set_option maxRecDepth 100000 in
set_option maxHeartbeats 4000000 in
theorem l3Take_word
    (o l m : Int) (a : Option Addr) (cap : Nat) (ps : List Pr) (b : Nat) (last : Int) (s : ByteArray) (sz ct : Nat) (w : World) (hr : RdP w a cap ps) (hkv : KV o l m ps (b : Int) last) (hbv : BV s.data.toList) (hss : s.size ≤ 100000) (n : Nat) (hn : wd l m ps.length last = n) (hns : n ≤ s.size) (hsz : sz ≤ 2000) (hct : ct < 3100) (c : Int) (hc : numL o (s.data.toList.take n) = c)
    (h1 : c ≠ two l + 1) (h2 : c ≠ two l) (hfo : folB l m ps.length last c = true) (hd : ¬ 2000 < sz + (anyW l ps last c).length) (hf : ct + 1 ≠ 3100) :
    Calls Try.prog 144 #[.agg #[.int .i64 o, .int .i64 l, .int .i64 m, .slice a ps.length cap, .int .i64 b, .int .i64 last, .string s, .int .i64 sz, .int .i64 ct, .int .i64 1]] w
      (RetTk w a cap ps o l m b (aftP l m ps last c) (c) (s.extract n s.size) ((sz : Int) + (anyW l ps last c).length) ((ct : Int) + 1) (1) (bstr (anyW l ps last c))) := by
  have v9 : ((ct : Int) + 1 == 3100) = false := by simp; omega
  clear hf
  have v1 : (c == two l + 1) = false := by simp [h1]
  have v2 : (c == two l) = false := by simp [h2]
  have HOK := Lib.hid (folB_iff.1 hfo)
  obtain ⟨y2, hy2⟩ : ∃ y2, bstr (anyW l ps last c) = y2 := ⟨_, rfl⟩
  have hyl : y2.size = (anyW l ps last c).length := by rw [← hy2, bstr_size]
  have hab := any_bd hkv HOK.out
  rw [← hyl] at hab hd
  have HY2 := Lib.hid hy2
  have v3 : decide (2000 < (sz : Int) + y2.size) = false := by simp; omega
  have hwz : IntKind.i64.wrap ((sz : Int) + y2.size) = (sz : Int) + y2.size := IntWalk.i64_in _ (by omega)
  rw [hy2, ← hyl]
  clear h1 h2 hd hy2 hyl
  obtain ⟨ho, l1, l2, m1, m2⟩ := sv_iff.1 hkv.s
  have hs := hkv.s
  have l0 : 0 ≤ l := by omega
  have l10 : l ≤ 10 := by omega
  have hlim := hkv.lim
  obtain ⟨_, _, _, _, t1, t2, t3, t4⟩ := hlim.bds
  have hlen := kv_len (kvb_iff.2 hkv)
  have hlast := hlim.last
  have hb1 := hkv.b1
  have hbm : min b ps.length = b := Nat.min_eq_left (by omega)
  obtain ⟨wd1, wd2⟩ := wd_ten hlim
  rw [hn] at wd1 wd2
  have HN := Lib.hid hn
  have HLM := Lib.hid hlim
  have HK := Lib.hid hkv
  have HRP := Lib.hid hr
  obtain ⟨t, ht⟩ : ∃ t, s.extract 0 n = t := ⟨_, rfl⟩
  have htb : t.data.toList = s.data.toList.take n := by rw [← ht]; simp
  have hts : t.size = n := by rw [← bytes_len, htb, List.length_take, bytes_len]; omega
  have HTS := Lib.hid hts
  have HTV := Lib.hid (show BV t.data.toList by intro x hx; rw [htb] at hx; exact hbv x (List.mem_of_mem_take hx))
  have HTC := Lib.hid (show numL o t.data.toList = c by rw [htb]; exact hc)
  obtain ⟨q, hq⟩ : ∃ q, s.extract n s.size = q := ⟨_, rfl⟩
  rw [hq]
  clear hr hkv hbv hn hlim hc htb hts
  go_enter Try.func144, Try.ntmps144
  go_wp2_with (go_at_call 77; refine (l2Width_any _ _ _ _ _ _ _ _ _ HLM.out (by omega)).mono ?_; rintro e w' ⟨rfl, xc, rfl⟩; rw [HN.out])
  refine wp_region_pt 9 (fun w' => ∃ y, w' = plus _ y) (Plan.quiet 0 (Plan.quiet 1 (Plan.quiet 2 (Plan.quiet 3 (Plan.quiet 4 (Plan.quiet 5 (Plan.quiet 6 (Plan.quiet 7 (Plan.one 8 (Plan.one 9 Plan.done)))))))))) (by kernel_rfl) (by kernel_rfl) (⟨_, drew_is_plus _⟩) ?_
  refine wpPt_val rfl rfl ?_
  apply Exists.intro
  refine ⟨fun w' hS => ?_, ?_⟩
  focus (obtain ⟨y3, rfl⟩ := hS; simp [go_sem, ↓IntWalk.iteOmega, ht] <;> first | done | exact rfl | (rw [IntWalk.i64_in _ (by omega)]; exact rfl) | trace_state)
  refine wpPt_val rfl rfl ?_
  apply Exists.intro
  refine ⟨fun w' hS => ?_, ?_⟩
  focus (obtain ⟨y3, rfl⟩ := hS; simp [go_sem, ↓IntWalk.iteOmega, ht] <;> first | done | exact rfl | (rw [IntWalk.i64_in _ (by omega)]; exact rfl) | trace_state)
  refine wpPt_val rfl rfl ?_
  apply Exists.intro
  refine ⟨fun w' hS => ?_, ?_⟩
  focus (obtain ⟨y3, rfl⟩ := hS; simp [go_sem, ↓IntWalk.iteOmega, ht] <;> first | done | exact rfl | (rw [IntWalk.i64_in _ (by omega)]; exact rfl) | trace_state)
  refine wpPt_val rfl rfl ?_
  apply Exists.intro
  refine ⟨fun w' hS => ?_, ?_⟩
  focus (obtain ⟨y3, rfl⟩ := hS; simp [go_sem, ↓IntWalk.iteOmega, ht] <;> first | done | exact rfl | (rw [IntWalk.i64_in _ (by omega)]; exact rfl) | trace_state)
  refine wpPt_val rfl rfl ?_
  apply Exists.intro
  refine ⟨fun w' hS => ?_, ?_⟩
  focus (obtain ⟨y3, rfl⟩ := hS; simp [go_sem, ↓IntWalk.iteOmega, ht] <;> first | done | exact rfl | (rw [IntWalk.i64_in _ (by omega)]; exact rfl) | trace_state)
  refine wpPt_val rfl rfl ?_
  apply Exists.intro
  refine ⟨fun w' hS => ?_, ?_⟩
  focus (obtain ⟨y3, rfl⟩ := hS; simp [go_sem, ↓IntWalk.iteOmega, ht] <;> first | done | exact rfl | (rw [IntWalk.i64_in _ (by omega)]; exact rfl) | trace_state)
  refine wpPt_val rfl rfl ?_
  apply Exists.intro
  refine ⟨fun w' hS => ?_, ?_⟩
  focus (obtain ⟨y3, rfl⟩ := hS; simp [go_sem, ↓IntWalk.iteOmega, ht] <;> first | done | exact rfl | (rw [IntWalk.i64_in _ (by omega)]; exact rfl) | trace_state)
  refine wpPt_val rfl rfl ?_
  apply Exists.intro
  refine ⟨fun w' hS => ?_, ?_⟩
  focus (obtain ⟨y3, rfl⟩ := hS; simp [go_sem, ↓IntWalk.iteOmega, ht] <;> first | done | exact rfl | (rw [IntWalk.i64_in _ (by omega)]; exact rfl) | trace_state)
  refine wpPt_one rfl rfl (fun K hK => ?_)
  go_simp
  refine (l1Number_any o t _ ho (by have := HTS.out; omega) HTV.out).mono ?_
  rintro e w' ⟨rfl, x9, rfl⟩
  rw [HTC.out]
  refine hK _ _ (fun hkn => (by repeat (first | exact More.refl _ | (with_reducible apply more_seq) | (with_reducible apply more_draw) | apply More.plus | apply More.alloc | apply More.drew))) ?_
  clear hK K
  refine wpPt_one rfl rfl (fun K hK => ?_)
  go_simp
  refine hK _ _ (fun hkn => absurd hkn (by decide)) ?_
  clear hK K
  refine NoPanic.normal ?_
  go_wp2_with (first | (go_at_call 68; refine (l1End_any _ _ _ l0 l10 _).mono ?_; rintro e w' ⟨rfl, xc, rfl⟩) | (go_at_call 79; refine (l1Clear_any _ _ _ l0 l10 _).mono ?_; rintro e w' ⟨rfl, xc, rfl⟩) | (go_at_call 80; refine (l2Follows_any _ _ _ _ _ _ _ _ _ _ hs (by omega) hlast).mono ?_; rintro e w' ⟨rfl, xf, rfl⟩; rw [hfo]))
  refine wp_region_pu 7 (fun w' => ∃ y, w' = plus _ y) (Plan.quiet 0 (Plan.quiet 1 (Plan.quiet 2 (Plan.quiet 3 (Plan.quiet 4 (Plan.one 5 (Plan.quiet 6 (Plan.one 7 (Plan.one 8 (Plan.one 9 Plan.done)))))))))) (by kernel_rfl) (by kernel_rfl) (⟨_, drew_is_plus _⟩) ?_
  refine wpPt_val rfl rfl ?_
  apply Exists.intro
  refine ⟨fun w' hS => ?_, ?_⟩
  focus (obtain ⟨y3, rfl⟩ := hS; simp [go_sem, ↓IntWalk.iteOmega] <;> first | done | exact rfl | (rw [IntWalk.i64_in _ (by omega)]; exact rfl) | trace_state)
  refine wpPt_val rfl rfl ?_
  apply Exists.intro
  refine ⟨fun w' hS => ?_, ?_⟩
  focus (obtain ⟨y3, rfl⟩ := hS; simp [go_sem, ↓IntWalk.iteOmega] <;> first | done | exact rfl | (rw [IntWalk.i64_in _ (by omega)]; exact rfl) | trace_state)
  refine wpPt_val rfl rfl ?_
  apply Exists.intro
  refine ⟨fun w' hS => ?_, ?_⟩
  focus (obtain ⟨y3, rfl⟩ := hS; simp [go_sem, ↓IntWalk.iteOmega] <;> first | done | exact rfl | (rw [IntWalk.i64_in _ (by omega)]; exact rfl) | trace_state)
  refine wpPt_val rfl rfl ?_
  apply Exists.intro
  refine ⟨fun w' hS => ?_, ?_⟩
  focus (obtain ⟨y3, rfl⟩ := hS; simp [go_sem, ↓IntWalk.iteOmega] <;> first | done | exact rfl | (rw [IntWalk.i64_in _ (by omega)]; exact rfl) | trace_state)
  refine wpPt_val rfl rfl ?_
  apply Exists.intro
  refine ⟨fun w' hS => ?_, ?_⟩
  focus (obtain ⟨y3, rfl⟩ := hS; simp [go_sem, ↓IntWalk.iteOmega] <;> first | done | exact rfl | (rw [IntWalk.i64_in _ (by omega)]; exact rfl) | trace_state)
  refine wpPt_one rfl rfl (fun K hK => ?_)
  go_simp
  refine (l2Any_any o l m a cap ps b last c _ (by repeat (first | exact HRP.out | apply rd_seq | apply Rd.plus | apply Rd.alloc | apply Rd.drew | apply Rd.drewN | refine rd_patch ?_ _ _ (by intro A hA; first | (cases hA; show _ ≠ _; omega) | (have := hal A hA; omega)))) HK.out HOK.out).mono ?_
  rintro e w' ⟨rfl, xa, rfl⟩
  rw [HY2.out]
  refine hK _ _ (fun hkn => (by repeat (first | exact More.refl _ | (with_reducible apply more_seq) | (with_reducible apply more_draw) | apply More.plus | apply More.alloc | apply More.drew))) ?_
  clear hK K
  refine wpPt_val rfl rfl ?_
  apply Exists.intro
  refine ⟨fun w' hS => ?_, ?_⟩
  focus (obtain ⟨y3, rfl⟩ := hS; simp [go_sem, ↓IntWalk.iteOmega] <;> first | done | exact rfl | (rw [IntWalk.i64_in _ (by omega)]; exact rfl) | trace_state)
  refine wpPt_one rfl rfl (fun K hK => ?_)
  go_simp
  refine hK _ _ (fun hkn => absurd hkn (by decide)) ?_
  clear hK K
  refine wpPt_one rfl rfl (fun K hK => ?_)
  go_simp
  refine hK _ _ (fun hkn => absurd hkn (by decide)) ?_
  clear hK K
  refine wpPt_one rfl rfl (fun K hK => ?_)
  go_simp
  refine hK _ _ (fun hkn => absurd hkn (by decide)) ?_
  clear hK K
  refine NoPanic.normal ?_
  go_wp2_with fail
  refine (l2Any_any o l m a cap ps b last c _ (by repeat (first | exact HRP.out | apply rd_seq | apply Rd.plus | apply Rd.alloc | apply Rd.drew | apply Rd.drewN | refine rd_patch ?_ _ _ (by intro A hA; first | (cases hA; show _ ≠ _; omega) | (have := hal A hA; omega)))) HK.out HOK.out).mono ?_
  rintro e w' ⟨rfl, xb, rfl⟩
  rw [HY2.out]
  go_wp2_with fail
  refine (l2After_any o l m a cap ps b last c _ (by repeat (first | exact HRP.out | apply rd_seq | apply Rd.plus | apply Rd.alloc | apply Rd.drew | apply Rd.drewN | refine rd_patch ?_ _ _ (by intro A hA; first | (cases hA; show _ ≠ _; omega) | (have := hal A hA; omega)))) HK.out HOK.out).mono ?_
  rintro e w' ⟨A8, c8, rfl, hown8, x8, rfl⟩
  try simp only [plus_plus] at hown8
  have HO8 := Lib.hid hown8
  clear hown8
  go_wp2_with fail
  refine bodyPost_ret (v := .tuple #[.agg #[.int .i64 o, .int .i64 l, .int .i64 m, .slice A8 (aftP l m ps last c).length c8, .int .i64 b, .int .i64 (c), .string q, .int .i64 ((sz : Int) + y2.size), .int .i64 ((ct : Int) + 1), .int .i64 (1)], .string y2]) (by simp [results, Try.results144, go_sem, ↓IntWalk.iteOmega, hbm] <;> omega) rfl ?_
  exact ⟨A8, c8, rfl, .inr (by repeat (first | exact (own_swap HO8.out (by simp) (by simp <;> omega)).lower (by simp <;> omega) | (with_reducible apply own_seq) | (with_reducible apply own_draw) | (with_reducible apply Own.plus) | (with_reducible apply Own.alloc) | (with_reducible apply Own.drew))), (by repeat (first | exact More.refl _ | apply More.plus | apply More.alloc | apply More.drew | apply More.drewN))⟩

set_option maxRecDepth 100000 in
set_option maxHeartbeats 4000000 in
theorem l3Take_wordf
    (o l m : Int) (a : Option Addr) (cap : Nat) (ps : List Pr) (b : Nat) (last : Int) (s : ByteArray) (sz ct : Nat) (w : World) (hr : RdP w a cap ps) (hkv : KV o l m ps (b : Int) last) (hbv : BV s.data.toList) (hss : s.size ≤ 100000) (n : Nat) (hn : wd l m ps.length last = n) (hns : n ≤ s.size) (hsz : sz ≤ 2000) (hct : ct < 3100) (c : Int) (hc : numL o (s.data.toList.take n) = c)
    (h1 : c ≠ two l + 1) (h2 : c ≠ two l) (hfo : folB l m ps.length last c = true) (hd : ¬ 2000 < sz + (anyW l ps last c).length) (hf : ct + 1 = 3100) :
    Calls Try.prog 144 #[.agg #[.int .i64 o, .int .i64 l, .int .i64 m, .slice a ps.length cap, .int .i64 b, .int .i64 last, .string s, .int .i64 sz, .int .i64 ct, .int .i64 1]] w
      (RetTk w a cap ps o l m b (aftP l m ps last c) (c) (s.extract n s.size) ((sz : Int) + (anyW l ps last c).length) ((ct : Int) + 1) (3) (bstr (anyW l ps last c))) := by
  have v9 : ((ct : Int) + 1 == 3100) = true := by simp; omega
  clear hf
  have v1 : (c == two l + 1) = false := by simp [h1]
  have v2 : (c == two l) = false := by simp [h2]
  have HOK := Lib.hid (folB_iff.1 hfo)
  obtain ⟨y2, hy2⟩ : ∃ y2, bstr (anyW l ps last c) = y2 := ⟨_, rfl⟩
  have hyl : y2.size = (anyW l ps last c).length := by rw [← hy2, bstr_size]
  have hab := any_bd hkv HOK.out
  rw [← hyl] at hab hd
  have HY2 := Lib.hid hy2
  have v3 : decide (2000 < (sz : Int) + y2.size) = false := by simp; omega
  have hwz : IntKind.i64.wrap ((sz : Int) + y2.size) = (sz : Int) + y2.size := IntWalk.i64_in _ (by omega)
  rw [hy2, ← hyl]
  clear h1 h2 hd hy2 hyl
  obtain ⟨ho, l1, l2, m1, m2⟩ := sv_iff.1 hkv.s
  have hs := hkv.s
  have l0 : 0 ≤ l := by omega
  have l10 : l ≤ 10 := by omega
  have hlim := hkv.lim
  obtain ⟨_, _, _, _, t1, t2, t3, t4⟩ := hlim.bds
  have hlen := kv_len (kvb_iff.2 hkv)
  have hlast := hlim.last
  have hb1 := hkv.b1
  have hbm : min b ps.length = b := Nat.min_eq_left (by omega)
  obtain ⟨wd1, wd2⟩ := wd_ten hlim
  rw [hn] at wd1 wd2
  have HN := Lib.hid hn
  have HLM := Lib.hid hlim
  have HK := Lib.hid hkv
  have HRP := Lib.hid hr
  obtain ⟨t, ht⟩ : ∃ t, s.extract 0 n = t := ⟨_, rfl⟩
  have htb : t.data.toList = s.data.toList.take n := by rw [← ht]; simp
  have hts : t.size = n := by rw [← bytes_len, htb, List.length_take, bytes_len]; omega
  have HTS := Lib.hid hts
  have HTV := Lib.hid (show BV t.data.toList by intro x hx; rw [htb] at hx; exact hbv x (List.mem_of_mem_take hx))
  have HTC := Lib.hid (show numL o t.data.toList = c by rw [htb]; exact hc)
  obtain ⟨q, hq⟩ : ∃ q, s.extract n s.size = q := ⟨_, rfl⟩
  rw [hq]
  clear hr hkv hbv hn hlim hc htb hts
  go_enter Try.func144, Try.ntmps144
  go_wp2_with (go_at_call 77; refine (l2Width_any _ _ _ _ _ _ _ _ _ HLM.out (by omega)).mono ?_; rintro e w' ⟨rfl, xc, rfl⟩; rw [HN.out])
  refine wp_region_pt 9 (fun w' => ∃ y, w' = plus _ y) (Plan.quiet 0 (Plan.quiet 1 (Plan.quiet 2 (Plan.quiet 3 (Plan.quiet 4 (Plan.quiet 5 (Plan.quiet 6 (Plan.quiet 7 (Plan.one 8 (Plan.one 9 Plan.done)))))))))) (by kernel_rfl) (by kernel_rfl) (⟨_, drew_is_plus _⟩) ?_
  refine wpPt_val rfl rfl ?_
  apply Exists.intro
  refine ⟨fun w' hS => ?_, ?_⟩
  focus (obtain ⟨y3, rfl⟩ := hS; simp [go_sem, ↓IntWalk.iteOmega, ht] <;> first | done | exact rfl | (rw [IntWalk.i64_in _ (by omega)]; exact rfl) | trace_state)
  refine wpPt_val rfl rfl ?_
  apply Exists.intro
  refine ⟨fun w' hS => ?_, ?_⟩
  focus (obtain ⟨y3, rfl⟩ := hS; simp [go_sem, ↓IntWalk.iteOmega, ht] <;> first | done | exact rfl | (rw [IntWalk.i64_in _ (by omega)]; exact rfl) | trace_state)
  refine wpPt_val rfl rfl ?_
  apply Exists.intro
  refine ⟨fun w' hS => ?_, ?_⟩
  focus (obtain ⟨y3, rfl⟩ := hS; simp [go_sem, ↓IntWalk.iteOmega, ht] <;> first | done | exact rfl | (rw [IntWalk.i64_in _ (by omega)]; exact rfl) | trace_state)
  refine wpPt_val rfl rfl ?_
  apply Exists.intro
  refine ⟨fun w' hS => ?_, ?_⟩
  focus (obtain ⟨y3, rfl⟩ := hS; simp [go_sem, ↓IntWalk.iteOmega, ht] <;> first | done | exact rfl | (rw [IntWalk.i64_in _ (by omega)]; exact rfl) | trace_state)
  refine wpPt_val rfl rfl ?_
  apply Exists.intro
  refine ⟨fun w' hS => ?_, ?_⟩
  focus (obtain ⟨y3, rfl⟩ := hS; simp [go_sem, ↓IntWalk.iteOmega, ht] <;> first | done | exact rfl | (rw [IntWalk.i64_in _ (by omega)]; exact rfl) | trace_state)
  refine wpPt_val rfl rfl ?_
  apply Exists.intro
  refine ⟨fun w' hS => ?_, ?_⟩
  focus (obtain ⟨y3, rfl⟩ := hS; simp [go_sem, ↓IntWalk.iteOmega, ht] <;> first | done | exact rfl | (rw [IntWalk.i64_in _ (by omega)]; exact rfl) | trace_state)
  refine wpPt_val rfl rfl ?_
  apply Exists.intro
  refine ⟨fun w' hS => ?_, ?_⟩
  focus (obtain ⟨y3, rfl⟩ := hS; simp [go_sem, ↓IntWalk.iteOmega, ht] <;> first | done | exact rfl | (rw [IntWalk.i64_in _ (by omega)]; exact rfl) | trace_state)
  refine wpPt_val rfl rfl ?_
  apply Exists.intro
  refine ⟨fun w' hS => ?_, ?_⟩
  focus (obtain ⟨y3, rfl⟩ := hS; simp [go_sem, ↓IntWalk.iteOmega, ht] <;> first | done | exact rfl | (rw [IntWalk.i64_in _ (by omega)]; exact rfl) | trace_state)
  refine wpPt_one rfl rfl (fun K hK => ?_)
  go_simp
  refine (l1Number_any o t _ ho (by have := HTS.out; omega) HTV.out).mono ?_
  rintro e w' ⟨rfl, x9, rfl⟩
  rw [HTC.out]
  refine hK _ _ (fun hkn => (by repeat (first | exact More.refl _ | (with_reducible apply more_seq) | (with_reducible apply more_draw) | apply More.plus | apply More.alloc | apply More.drew))) ?_
  clear hK K
  refine wpPt_one rfl rfl (fun K hK => ?_)
  go_simp
  refine hK _ _ (fun hkn => absurd hkn (by decide)) ?_
  clear hK K
  refine NoPanic.normal ?_
  go_wp2_with (first | (go_at_call 68; refine (l1End_any _ _ _ l0 l10 _).mono ?_; rintro e w' ⟨rfl, xc, rfl⟩) | (go_at_call 79; refine (l1Clear_any _ _ _ l0 l10 _).mono ?_; rintro e w' ⟨rfl, xc, rfl⟩) | (go_at_call 80; refine (l2Follows_any _ _ _ _ _ _ _ _ _ _ hs (by omega) hlast).mono ?_; rintro e w' ⟨rfl, xf, rfl⟩; rw [hfo]))
  refine wp_region_pu 7 (fun w' => ∃ y, w' = plus _ y) (Plan.quiet 0 (Plan.quiet 1 (Plan.quiet 2 (Plan.quiet 3 (Plan.quiet 4 (Plan.one 5 (Plan.quiet 6 (Plan.one 7 (Plan.one 8 (Plan.one 9 Plan.done)))))))))) (by kernel_rfl) (by kernel_rfl) (⟨_, drew_is_plus _⟩) ?_
  refine wpPt_val rfl rfl ?_
  apply Exists.intro
  refine ⟨fun w' hS => ?_, ?_⟩
  focus (obtain ⟨y3, rfl⟩ := hS; simp [go_sem, ↓IntWalk.iteOmega] <;> first | done | exact rfl | (rw [IntWalk.i64_in _ (by omega)]; exact rfl) | trace_state)
  refine wpPt_val rfl rfl ?_
  apply Exists.intro
  refine ⟨fun w' hS => ?_, ?_⟩
  focus (obtain ⟨y3, rfl⟩ := hS; simp [go_sem, ↓IntWalk.iteOmega] <;> first | done | exact rfl | (rw [IntWalk.i64_in _ (by omega)]; exact rfl) | trace_state)
  refine wpPt_val rfl rfl ?_
  apply Exists.intro
  refine ⟨fun w' hS => ?_, ?_⟩
  focus (obtain ⟨y3, rfl⟩ := hS; simp [go_sem, ↓IntWalk.iteOmega] <;> first | done | exact rfl | (rw [IntWalk.i64_in _ (by omega)]; exact rfl) | trace_state)
  refine wpPt_val rfl rfl ?_
  apply Exists.intro
  refine ⟨fun w' hS => ?_, ?_⟩
  focus (obtain ⟨y3, rfl⟩ := hS; simp [go_sem, ↓IntWalk.iteOmega] <;> first | done | exact rfl | (rw [IntWalk.i64_in _ (by omega)]; exact rfl) | trace_state)
  refine wpPt_val rfl rfl ?_
  apply Exists.intro
  refine ⟨fun w' hS => ?_, ?_⟩
  focus (obtain ⟨y3, rfl⟩ := hS; simp [go_sem, ↓IntWalk.iteOmega] <;> first | done | exact rfl | (rw [IntWalk.i64_in _ (by omega)]; exact rfl) | trace_state)
  refine wpPt_one rfl rfl (fun K hK => ?_)
  go_simp
  refine (l2Any_any o l m a cap ps b last c _ (by repeat (first | exact HRP.out | apply rd_seq | apply Rd.plus | apply Rd.alloc | apply Rd.drew | apply Rd.drewN | refine rd_patch ?_ _ _ (by intro A hA; first | (cases hA; show _ ≠ _; omega) | (have := hal A hA; omega)))) HK.out HOK.out).mono ?_
  rintro e w' ⟨rfl, xa, rfl⟩
  rw [HY2.out]
  refine hK _ _ (fun hkn => (by repeat (first | exact More.refl _ | (with_reducible apply more_seq) | (with_reducible apply more_draw) | apply More.plus | apply More.alloc | apply More.drew))) ?_
  clear hK K
  refine wpPt_val rfl rfl ?_
  apply Exists.intro
  refine ⟨fun w' hS => ?_, ?_⟩
  focus (obtain ⟨y3, rfl⟩ := hS; simp [go_sem, ↓IntWalk.iteOmega] <;> first | done | exact rfl | (rw [IntWalk.i64_in _ (by omega)]; exact rfl) | trace_state)
  refine wpPt_one rfl rfl (fun K hK => ?_)
  go_simp
  refine hK _ _ (fun hkn => absurd hkn (by decide)) ?_
  clear hK K
  refine wpPt_one rfl rfl (fun K hK => ?_)
  go_simp
  refine hK _ _ (fun hkn => absurd hkn (by decide)) ?_
  clear hK K
  refine wpPt_one rfl rfl (fun K hK => ?_)
  go_simp
  refine hK _ _ (fun hkn => absurd hkn (by decide)) ?_
  clear hK K
  refine NoPanic.normal ?_
  go_wp2_with fail
  refine (l2Any_any o l m a cap ps b last c _ (by repeat (first | exact HRP.out | apply rd_seq | apply Rd.plus | apply Rd.alloc | apply Rd.drew | apply Rd.drewN | refine rd_patch ?_ _ _ (by intro A hA; first | (cases hA; show _ ≠ _; omega) | (have := hal A hA; omega)))) HK.out HOK.out).mono ?_
  rintro e w' ⟨rfl, xb, rfl⟩
  rw [HY2.out]
  go_wp2_with fail
  refine (l2After_any o l m a cap ps b last c _ (by repeat (first | exact HRP.out | apply rd_seq | apply Rd.plus | apply Rd.alloc | apply Rd.drew | apply Rd.drewN | refine rd_patch ?_ _ _ (by intro A hA; first | (cases hA; show _ ≠ _; omega) | (have := hal A hA; omega)))) HK.out HOK.out).mono ?_
  rintro e w' ⟨A8, c8, rfl, hown8, x8, rfl⟩
  try simp only [plus_plus] at hown8
  have HO8 := Lib.hid hown8
  clear hown8
  go_wp2_with fail
  refine bodyPost_ret (v := .tuple #[.agg #[.int .i64 o, .int .i64 l, .int .i64 m, .slice A8 (aftP l m ps last c).length c8, .int .i64 b, .int .i64 (c), .string q, .int .i64 ((sz : Int) + y2.size), .int .i64 ((ct : Int) + 1), .int .i64 (3)], .string y2]) (by simp [results, Try.results144, go_sem, ↓IntWalk.iteOmega, hbm] <;> omega) rfl ?_
  exact ⟨A8, c8, rfl, .inr (by repeat (first | exact (own_swap HO8.out (by simp) (by simp <;> omega)).lower (by simp <;> omega) | (with_reducible apply own_seq) | (with_reducible apply own_draw) | (with_reducible apply Own.plus) | (with_reducible apply Own.alloc) | (with_reducible apply Own.drew))), (by repeat (first | exact More.refl _ | apply More.plus | apply More.alloc | apply More.drew | apply More.drewN))⟩

end Go.Proofs.Ytmenpflcmpihpaa
