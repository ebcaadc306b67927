/- Lemmas and walks, part Gv. -/
import Derived.Test.YtmddcbebaijjkaaGreatDoorUnc
import Derived.Test.YtmddcbebaijjkaaGreatDoorPck
import Derived.Test.YtmddcbebaijjkaaGreatDoorGr
import Derived.Test.YtmddcbebaijjkaaGreatDoorRng
import Derived.Test.YtmddcbebaijjkaaGreatDoorGp

/- The walk of spec.l3Take: one code read. -/
namespace Go.Proofs.YtmddcbebaijjkaaGreatDoor
open Go.RowKit
set_option linter.unusedVariables false
set_option linter.unusedSimpArgs false

/-- what l3Take leaves -/
def RetTk (w : World) (a : Option Addr) (cap : Nat) (ps : List Pr) (o l m base : Int) (qs : List Pr) (la : Int) (sb : ByteArray) (z c e : Int) (word : ByteArray) (E : Ending) (w' : World) : Prop :=
  ∃ A' c', E = .returned (.tuple #[.agg #[.int .i64 o, .int .i64 l, .int .i64 m, .slice A' qs.length c', .int .i64 base, .int .i64 la, .string sb, .int .i64 z, .int .i64 c, .int .i64 e], .string word]) ∧
    ((A' = a ∧ c' = cap ∧ qs = ps) ∨ Own encP 81 w' A' c' qs w.heap.size) ∧ ∃ x, w' = plus w x


set_option maxRecDepth 100000 in
set_option maxHeartbeats 4000000 in
theorem l3Take_end
    (o l m : Int) (a : Option Addr) (cap : Nat) (ps : List Pr) (b : Nat) (last : Int) (s : ByteArray) (sz ct : Nat) (w : World) (hr : RdP w a cap ps) (hkv : KV o l m ps (b : Int) last) (hbv : BV s.data.toList) (hss : s.size ≤ 100000) (n : Nat) (hn : wd l m ps.length last = n) (hns : n ≤ s.size) (hsz : sz ≤ 2000) (hct : ct < 3100) (c : Int) (hc : numL o (s.data.toList.take n) = c)
    (he : c = two l + 1) :
    Calls Tryz.prog 95 #[.agg #[.int .i64 o, .int .i64 l, .int .i64 m, .slice a ps.length cap, .int .i64 b, .int .i64 last, .string s, .int .i64 sz, .int .i64 ct, .int .i64 1]] w
      (RetTk w a cap ps o l m b (ps) (last) (s.extract n s.size) (sz) ((ct : Int) + 1) (0) ⟨#[]⟩) := by
  obtain ⟨ho, l1, l2, m1, m2⟩ := sv_iff.1 hkv.s
  have hs := hkv.s
  have l0 : 0 ≤ l := by omega
  have l10 : l ≤ 10 := by omega
  have hlim := hkv.lim
  obtain ⟨_, _, _, _, t1, t2, t3, t4⟩ := hlim.bds
  have hlen := kv_len (kvb_iff.2 hkv)
  have hlast := hlim.last
  have hb1 := hkv.b1
  have hbm : min b ps.length = b := Nat.min_eq_left (by omega)
  obtain ⟨wd1, wd2⟩ := wd_ten hlim
  rw [hn] at wd1 wd2
  have HN := Lib.hid hn
  have HLM := Lib.hid hlim
  have HK := Lib.hid hkv
  have HRP := Lib.hid hr
  obtain ⟨t, ht⟩ : ∃ t, s.extract 0 n = t := ⟨_, rfl⟩
  have htb : t.data.toList = s.data.toList.take n := by rw [← ht]; simp
  have hts : t.size = n := by rw [← bytes_len, htb, List.length_take, bytes_len]; omega
  have HTS := Lib.hid hts
  have HTV := Lib.hid (show BV t.data.toList by intro x hx; rw [htb] at hx; exact hbv x (List.mem_of_mem_take hx))
  have HTC := Lib.hid (show numL o t.data.toList = c by rw [htb]; exact hc)
  obtain ⟨q, hq⟩ : ∃ q, s.extract n s.size = q := ⟨_, rfl⟩
  rw [hq]
  clear hr hkv hbv hn hlim hc htb hts
  go_enter Tryz.func95, Tryz.ntmps95
  go_wp2_with (go_at_call 94; refine (l2Width_any _ _ _ _ _ _ _ _ _ HLM.out (by omega)).mono ?_; rintro e w' ⟨rfl, xc, rfl⟩; rw [HN.out])
  refine wp_region_pt 9 (fun w' => ∃ y, w' = plus _ y) (Plan.quiet 0 (Plan.quiet 1 (Plan.quiet 2 (Plan.quiet 3 (Plan.quiet 4 (Plan.quiet 5 (Plan.quiet 6 (Plan.quiet 7 (Plan.one 8 (Plan.one 9 Plan.done)))))))))) (by kernel_rfl) (by kernel_rfl) (⟨_, drew_is_plus _⟩) ?_
  refine wpPt_val rfl rfl ?_
  apply Exists.intro
  refine ⟨fun w' hS => ?_, ?_⟩
  focus (obtain ⟨y3, rfl⟩ := hS; simp [go_sem, ↓IntWalk.iteOmega, ht] <;> first | done | exact rfl | (rw [IntWalk.i64_in _ (by omega)]; exact rfl) | trace_state)
  refine wpPt_val rfl rfl ?_
  apply Exists.intro
  refine ⟨fun w' hS => ?_, ?_⟩
  focus (obtain ⟨y3, rfl⟩ := hS; simp [go_sem, ↓IntWalk.iteOmega, ht] <;> first | done | exact rfl | (rw [IntWalk.i64_in _ (by omega)]; exact rfl) | trace_state)
  refine wpPt_val rfl rfl ?_
  apply Exists.intro
  refine ⟨fun w' hS => ?_, ?_⟩
  focus (obtain ⟨y3, rfl⟩ := hS; simp [go_sem, ↓IntWalk.iteOmega, ht] <;> first | done | exact rfl | (rw [IntWalk.i64_in _ (by omega)]; exact rfl) | trace_state)
  refine wpPt_val rfl rfl ?_
  apply Exists.intro
  refine ⟨fun w' hS => ?_, ?_⟩
  focus (obtain ⟨y3, rfl⟩ := hS; simp [go_sem, ↓IntWalk.iteOmega, ht] <;> first | done | exact rfl | (rw [IntWalk.i64_in _ (by omega)]; exact rfl) | trace_state)
  refine wpPt_val rfl rfl ?_
  apply Exists.intro
  refine ⟨fun w' hS => ?_, ?_⟩
  focus (obtain ⟨y3, rfl⟩ := hS; simp [go_sem, ↓IntWalk.iteOmega, ht] <;> first | done | exact rfl | (rw [IntWalk.i64_in _ (by omega)]; exact rfl) | trace_state)
  refine wpPt_val rfl rfl ?_
  apply Exists.intro
  refine ⟨fun w' hS => ?_, ?_⟩
  focus (obtain ⟨y3, rfl⟩ := hS; simp [go_sem, ↓IntWalk.iteOmega, ht] <;> first | done | exact rfl | (rw [IntWalk.i64_in _ (by omega)]; exact rfl) | trace_state)
  refine wpPt_val rfl rfl ?_
  apply Exists.intro
  refine ⟨fun w' hS => ?_, ?_⟩
  focus (obtain ⟨y3, rfl⟩ := hS; simp [go_sem, ↓IntWalk.iteOmega, ht] <;> first | done | exact rfl | (rw [IntWalk.i64_in _ (by omega)]; exact rfl) | trace_state)
  refine wpPt_val rfl rfl ?_
  apply Exists.intro
  refine ⟨fun w' hS => ?_, ?_⟩
  focus (obtain ⟨y3, rfl⟩ := hS; simp [go_sem, ↓IntWalk.iteOmega, ht] <;> first | done | exact rfl | (rw [IntWalk.i64_in _ (by omega)]; exact rfl) | trace_state)
  refine wpPt_one rfl rfl (fun K hK => ?_)
  go_simp
  refine (l1Number_any o t _ ho (by have := HTS.out; omega) HTV.out).mono ?_
  rintro e w' ⟨rfl, x9, rfl⟩
  rw [HTC.out]
  refine hK _ _ (fun hkn => (by repeat (first | exact More.refl _ | (with_reducible apply more_seq) | (with_reducible apply more_draw) | apply More.plus | apply More.alloc | apply More.drew))) ?_
  clear hK K
  refine wpPt_one rfl rfl (fun K hK => ?_)
  go_simp
  refine hK _ _ (fun hkn => absurd hkn (by decide)) ?_
  clear hK K
  refine NoPanic.normal ?_
  subst he
  go_wp2_with (go_at_call 105; refine (l1End_any _ _ _ l0 l10 _).mono ?_; rintro e w' ⟨rfl, xc, rfl⟩)
  all_goals
    refine bodyPost_ret (v := .tuple #[.agg #[.int .i64 o, .int .i64 l, .int .i64 m, .slice a (ps).length cap, .int .i64 b, .int .i64 (last), .string q, .int .i64 (sz), .int .i64 ((ct : Int) + 1), .int .i64 (0)], .string ⟨#[]⟩]) (by simp [results, Tryz.results95, go_sem, ↓IntWalk.iteOmega, hbm] <;> omega) rfl ?_
    exact ⟨a, cap, rfl, .inl ⟨rfl, rfl, rfl⟩, (by repeat (first | exact More.refl _ | apply More.plus | apply More.alloc | apply More.drew | apply More.drewN))⟩

set_option maxRecDepth 100000 in
set_option maxHeartbeats 4000000 in
theorem l3Take_clear
    (o l m : Int) (a : Option Addr) (cap : Nat) (ps : List Pr) (b : Nat) (last : Int) (s : ByteArray) (sz ct : Nat) (w : World) (hr : RdP w a cap ps) (hkv : KV o l m ps (b : Int) last) (hbv : BV s.data.toList) (hss : s.size ≤ 100000) (n : Nat) (hn : wd l m ps.length last = n) (hns : n ≤ s.size) (hsz : sz ≤ 2000) (hct : ct < 3100) (c : Int) (hc : numL o (s.data.toList.take n) = c)
    (he : c = two l) (hf : ct + 1 ≠ 3100) :
    Calls Tryz.prog 95 #[.agg #[.int .i64 o, .int .i64 l, .int .i64 m, .slice a ps.length cap, .int .i64 b, .int .i64 last, .string s, .int .i64 sz, .int .i64 ct, .int .i64 1]] w
      (RetTk w a cap ps o l m b (ps.take b) (-1) (s.extract n s.size) (sz) ((ct : Int) + 1) (1) ⟨#[]⟩) := by
  have v9 : ((ct : Int) + 1 == 3100) = false := by simp; omega
  clear hf
  obtain ⟨ho, l1, l2, m1, m2⟩ := sv_iff.1 hkv.s
  have hs := hkv.s
  have l0 : 0 ≤ l := by omega
  have l10 : l ≤ 10 := by omega
  have hlim := hkv.lim
  obtain ⟨_, _, _, _, t1, t2, t3, t4⟩ := hlim.bds
  have hlen := kv_len (kvb_iff.2 hkv)
  have hlast := hlim.last
  have hb1 := hkv.b1
  have hbm : min b ps.length = b := Nat.min_eq_left (by omega)
  obtain ⟨wd1, wd2⟩ := wd_ten hlim
  rw [hn] at wd1 wd2
  have HN := Lib.hid hn
  have HLM := Lib.hid hlim
  have HK := Lib.hid hkv
  have HRP := Lib.hid hr
  obtain ⟨t, ht⟩ : ∃ t, s.extract 0 n = t := ⟨_, rfl⟩
  have htb : t.data.toList = s.data.toList.take n := by rw [← ht]; simp
  have hts : t.size = n := by rw [← bytes_len, htb, List.length_take, bytes_len]; omega
  have HTS := Lib.hid hts
  have HTV := Lib.hid (show BV t.data.toList by intro x hx; rw [htb] at hx; exact hbv x (List.mem_of_mem_take hx))
  have HTC := Lib.hid (show numL o t.data.toList = c by rw [htb]; exact hc)
  obtain ⟨q, hq⟩ : ∃ q, s.extract n s.size = q := ⟨_, rfl⟩
  rw [hq]
  clear hr hkv hbv hn hlim hc htb hts
  go_enter Tryz.func95, Tryz.ntmps95
  go_wp2_with (go_at_call 94; refine (l2Width_any _ _ _ _ _ _ _ _ _ HLM.out (by omega)).mono ?_; rintro e w' ⟨rfl, xc, rfl⟩; rw [HN.out])
  refine wp_region_pt 9 (fun w' => ∃ y, w' = plus _ y) (Plan.quiet 0 (Plan.quiet 1 (Plan.quiet 2 (Plan.quiet 3 (Plan.quiet 4 (Plan.quiet 5 (Plan.quiet 6 (Plan.quiet 7 (Plan.one 8 (Plan.one 9 Plan.done)))))))))) (by kernel_rfl) (by kernel_rfl) (⟨_, drew_is_plus _⟩) ?_
  refine wpPt_val rfl rfl ?_
  apply Exists.intro
  refine ⟨fun w' hS => ?_, ?_⟩
  focus (obtain ⟨y3, rfl⟩ := hS; simp [go_sem, ↓IntWalk.iteOmega, ht] <;> first | done | exact rfl | (rw [IntWalk.i64_in _ (by omega)]; exact rfl) | trace_state)
  refine wpPt_val rfl rfl ?_
  apply Exists.intro
  refine ⟨fun w' hS => ?_, ?_⟩
  focus (obtain ⟨y3, rfl⟩ := hS; simp [go_sem, ↓IntWalk.iteOmega, ht] <;> first | done | exact rfl | (rw [IntWalk.i64_in _ (by omega)]; exact rfl) | trace_state)
  refine wpPt_val rfl rfl ?_
  apply Exists.intro
  refine ⟨fun w' hS => ?_, ?_⟩
  focus (obtain ⟨y3, rfl⟩ := hS; simp [go_sem, ↓IntWalk.iteOmega, ht] <;> first | done | exact rfl | (rw [IntWalk.i64_in _ (by omega)]; exact rfl) | trace_state)
  refine wpPt_val rfl rfl ?_
  apply Exists.intro
  refine ⟨fun w' hS => ?_, ?_⟩
  focus (obtain ⟨y3, rfl⟩ := hS; simp [go_sem, ↓IntWalk.iteOmega, ht] <;> first | done | exact rfl | (rw [IntWalk.i64_in _ (by omega)]; exact rfl) | trace_state)
  refine wpPt_val rfl rfl ?_
  apply Exists.intro
  refine ⟨fun w' hS => ?_, ?_⟩
  focus (obtain ⟨y3, rfl⟩ := hS; simp [go_sem, ↓IntWalk.iteOmega, ht] <;> first | done | exact rfl | (rw [IntWalk.i64_in _ (by omega)]; exact rfl) | trace_state)
  refine wpPt_val rfl rfl ?_
  apply Exists.intro
  refine ⟨fun w' hS => ?_, ?_⟩
  focus (obtain ⟨y3, rfl⟩ := hS; simp [go_sem, ↓IntWalk.iteOmega, ht] <;> first | done | exact rfl | (rw [IntWalk.i64_in _ (by omega)]; exact rfl) | trace_state)
  refine wpPt_val rfl rfl ?_
  apply Exists.intro
  refine ⟨fun w' hS => ?_, ?_⟩
  focus (obtain ⟨y3, rfl⟩ := hS; simp [go_sem, ↓IntWalk.iteOmega, ht] <;> first | done | exact rfl | (rw [IntWalk.i64_in _ (by omega)]; exact rfl) | trace_state)
  refine wpPt_val rfl rfl ?_
  apply Exists.intro
  refine ⟨fun w' hS => ?_, ?_⟩
  focus (obtain ⟨y3, rfl⟩ := hS; simp [go_sem, ↓IntWalk.iteOmega, ht] <;> first | done | exact rfl | (rw [IntWalk.i64_in _ (by omega)]; exact rfl) | trace_state)
  refine wpPt_one rfl rfl (fun K hK => ?_)
  go_simp
  refine (l1Number_any o t _ ho (by have := HTS.out; omega) HTV.out).mono ?_
  rintro e w' ⟨rfl, x9, rfl⟩
  rw [HTC.out]
  refine hK _ _ (fun hkn => (by repeat (first | exact More.refl _ | (with_reducible apply more_seq) | (with_reducible apply more_draw) | apply More.plus | apply More.alloc | apply More.drew))) ?_
  clear hK K
  refine wpPt_one rfl rfl (fun K hK => ?_)
  go_simp
  refine hK _ _ (fun hkn => absurd hkn (by decide)) ?_
  clear hK K
  refine NoPanic.normal ?_
  subst he
  go_wp2_with (first | (go_at_call 105; refine (l1End_any _ _ _ l0 l10 _).mono ?_; rintro e w' ⟨rfl, xc, rfl⟩) | (go_at_call 107; refine (l1Clear_any _ _ _ l0 l10 _).mono ?_; rintro e w' ⟨rfl, xc, rfl⟩) | (go_at_call 114; refine (l2Cleared_any o l m a cap ps b last _ (by repeat (first | exact HRP.out | apply rd_seq | apply Rd.plus | apply Rd.alloc | apply Rd.drew | apply Rd.drewN | refine rd_patch ?_ _ _ (by intro A hA; first | (cases hA; show _ ≠ _; omega) | (have := hal A hA; omega)))) (by omega) hlen).mono ?_; rintro e w' ⟨A8, c8, rfl, hown8, x8, rfl⟩; (try simp only [plus_plus] at hown8); have HO8 := Lib.hid hown8; clear hown8))
  refine bodyPost_ret (v := .tuple #[.agg #[.int .i64 o, .int .i64 l, .int .i64 m, .slice A8 (ps.take b).length c8, .int .i64 b, .int .i64 (-1), .string q, .int .i64 (sz), .int .i64 ((ct : Int) + 1), .int .i64 (1)], .string ⟨#[]⟩]) (by simp [results, Tryz.results95, go_sem, ↓IntWalk.iteOmega, hbm] <;> omega) rfl ?_
  exact ⟨A8, c8, rfl, .inr (by repeat (first | exact (own_swap HO8.out (by simp) (by simp <;> omega)).lower (by simp <;> omega) | (with_reducible apply own_seq) | (with_reducible apply own_draw) | (with_reducible apply Own.plus) | (with_reducible apply Own.alloc) | (with_reducible apply Own.drew))), (by repeat (first | exact More.refl _ | apply More.plus | apply More.alloc | apply More.drew | apply More.drewN))⟩

set_option maxRecDepth 100000 in
set_option maxHeartbeats 4000000 in
theorem l3Take_clearf
    (o l m : Int) (a : Option Addr) (cap : Nat) (ps : List Pr) (b : Nat) (last : Int) (s : ByteArray) (sz ct : Nat) (w : World) (hr : RdP w a cap ps) (hkv : KV o l m ps (b : Int) last) (hbv : BV s.data.toList) (hss : s.size ≤ 100000) (n : Nat) (hn : wd l m ps.length last = n) (hns : n ≤ s.size) (hsz : sz ≤ 2000) (hct : ct < 3100) (c : Int) (hc : numL o (s.data.toList.take n) = c)
    (he : c = two l) (hf : ct + 1 = 3100) :
    Calls Tryz.prog 95 #[.agg #[.int .i64 o, .int .i64 l, .int .i64 m, .slice a ps.length cap, .int .i64 b, .int .i64 last, .string s, .int .i64 sz, .int .i64 ct, .int .i64 1]] w
      (RetTk w a cap ps o l m b (ps.take b) (-1) (s.extract n s.size) (sz) ((ct : Int) + 1) (3) ⟨#[]⟩) := by
  have v9 : ((ct : Int) + 1 == 3100) = true := by simp; omega
  clear hf
  obtain ⟨ho, l1, l2, m1, m2⟩ := sv_iff.1 hkv.s
  have hs := hkv.s
  have l0 : 0 ≤ l := by omega
  have l10 : l ≤ 10 := by omega
  have hlim := hkv.lim
  obtain ⟨_, _, _, _, t1, t2, t3, t4⟩ := hlim.bds
  have hlen := kv_len (kvb_iff.2 hkv)
  have hlast := hlim.last
  have hb1 := hkv.b1
  have hbm : min b ps.length = b := Nat.min_eq_left (by omega)
  obtain ⟨wd1, wd2⟩ := wd_ten hlim
  rw [hn] at wd1 wd2
  have HN := Lib.hid hn
  have HLM := Lib.hid hlim
  have HK := Lib.hid hkv
  have HRP := Lib.hid hr
  obtain ⟨t, ht⟩ : ∃ t, s.extract 0 n = t := ⟨_, rfl⟩
  have htb : t.data.toList = s.data.toList.take n := by rw [← ht]; simp
  have hts : t.size = n := by rw [← bytes_len, htb, List.length_take, bytes_len]; omega
  have HTS := Lib.hid hts
  have HTV := Lib.hid (show BV t.data.toList by intro x hx; rw [htb] at hx; exact hbv x (List.mem_of_mem_take hx))
  have HTC := Lib.hid (show numL o t.data.toList = c by rw [htb]; exact hc)
  obtain ⟨q, hq⟩ : ∃ q, s.extract n s.size = q := ⟨_, rfl⟩
  rw [hq]
  clear hr hkv hbv hn hlim hc htb hts
  go_enter Tryz.func95, Tryz.ntmps95
  go_wp2_with (go_at_call 94; refine (l2Width_any _ _ _ _ _ _ _ _ _ HLM.out (by omega)).mono ?_; rintro e w' ⟨rfl, xc, rfl⟩; rw [HN.out])
  refine wp_region_pt 9 (fun w' => ∃ y, w' = plus _ y) (Plan.quiet 0 (Plan.quiet 1 (Plan.quiet 2 (Plan.quiet 3 (Plan.quiet 4 (Plan.quiet 5 (Plan.quiet 6 (Plan.quiet 7 (Plan.one 8 (Plan.one 9 Plan.done)))))))))) (by kernel_rfl) (by kernel_rfl) (⟨_, drew_is_plus _⟩) ?_
  refine wpPt_val rfl rfl ?_
  apply Exists.intro
  refine ⟨fun w' hS => ?_, ?_⟩
  focus (obtain ⟨y3, rfl⟩ := hS; simp [go_sem, ↓IntWalk.iteOmega, ht] <;> first | done | exact rfl | (rw [IntWalk.i64_in _ (by omega)]; exact rfl) | trace_state)
  refine wpPt_val rfl rfl ?_
  apply Exists.intro
  refine ⟨fun w' hS => ?_, ?_⟩
  focus (obtain ⟨y3, rfl⟩ := hS; simp [go_sem, ↓IntWalk.iteOmega, ht] <;> first | done | exact rfl | (rw [IntWalk.i64_in _ (by omega)]; exact rfl) | trace_state)
  refine wpPt_val rfl rfl ?_
  apply Exists.intro
  refine ⟨fun w' hS => ?_, ?_⟩
  focus (obtain ⟨y3, rfl⟩ := hS; simp [go_sem, ↓IntWalk.iteOmega, ht] <;> first | done | exact rfl | (rw [IntWalk.i64_in _ (by omega)]; exact rfl) | trace_state)
  refine wpPt_val rfl rfl ?_
  apply Exists.intro
  refine ⟨fun w' hS => ?_, ?_⟩
  focus (obtain ⟨y3, rfl⟩ := hS; simp [go_sem, ↓IntWalk.iteOmega, ht] <;> first | done | exact rfl | (rw [IntWalk.i64_in _ (by omega)]; exact rfl) | trace_state)
  refine wpPt_val rfl rfl ?_
  apply Exists.intro
  refine ⟨fun w' hS => ?_, ?_⟩
  focus (obtain ⟨y3, rfl⟩ := hS; simp [go_sem, ↓IntWalk.iteOmega, ht] <;> first | done | exact rfl | (rw [IntWalk.i64_in _ (by omega)]; exact rfl) | trace_state)
  refine wpPt_val rfl rfl ?_
  apply Exists.intro
  refine ⟨fun w' hS => ?_, ?_⟩
  focus (obtain ⟨y3, rfl⟩ := hS; simp [go_sem, ↓IntWalk.iteOmega, ht] <;> first | done | exact rfl | (rw [IntWalk.i64_in _ (by omega)]; exact rfl) | trace_state)
  refine wpPt_val rfl rfl ?_
  apply Exists.intro
  refine ⟨fun w' hS => ?_, ?_⟩
  focus (obtain ⟨y3, rfl⟩ := hS; simp [go_sem, ↓IntWalk.iteOmega, ht] <;> first | done | exact rfl | (rw [IntWalk.i64_in _ (by omega)]; exact rfl) | trace_state)
  refine wpPt_val rfl rfl ?_
  apply Exists.intro
  refine ⟨fun w' hS => ?_, ?_⟩
  focus (obtain ⟨y3, rfl⟩ := hS; simp [go_sem, ↓IntWalk.iteOmega, ht] <;> first | done | exact rfl | (rw [IntWalk.i64_in _ (by omega)]; exact rfl) | trace_state)
  refine wpPt_one rfl rfl (fun K hK => ?_)
  go_simp
  refine (l1Number_any o t _ ho (by have := HTS.out; omega) HTV.out).mono ?_
  rintro e w' ⟨rfl, x9, rfl⟩
  rw [HTC.out]
  refine hK _ _ (fun hkn => (by repeat (first | exact More.refl _ | (with_reducible apply more_seq) | (with_reducible apply more_draw) | apply More.plus | apply More.alloc | apply More.drew))) ?_
  clear hK K
  refine wpPt_one rfl rfl (fun K hK => ?_)
  go_simp
  refine hK _ _ (fun hkn => absurd hkn (by decide)) ?_
  clear hK K
  refine NoPanic.normal ?_
  subst he
  go_wp2_with (first | (go_at_call 105; refine (l1End_any _ _ _ l0 l10 _).mono ?_; rintro e w' ⟨rfl, xc, rfl⟩) | (go_at_call 107; refine (l1Clear_any _ _ _ l0 l10 _).mono ?_; rintro e w' ⟨rfl, xc, rfl⟩) | (go_at_call 114; refine (l2Cleared_any o l m a cap ps b last _ (by repeat (first | exact HRP.out | apply rd_seq | apply Rd.plus | apply Rd.alloc | apply Rd.drew | apply Rd.drewN | refine rd_patch ?_ _ _ (by intro A hA; first | (cases hA; show _ ≠ _; omega) | (have := hal A hA; omega)))) (by omega) hlen).mono ?_; rintro e w' ⟨A8, c8, rfl, hown8, x8, rfl⟩; (try simp only [plus_plus] at hown8); have HO8 := Lib.hid hown8; clear hown8))
  refine bodyPost_ret (v := .tuple #[.agg #[.int .i64 o, .int .i64 l, .int .i64 m, .slice A8 (ps.take b).length c8, .int .i64 b, .int .i64 (-1), .string q, .int .i64 (sz), .int .i64 ((ct : Int) + 1), .int .i64 (3)], .string ⟨#[]⟩]) (by simp [results, Tryz.results95, go_sem, ↓IntWalk.iteOmega, hbm] <;> omega) rfl ?_
  exact ⟨A8, c8, rfl, .inr (by repeat (first | exact (own_swap HO8.out (by simp) (by simp <;> omega)).lower (by simp <;> omega) | (with_reducible apply own_seq) | (with_reducible apply own_draw) | (with_reducible apply Own.plus) | (with_reducible apply Own.alloc) | (with_reducible apply Own.drew))), (by repeat (first | exact More.refl _ | apply More.plus | apply More.alloc | apply More.drew | apply More.drewN))⟩

set_option maxRecDepth 100000 in
set_option maxHeartbeats 4000000 in
theorem l3Take_wrong
    (o l m : Int) (a : Option Addr) (cap : Nat) (ps : List Pr) (b : Nat) (last : Int) (s : ByteArray) (sz ct : Nat) (w : World) (hr : RdP w a cap ps) (hkv : KV o l m ps (b : Int) last) (hbv : BV s.data.toList) (hss : s.size ≤ 100000) (n : Nat) (hn : wd l m ps.length last = n) (hns : n ≤ s.size) (hsz : sz ≤ 2000) (hct : ct < 3100) (c : Int) (hc : numL o (s.data.toList.take n) = c)
    (h1 : c ≠ two l + 1) (h2 : c ≠ two l) (hfo : folB l m ps.length last c = false) :
    Calls Tryz.prog 95 #[.agg #[.int .i64 o, .int .i64 l, .int .i64 m, .slice a ps.length cap, .int .i64 b, .int .i64 last, .string s, .int .i64 sz, .int .i64 ct, .int .i64 1]] w
      (RetTk w a cap ps o l m b (ps) (last) (s.extract n s.size) (sz) (ct) (2) ⟨#[]⟩) := by
  have v1 : (c == two l + 1) = false := by simp [h1]
  have v2 : (c == two l) = false := by simp [h2]
  clear h1 h2
  obtain ⟨ho, l1, l2, m1, m2⟩ := sv_iff.1 hkv.s
  have hs := hkv.s
  have l0 : 0 ≤ l := by omega
  have l10 : l ≤ 10 := by omega
  have hlim := hkv.lim
  obtain ⟨_, _, _, _, t1, t2, t3, t4⟩ := hlim.bds
  have hlen := kv_len (kvb_iff.2 hkv)
  have hlast := hlim.last
  have hb1 := hkv.b1
  have hbm : min b ps.length = b := Nat.min_eq_left (by omega)
  obtain ⟨wd1, wd2⟩ := wd_ten hlim
  rw [hn] at wd1 wd2
  have HN := Lib.hid hn
  have HLM := Lib.hid hlim
  have HK := Lib.hid hkv
  have HRP := Lib.hid hr
  obtain ⟨t, ht⟩ : ∃ t, s.extract 0 n = t := ⟨_, rfl⟩
  have htb : t.data.toList = s.data.toList.take n := by rw [← ht]; simp
  have hts : t.size = n := by rw [← bytes_len, htb, List.length_take, bytes_len]; omega
  have HTS := Lib.hid hts
  have HTV := Lib.hid (show BV t.data.toList by intro x hx; rw [htb] at hx; exact hbv x (List.mem_of_mem_take hx))
  have HTC := Lib.hid (show numL o t.data.toList = c by rw [htb]; exact hc)
  obtain ⟨q, hq⟩ : ∃ q, s.extract n s.size = q := ⟨_, rfl⟩
  rw [hq]
  clear hr hkv hbv hn hlim hc htb hts
  go_enter Tryz.func95, Tryz.ntmps95
  go_wp2_with (go_at_call 94; refine (l2Width_any _ _ _ _ _ _ _ _ _ HLM.out (by omega)).mono ?_; rintro e w' ⟨rfl, xc, rfl⟩; rw [HN.out])
  refine wp_region_pt 9 (fun w' => ∃ y, w' = plus _ y) (Plan.quiet 0 (Plan.quiet 1 (Plan.quiet 2 (Plan.quiet 3 (Plan.quiet 4 (Plan.quiet 5 (Plan.quiet 6 (Plan.quiet 7 (Plan.one 8 (Plan.one 9 Plan.done)))))))))) (by kernel_rfl) (by kernel_rfl) (⟨_, drew_is_plus _⟩) ?_
  refine wpPt_val rfl rfl ?_
  apply Exists.intro
  refine ⟨fun w' hS => ?_, ?_⟩
  focus (obtain ⟨y3, rfl⟩ := hS; simp [go_sem, ↓IntWalk.iteOmega, ht] <;> first | done | exact rfl | (rw [IntWalk.i64_in _ (by omega)]; exact rfl) | trace_state)
  refine wpPt_val rfl rfl ?_
  apply Exists.intro
  refine ⟨fun w' hS => ?_, ?_⟩
  focus (obtain ⟨y3, rfl⟩ := hS; simp [go_sem, ↓IntWalk.iteOmega, ht] <;> first | done | exact rfl | (rw [IntWalk.i64_in _ (by omega)]; exact rfl) | trace_state)
  refine wpPt_val rfl rfl ?_
  apply Exists.intro
  refine ⟨fun w' hS => ?_, ?_⟩
  focus (obtain ⟨y3, rfl⟩ := hS; simp [go_sem, ↓IntWalk.iteOmega, ht] <;> first | done | exact rfl | (rw [IntWalk.i64_in _ (by omega)]; exact rfl) | trace_state)
  refine wpPt_val rfl rfl ?_
  apply Exists.intro
  refine ⟨fun w' hS => ?_, ?_⟩
  focus (obtain ⟨y3, rfl⟩ := hS; simp [go_sem, ↓IntWalk.iteOmega, ht] <;> first | done | exact rfl | (rw [IntWalk.i64_in _ (by omega)]; exact rfl) | trace_state)
  refine wpPt_val rfl rfl ?_
  apply Exists.intro
  refine ⟨fun w' hS => ?_, ?_⟩
  focus (obtain ⟨y3, rfl⟩ := hS; simp [go_sem, ↓IntWalk.iteOmega, ht] <;> first | done | exact rfl | (rw [IntWalk.i64_in _ (by omega)]; exact rfl) | trace_state)
  refine wpPt_val rfl rfl ?_
  apply Exists.intro
  refine ⟨fun w' hS => ?_, ?_⟩
  focus (obtain ⟨y3, rfl⟩ := hS; simp [go_sem, ↓IntWalk.iteOmega, ht] <;> first | done | exact rfl | (rw [IntWalk.i64_in _ (by omega)]; exact rfl) | trace_state)
  refine wpPt_val rfl rfl ?_
  apply Exists.intro
  refine ⟨fun w' hS => ?_, ?_⟩
  focus (obtain ⟨y3, rfl⟩ := hS; simp [go_sem, ↓IntWalk.iteOmega, ht] <;> first | done | exact rfl | (rw [IntWalk.i64_in _ (by omega)]; exact rfl) | trace_state)
  refine wpPt_val rfl rfl ?_
  apply Exists.intro
  refine ⟨fun w' hS => ?_, ?_⟩
  focus (obtain ⟨y3, rfl⟩ := hS; simp [go_sem, ↓IntWalk.iteOmega, ht] <;> first | done | exact rfl | (rw [IntWalk.i64_in _ (by omega)]; exact rfl) | trace_state)
  refine wpPt_one rfl rfl (fun K hK => ?_)
  go_simp
  refine (l1Number_any o t _ ho (by have := HTS.out; omega) HTV.out).mono ?_
  rintro e w' ⟨rfl, x9, rfl⟩
  rw [HTC.out]
  refine hK _ _ (fun hkn => (by repeat (first | exact More.refl _ | (with_reducible apply more_seq) | (with_reducible apply more_draw) | apply More.plus | apply More.alloc | apply More.drew))) ?_
  clear hK K
  refine wpPt_one rfl rfl (fun K hK => ?_)
  go_simp
  refine hK _ _ (fun hkn => absurd hkn (by decide)) ?_
  clear hK K
  refine NoPanic.normal ?_
  go_wp2_with (first | (go_at_call 105; refine (l1End_any _ _ _ l0 l10 _).mono ?_; rintro e w' ⟨rfl, xc, rfl⟩) | (go_at_call 107; refine (l1Clear_any _ _ _ l0 l10 _).mono ?_; rintro e w' ⟨rfl, xc, rfl⟩) | (go_at_call 134; refine (l2Follows_any _ _ _ _ _ _ _ _ _ _ hs (by omega) hlast).mono ?_; rintro e w' ⟨rfl, xf, rfl⟩; rw [hfo]))
  refine bodyPost_ret (v := .tuple #[.agg #[.int .i64 o, .int .i64 l, .int .i64 m, .slice a (ps).length cap, .int .i64 b, .int .i64 (last), .string q, .int .i64 (sz), .int .i64 (ct), .int .i64 (2)], .string ⟨#[]⟩]) (by simp [results, Tryz.results95, go_sem, ↓IntWalk.iteOmega, hbm] <;> omega) rfl ?_
  exact ⟨a, cap, rfl, .inl ⟨rfl, rfl, rfl⟩, (by repeat (first | exact More.refl _ | apply More.plus | apply More.alloc | apply More.drew | apply More.drewN))⟩

set_option maxRecDepth 100000 in
set_option maxHeartbeats 4000000 in
theorem l3Take_long
    (o l m : Int) (a : Option Addr) (cap : Nat) (ps : List Pr) (b : Nat) (last : Int) (s : ByteArray) (sz ct : Nat) (w : World) (hr : RdP w a cap ps) (hkv : KV o l m ps (b : Int) last) (hbv : BV s.data.toList) (hss : s.size ≤ 100000) (n : Nat) (hn : wd l m ps.length last = n) (hns : n ≤ s.size) (hsz : sz ≤ 2000) (hct : ct < 3100) (c : Int) (hc : numL o (s.data.toList.take n) = c)
    (h1 : c ≠ two l + 1) (h2 : c ≠ two l) (hfo : folB l m ps.length last c = true) (hd : 2000 < sz + (anyW l ps last c).length) :
    Calls Tryz.prog 95 #[.agg #[.int .i64 o, .int .i64 l, .int .i64 m, .slice a ps.length cap, .int .i64 b, .int .i64 last, .string s, .int .i64 sz, .int .i64 ct, .int .i64 1]] w
      (RetTk w a cap ps o l m b (ps) (last) (s.extract n s.size) (sz) (ct) (3) ⟨#[]⟩) := by
  have v1 : (c == two l + 1) = false := by simp [h1]
  have v2 : (c == two l) = false := by simp [h2]
  have HOK := Lib.hid (folB_iff.1 hfo)
  obtain ⟨y2, hy2⟩ : ∃ y2, bstr (anyW l ps last c) = y2 := ⟨_, rfl⟩
  have hyl : y2.size = (anyW l ps last c).length := by rw [← hy2, bstr_size]
  have hab := any_bd hkv HOK.out
  rw [← hyl] at hab hd
  have HY2 := Lib.hid hy2
  have v3 : decide (2000 < (sz : Int) + y2.size) = true := by simp; omega
  have hwz : IntKind.i64.wrap ((sz : Int) + y2.size) = (sz : Int) + y2.size := IntWalk.i64_in _ (by omega)
  clear h1 h2 hd hy2 hyl
  obtain ⟨ho, l1, l2, m1, m2⟩ := sv_iff.1 hkv.s
  have hs := hkv.s
  have l0 : 0 ≤ l := by omega
  have l10 : l ≤ 10 := by omega
  have hlim := hkv.lim
  obtain ⟨_, _, _, _, t1, t2, t3, t4⟩ := hlim.bds
  have hlen := kv_len (kvb_iff.2 hkv)
  have hlast := hlim.last
  have hb1 := hkv.b1
  have hbm : min b ps.length = b := Nat.min_eq_left (by omega)
  obtain ⟨wd1, wd2⟩ := wd_ten hlim
  rw [hn] at wd1 wd2
  have HN := Lib.hid hn
  have HLM := Lib.hid hlim
  have HK := Lib.hid hkv
  have HRP := Lib.hid hr
  obtain ⟨t, ht⟩ : ∃ t, s.extract 0 n = t := ⟨_, rfl⟩
  have htb : t.data.toList = s.data.toList.take n := by rw [← ht]; simp
  have hts : t.size = n := by rw [← bytes_len, htb, List.length_take, bytes_len]; omega
  have HTS := Lib.hid hts
  have HTV := Lib.hid (show BV t.data.toList by intro x hx; rw [htb] at hx; exact hbv x (List.mem_of_mem_take hx))
  have HTC := Lib.hid (show numL o t.data.toList = c by rw [htb]; exact hc)
  obtain ⟨q, hq⟩ : ∃ q, s.extract n s.size = q := ⟨_, rfl⟩
  rw [hq]
  clear hr hkv hbv hn hlim hc htb hts
  go_enter Tryz.func95, Tryz.ntmps95
  go_wp2_with (go_at_call 94; refine (l2Width_any _ _ _ _ _ _ _ _ _ HLM.out (by omega)).mono ?_; rintro e w' ⟨rfl, xc, rfl⟩; rw [HN.out])
  refine wp_region_pt 9 (fun w' => ∃ y, w' = plus _ y) (Plan.quiet 0 (Plan.quiet 1 (Plan.quiet 2 (Plan.quiet 3 (Plan.quiet 4 (Plan.quiet 5 (Plan.quiet 6 (Plan.quiet 7 (Plan.one 8 (Plan.one 9 Plan.done)))))))))) (by kernel_rfl) (by kernel_rfl) (⟨_, drew_is_plus _⟩) ?_
  refine wpPt_val rfl rfl ?_
  apply Exists.intro
  refine ⟨fun w' hS => ?_, ?_⟩
  focus (obtain ⟨y3, rfl⟩ := hS; simp [go_sem, ↓IntWalk.iteOmega, ht] <;> first | done | exact rfl | (rw [IntWalk.i64_in _ (by omega)]; exact rfl) | trace_state)
  refine wpPt_val rfl rfl ?_
  apply Exists.intro
  refine ⟨fun w' hS => ?_, ?_⟩
  focus (obtain ⟨y3, rfl⟩ := hS; simp [go_sem, ↓IntWalk.iteOmega, ht] <;> first | done | exact rfl | (rw [IntWalk.i64_in _ (by omega)]; exact rfl) | trace_state)
  refine wpPt_val rfl rfl ?_
  apply Exists.intro
  refine ⟨fun w' hS => ?_, ?_⟩
  focus (obtain ⟨y3, rfl⟩ := hS; simp [go_sem, ↓IntWalk.iteOmega, ht] <;> first | done | exact rfl | (rw [IntWalk.i64_in _ (by omega)]; exact rfl) | trace_state)
  refine wpPt_val rfl rfl ?_
  apply Exists.intro
  refine ⟨fun w' hS => ?_, ?_⟩
  focus (obtain ⟨y3, rfl⟩ := hS; simp [go_sem, ↓IntWalk.iteOmega, ht] <;> first | done | exact rfl | (rw [IntWalk.i64_in _ (by omega)]; exact rfl) | trace_state)
  refine wpPt_val rfl rfl ?_
  apply Exists.intro
  refine ⟨fun w' hS => ?_, ?_⟩
  focus (obtain ⟨y3, rfl⟩ := hS; simp [go_sem, ↓IntWalk.iteOmega, ht] <;> first | done | exact rfl | (rw [IntWalk.i64_in _ (by omega)]; exact rfl) | trace_state)
  refine wpPt_val rfl rfl ?_
  apply Exists.intro
  refine ⟨fun w' hS => ?_, ?_⟩
  focus (obtain ⟨y3, rfl⟩ := hS; simp [go_sem, ↓IntWalk.iteOmega, ht] <;> first | done | exact rfl | (rw [IntWalk.i64_in _ (by omega)]; exact rfl) | trace_state)
  refine wpPt_val rfl rfl ?_
  apply Exists.intro
  refine ⟨fun w' hS => ?_, ?_⟩
  focus (obtain ⟨y3, rfl⟩ := hS; simp [go_sem, ↓IntWalk.iteOmega, ht] <;> first | done | exact rfl | (rw [IntWalk.i64_in _ (by omega)]; exact rfl) | trace_state)
  refine wpPt_val rfl rfl ?_
  apply Exists.intro
  refine ⟨fun w' hS => ?_, ?_⟩
  focus (obtain ⟨y3, rfl⟩ := hS; simp [go_sem, ↓IntWalk.iteOmega, ht] <;> first | done | exact rfl | (rw [IntWalk.i64_in _ (by omega)]; exact rfl) | trace_state)
  refine wpPt_one rfl rfl (fun K hK => ?_)
  go_simp
  refine (l1Number_any o t _ ho (by have := HTS.out; omega) HTV.out).mono ?_
  rintro e w' ⟨rfl, x9, rfl⟩
  rw [HTC.out]
  refine hK _ _ (fun hkn => (by repeat (first | exact More.refl _ | (with_reducible apply more_seq) | (with_reducible apply more_draw) | apply More.plus | apply More.alloc | apply More.drew))) ?_
  clear hK K
  refine wpPt_one rfl rfl (fun K hK => ?_)
  go_simp
  refine hK _ _ (fun hkn => absurd hkn (by decide)) ?_
  clear hK K
  refine NoPanic.normal ?_
  go_wp2_with (first | (go_at_call 105; refine (l1End_any _ _ _ l0 l10 _).mono ?_; rintro e w' ⟨rfl, xc, rfl⟩) | (go_at_call 107; refine (l1Clear_any _ _ _ l0 l10 _).mono ?_; rintro e w' ⟨rfl, xc, rfl⟩) | (go_at_call 134; refine (l2Follows_any _ _ _ _ _ _ _ _ _ _ hs (by omega) hlast).mono ?_; rintro e w' ⟨rfl, xf, rfl⟩; rw [hfo]))
  refine wp_region_pu 7 (fun w' => ∃ y, w' = plus _ y) (Plan.quiet 0 (Plan.quiet 1 (Plan.quiet 2 (Plan.quiet 3 (Plan.quiet 4 (Plan.one 5 (Plan.quiet 6 (Plan.one 7 (Plan.one 8 (Plan.one 9 Plan.done)))))))))) (by kernel_rfl) (by kernel_rfl) (⟨_, drew_is_plus _⟩) ?_
  refine wpPt_val rfl rfl ?_
  apply Exists.intro
  refine ⟨fun w' hS => ?_, ?_⟩
  focus (obtain ⟨y3, rfl⟩ := hS; simp [go_sem, ↓IntWalk.iteOmega] <;> first | done | exact rfl | (rw [IntWalk.i64_in _ (by omega)]; exact rfl) | trace_state)
  refine wpPt_val rfl rfl ?_
  apply Exists.intro
  refine ⟨fun w' hS => ?_, ?_⟩
  focus (obtain ⟨y3, rfl⟩ := hS; simp [go_sem, ↓IntWalk.iteOmega] <;> first | done | exact rfl | (rw [IntWalk.i64_in _ (by omega)]; exact rfl) | trace_state)
  refine wpPt_val rfl rfl ?_
  apply Exists.intro
  refine ⟨fun w' hS => ?_, ?_⟩
  focus (obtain ⟨y3, rfl⟩ := hS; simp [go_sem, ↓IntWalk.iteOmega] <;> first | done | exact rfl | (rw [IntWalk.i64_in _ (by omega)]; exact rfl) | trace_state)
  refine wpPt_val rfl rfl ?_
  apply Exists.intro
  refine ⟨fun w' hS => ?_, ?_⟩
  focus (obtain ⟨y3, rfl⟩ := hS; simp [go_sem, ↓IntWalk.iteOmega] <;> first | done | exact rfl | (rw [IntWalk.i64_in _ (by omega)]; exact rfl) | trace_state)
  refine wpPt_val rfl rfl ?_
  apply Exists.intro
  refine ⟨fun w' hS => ?_, ?_⟩
  focus (obtain ⟨y3, rfl⟩ := hS; simp [go_sem, ↓IntWalk.iteOmega] <;> first | done | exact rfl | (rw [IntWalk.i64_in _ (by omega)]; exact rfl) | trace_state)
  refine wpPt_one rfl rfl (fun K hK => ?_)
  go_simp
  refine (l2Any_any o l m a cap ps b last c _ (by repeat (first | exact HRP.out | apply rd_seq | apply Rd.plus | apply Rd.alloc | apply Rd.drew | apply Rd.drewN | refine rd_patch ?_ _ _ (by intro A hA; first | (cases hA; show _ ≠ _; omega) | (have := hal A hA; omega)))) HK.out HOK.out).mono ?_
  rintro e w' ⟨rfl, xa, rfl⟩
  rw [HY2.out]
  refine hK _ _ (fun hkn => (by repeat (first | exact More.refl _ | (with_reducible apply more_seq) | (with_reducible apply more_draw) | apply More.plus | apply More.alloc | apply More.drew))) ?_
  clear hK K
  refine wpPt_val rfl rfl ?_
  apply Exists.intro
  refine ⟨fun w' hS => ?_, ?_⟩
  focus (obtain ⟨y3, rfl⟩ := hS; simp [go_sem, ↓IntWalk.iteOmega] <;> first | done | exact rfl | (rw [IntWalk.i64_in _ (by omega)]; exact rfl) | trace_state)
  refine wpPt_one rfl rfl (fun K hK => ?_)
  go_simp
  refine hK _ _ (fun hkn => absurd hkn (by decide)) ?_
  clear hK K
  refine wpPt_one rfl rfl (fun K hK => ?_)
  go_simp
  refine hK _ _ (fun hkn => absurd hkn (by decide)) ?_
  clear hK K
  refine wpPt_one rfl rfl (fun K hK => ?_)
  go_simp
  refine hK _ _ (fun hkn => absurd hkn (by decide)) ?_
  clear hK K
  refine NoPanic.normal ?_
  go_wp2_with fail
  refine bodyPost_ret (v := .tuple #[.agg #[.int .i64 o, .int .i64 l, .int .i64 m, .slice a (ps).length cap, .int .i64 b, .int .i64 (last), .string q, .int .i64 (sz), .int .i64 (ct), .int .i64 (3)], .string ⟨#[]⟩]) (by simp [results, Tryz.results95, go_sem, ↓IntWalk.iteOmega, hbm] <;> omega) rfl ?_
  exact ⟨a, cap, rfl, .inl ⟨rfl, rfl, rfl⟩, (by repeat (first | exact More.refl _ | apply More.plus | apply More.alloc | apply More.drew | apply More.drewN))⟩

set_option maxRecDepth 100000 in
set_option maxHeartbeats 4000000 in
theorem l3Take_word
    (o l m : Int) (a : Option Addr) (cap : Nat) (ps : List Pr) (b : Nat) (last : Int) (s : ByteArray) (sz ct : Nat) (w : World) (hr : RdP w a cap ps) (hkv : KV o l m ps (b : Int) last) (hbv : BV s.data.toList) (hss : s.size ≤ 100000) (n : Nat) (hn : wd l m ps.length last = n) (hns : n ≤ s.size) (hsz : sz ≤ 2000) (hct : ct < 3100) (c : Int) (hc : numL o (s.data.toList.take n) = c)
    (h1 : c ≠ two l + 1) (h2 : c ≠ two l) (hfo : folB l m ps.length last c = true) (hd : ¬ 2000 < sz + (anyW l ps last c).length) (hf : ct + 1 ≠ 3100) :
    Calls Tryz.prog 95 #[.agg #[.int .i64 o, .int .i64 l, .int .i64 m, .slice a ps.length cap, .int .i64 b, .int .i64 last, .string s, .int .i64 sz, .int .i64 ct, .int .i64 1]] w
      (RetTk w a cap ps o l m b (aftP l m ps last c) (c) (s.extract n s.size) ((sz : Int) + (anyW l ps last c).length) ((ct : Int) + 1) (1) (bstr (anyW l ps last c))) := by
  have v9 : ((ct : Int) + 1 == 3100) = false := by simp; omega
  clear hf
  have v1 : (c == two l + 1) = false := by simp [h1]
  have v2 : (c == two l) = false := by simp [h2]
  have HOK := Lib.hid (folB_iff.1 hfo)
  obtain ⟨y2, hy2⟩ : ∃ y2, bstr (anyW l ps last c) = y2 := ⟨_, rfl⟩
  have hyl : y2.size = (anyW l ps last c).length := by rw [← hy2, bstr_size]
  have hab := any_bd hkv HOK.out
  rw [← hyl] at hab hd
  have HY2 := Lib.hid hy2
  have v3 : decide (2000 < (sz : Int) + y2.size) = false := by simp; omega
  have hwz : IntKind.i64.wrap ((sz : Int) + y2.size) = (sz : Int) + y2.size := IntWalk.i64_in _ (by omega)
  rw [hy2, ← hyl]
  clear h1 h2 hd hy2 hyl
  obtain ⟨ho, l1, l2, m1, m2⟩ := sv_iff.1 hkv.s
  have hs := hkv.s
  have l0 : 0 ≤ l := by omega
  have l10 : l ≤ 10 := by omega
  have hlim := hkv.lim
  obtain ⟨_, _, _, _, t1, t2, t3, t4⟩ := hlim.bds
  have hlen := kv_len (kvb_iff.2 hkv)
  have hlast := hlim.last
  have hb1 := hkv.b1
  have hbm : min b ps.length = b := Nat.min_eq_left (by omega)
  obtain ⟨wd1, wd2⟩ := wd_ten hlim
  rw [hn] at wd1 wd2
  have HN := Lib.hid hn
  have HLM := Lib.hid hlim
  have HK := Lib.hid hkv
  have HRP := Lib.hid hr
  obtain ⟨t, ht⟩ : ∃ t, s.extract 0 n = t := ⟨_, rfl⟩
  have htb : t.data.toList = s.data.toList.take n := by rw [← ht]; simp
  have hts : t.size = n := by rw [← bytes_len, htb, List.length_take, bytes_len]; omega
  have HTS := Lib.hid hts
  have HTV := Lib.hid (show BV t.data.toList by intro x hx; rw [htb] at hx; exact hbv x (List.mem_of_mem_take hx))
  have HTC := Lib.hid (show numL o t.data.toList = c by rw [htb]; exact hc)
  obtain ⟨q, hq⟩ : ∃ q, s.extract n s.size = q := ⟨_, rfl⟩
  rw [hq]
  clear hr hkv hbv hn hlim hc htb hts
  go_enter Tryz.func95, Tryz.ntmps95
  go_wp2_with (go_at_call 94; refine (l2Width_any _ _ _ _ _ _ _ _ _ HLM.out (by omega)).mono ?_; rintro e w' ⟨rfl, xc, rfl⟩; rw [HN.out])
  refine wp_region_pt 9 (fun w' => ∃ y, w' = plus _ y) (Plan.quiet 0 (Plan.quiet 1 (Plan.quiet 2 (Plan.quiet 3 (Plan.quiet 4 (Plan.quiet 5 (Plan.quiet 6 (Plan.quiet 7 (Plan.one 8 (Plan.one 9 Plan.done)))))))))) (by kernel_rfl) (by kernel_rfl) (⟨_, drew_is_plus _⟩) ?_
  refine wpPt_val rfl rfl ?_
  apply Exists.intro
  refine ⟨fun w' hS => ?_, ?_⟩
  focus (obtain ⟨y3, rfl⟩ := hS; simp [go_sem, ↓IntWalk.iteOmega, ht] <;> first | done | exact rfl | (rw [IntWalk.i64_in _ (by omega)]; exact rfl) | trace_state)
  refine wpPt_val rfl rfl ?_
  apply Exists.intro
  refine ⟨fun w' hS => ?_, ?_⟩
  focus (obtain ⟨y3, rfl⟩ := hS; simp [go_sem, ↓IntWalk.iteOmega, ht] <;> first | done | exact rfl | (rw [IntWalk.i64_in _ (by omega)]; exact rfl) | trace_state)
  refine wpPt_val rfl rfl ?_
  apply Exists.intro
  refine ⟨fun w' hS => ?_, ?_⟩
  focus (obtain ⟨y3, rfl⟩ := hS; simp [go_sem, ↓IntWalk.iteOmega, ht] <;> first | done | exact rfl | (rw [IntWalk.i64_in _ (by omega)]; exact rfl) | trace_state)
  refine wpPt_val rfl rfl ?_
  apply Exists.intro
  refine ⟨fun w' hS => ?_, ?_⟩
  focus (obtain ⟨y3, rfl⟩ := hS; simp [go_sem, ↓IntWalk.iteOmega, ht] <;> first | done | exact rfl | (rw [IntWalk.i64_in _ (by omega)]; exact rfl) | trace_state)
  refine wpPt_val rfl rfl ?_
  apply Exists.intro
  refine ⟨fun w' hS => ?_, ?_⟩
  focus (obtain ⟨y3, rfl⟩ := hS; simp [go_sem, ↓IntWalk.iteOmega, ht] <;> first | done | exact rfl | (rw [IntWalk.i64_in _ (by omega)]; exact rfl) | trace_state)
  refine wpPt_val rfl rfl ?_
  apply Exists.intro
  refine ⟨fun w' hS => ?_, ?_⟩
  focus (obtain ⟨y3, rfl⟩ := hS; simp [go_sem, ↓IntWalk.iteOmega, ht] <;> first | done | exact rfl | (rw [IntWalk.i64_in _ (by omega)]; exact rfl) | trace_state)
  refine wpPt_val rfl rfl ?_
  apply Exists.intro
  refine ⟨fun w' hS => ?_, ?_⟩
  focus (obtain ⟨y3, rfl⟩ := hS; simp [go_sem, ↓IntWalk.iteOmega, ht] <;> first | done | exact rfl | (rw [IntWalk.i64_in _ (by omega)]; exact rfl) | trace_state)
  refine wpPt_val rfl rfl ?_
  apply Exists.intro
  refine ⟨fun w' hS => ?_, ?_⟩
  focus (obtain ⟨y3, rfl⟩ := hS; simp [go_sem, ↓IntWalk.iteOmega, ht] <;> first | done | exact rfl | (rw [IntWalk.i64_in _ (by omega)]; exact rfl) | trace_state)
  refine wpPt_one rfl rfl (fun K hK => ?_)
  go_simp
  refine (l1Number_any o t _ ho (by have := HTS.out; omega) HTV.out).mono ?_
  rintro e w' ⟨rfl, x9, rfl⟩
  rw [HTC.out]
  refine hK _ _ (fun hkn => (by repeat (first | exact More.refl _ | (with_reducible apply more_seq) | (with_reducible apply more_draw) | apply More.plus | apply More.alloc | apply More.drew))) ?_
  clear hK K
  refine wpPt_one rfl rfl (fun K hK => ?_)
  go_simp
  refine hK _ _ (fun hkn => absurd hkn (by decide)) ?_
  clear hK K
  refine NoPanic.normal ?_
  go_wp2_with (first | (go_at_call 105; refine (l1End_any _ _ _ l0 l10 _).mono ?_; rintro e w' ⟨rfl, xc, rfl⟩) | (go_at_call 107; refine (l1Clear_any _ _ _ l0 l10 _).mono ?_; rintro e w' ⟨rfl, xc, rfl⟩) | (go_at_call 134; refine (l2Follows_any _ _ _ _ _ _ _ _ _ _ hs (by omega) hlast).mono ?_; rintro e w' ⟨rfl, xf, rfl⟩; rw [hfo]))
  refine wp_region_pu 7 (fun w' => ∃ y, w' = plus _ y) (Plan.quiet 0 (Plan.quiet 1 (Plan.quiet 2 (Plan.quiet 3 (Plan.quiet 4 (Plan.one 5 (Plan.quiet 6 (Plan.one 7 (Plan.one 8 (Plan.one 9 Plan.done)))))))))) (by kernel_rfl) (by kernel_rfl) (⟨_, drew_is_plus _⟩) ?_
  refine wpPt_val rfl rfl ?_
  apply Exists.intro
  refine ⟨fun w' hS => ?_, ?_⟩
  focus (obtain ⟨y3, rfl⟩ := hS; simp [go_sem, ↓IntWalk.iteOmega] <;> first | done | exact rfl | (rw [IntWalk.i64_in _ (by omega)]; exact rfl) | trace_state)
  refine wpPt_val rfl rfl ?_
  apply Exists.intro
  refine ⟨fun w' hS => ?_, ?_⟩
  focus (obtain ⟨y3, rfl⟩ := hS; simp [go_sem, ↓IntWalk.iteOmega] <;> first | done | exact rfl | (rw [IntWalk.i64_in _ (by omega)]; exact rfl) | trace_state)
  refine wpPt_val rfl rfl ?_
  apply Exists.intro
  refine ⟨fun w' hS => ?_, ?_⟩
  focus (obtain ⟨y3, rfl⟩ := hS; simp [go_sem, ↓IntWalk.iteOmega] <;> first | done | exact rfl | (rw [IntWalk.i64_in _ (by omega)]; exact rfl) | trace_state)
  refine wpPt_val rfl rfl ?_
  apply Exists.intro
  refine ⟨fun w' hS => ?_, ?_⟩
  focus (obtain ⟨y3, rfl⟩ := hS; simp [go_sem, ↓IntWalk.iteOmega] <;> first | done | exact rfl | (rw [IntWalk.i64_in _ (by omega)]; exact rfl) | trace_state)
  refine wpPt_val rfl rfl ?_
  apply Exists.intro
  refine ⟨fun w' hS => ?_, ?_⟩
  focus (obtain ⟨y3, rfl⟩ := hS; simp [go_sem, ↓IntWalk.iteOmega] <;> first | done | exact rfl | (rw [IntWalk.i64_in _ (by omega)]; exact rfl) | trace_state)
  refine wpPt_one rfl rfl (fun K hK => ?_)
  go_simp
  refine (l2Any_any o l m a cap ps b last c _ (by repeat (first | exact HRP.out | apply rd_seq | apply Rd.plus | apply Rd.alloc | apply Rd.drew | apply Rd.drewN | refine rd_patch ?_ _ _ (by intro A hA; first | (cases hA; show _ ≠ _; omega) | (have := hal A hA; omega)))) HK.out HOK.out).mono ?_
  rintro e w' ⟨rfl, xa, rfl⟩
  rw [HY2.out]
  refine hK _ _ (fun hkn => (by repeat (first | exact More.refl _ | (with_reducible apply more_seq) | (with_reducible apply more_draw) | apply More.plus | apply More.alloc | apply More.drew))) ?_
  clear hK K
  refine wpPt_val rfl rfl ?_
  apply Exists.intro
  refine ⟨fun w' hS => ?_, ?_⟩
  focus (obtain ⟨y3, rfl⟩ := hS; simp [go_sem, ↓IntWalk.iteOmega] <;> first | done | exact rfl | (rw [IntWalk.i64_in _ (by omega)]; exact rfl) | trace_state)
  refine wpPt_one rfl rfl (fun K hK => ?_)
  go_simp
  refine hK _ _ (fun hkn => absurd hkn (by decide)) ?_
  clear hK K
  refine wpPt_one rfl rfl (fun K hK => ?_)
  go_simp
  refine hK _ _ (fun hkn => absurd hkn (by decide)) ?_
  clear hK K
  refine wpPt_one rfl rfl (fun K hK => ?_)
  go_simp
  refine hK _ _ (fun hkn => absurd hkn (by decide)) ?_
  clear hK K
  refine NoPanic.normal ?_
  go_wp2_with fail
  refine (l2Any_any o l m a cap ps b last c _ (by repeat (first | exact HRP.out | apply rd_seq | apply Rd.plus | apply Rd.alloc | apply Rd.drew | apply Rd.drewN | refine rd_patch ?_ _ _ (by intro A hA; first | (cases hA; show _ ≠ _; omega) | (have := hal A hA; omega)))) HK.out HOK.out).mono ?_
  rintro e w' ⟨rfl, xb, rfl⟩
  rw [HY2.out]
  go_wp2_with fail
  refine (l2After_any o l m a cap ps b last c _ (by repeat (first | exact HRP.out | apply rd_seq | apply Rd.plus | apply Rd.alloc | apply Rd.drew | apply Rd.drewN | refine rd_patch ?_ _ _ (by intro A hA; first | (cases hA; show _ ≠ _; omega) | (have := hal A hA; omega)))) HK.out HOK.out).mono ?_
  rintro e w' ⟨A8, c8, rfl, hown8, x8, rfl⟩
  try simp only [plus_plus] at hown8
  have HO8 := Lib.hid hown8
  clear hown8
  go_wp2_with fail
  refine bodyPost_ret (v := .tuple #[.agg #[.int .i64 o, .int .i64 l, .int .i64 m, .slice A8 (aftP l m ps last c).length c8, .int .i64 b, .int .i64 (c), .string q, .int .i64 ((sz : Int) + y2.size), .int .i64 ((ct : Int) + 1), .int .i64 (1)], .string y2]) (by simp [results, Tryz.results95, go_sem, ↓IntWalk.iteOmega, hbm] <;> omega) rfl ?_
  exact ⟨A8, c8, rfl, .inr (by repeat (first | exact (own_swap HO8.out (by simp) (by simp <;> omega)).lower (by simp <;> omega) | (with_reducible apply own_seq) | (with_reducible apply own_draw) | (with_reducible apply Own.plus) | (with_reducible apply Own.alloc) | (with_reducible apply Own.drew))), (by repeat (first | exact More.refl _ | apply More.plus | apply More.alloc | apply More.drew | apply More.drewN))⟩

set_option maxRecDepth 100000 in
set_option maxHeartbeats 4000000 in
theorem l3Take_wordf
    (o l m : Int) (a : Option Addr) (cap : Nat) (ps : List Pr) (b : Nat) (last : Int) (s : ByteArray) (sz ct : Nat) (w : World) (hr : RdP w a cap ps) (hkv : KV o l m ps (b : Int) last) (hbv : BV s.data.toList) (hss : s.size ≤ 100000) (n : Nat) (hn : wd l m ps.length last = n) (hns : n ≤ s.size) (hsz : sz ≤ 2000) (hct : ct < 3100) (c : Int) (hc : numL o (s.data.toList.take n) = c)
    (h1 : c ≠ two l + 1) (h2 : c ≠ two l) (hfo : folB l m ps.length last c = true) (hd : ¬ 2000 < sz + (anyW l ps last c).length) (hf : ct + 1 = 3100) :
    Calls Tryz.prog 95 #[.agg #[.int .i64 o, .int .i64 l, .int .i64 m, .slice a ps.length cap, .int .i64 b, .int .i64 last, .string s, .int .i64 sz, .int .i64 ct, .int .i64 1]] w
      (RetTk w a cap ps o l m b (aftP l m ps last c) (c) (s.extract n s.size) ((sz : Int) + (anyW l ps last c).length) ((ct : Int) + 1) (3) (bstr (anyW l ps last c))) := by
  have v9 : ((ct : Int) + 1 == 3100) = true := by simp; omega
  clear hf
  have v1 : (c == two l + 1) = false := by simp [h1]
  have v2 : (c == two l) = false := by simp [h2]
  have HOK := Lib.hid (folB_iff.1 hfo)
  obtain ⟨y2, hy2⟩ : ∃ y2, bstr (anyW l ps last c) = y2 := ⟨_, rfl⟩
  have hyl : y2.size = (anyW l ps last c).length := by rw [← hy2, bstr_size]
  have hab := any_bd hkv HOK.out
  rw [← hyl] at hab hd
  have HY2 := Lib.hid hy2
  have v3 : decide (2000 < (sz : Int) + y2.size) = false := by simp; omega
  have hwz : IntKind.i64.wrap ((sz : Int) + y2.size) = (sz : Int) + y2.size := IntWalk.i64_in _ (by omega)
  rw [hy2, ← hyl]
  clear h1 h2 hd hy2 hyl
  obtain ⟨ho, l1, l2, m1, m2⟩ := sv_iff.1 hkv.s
  have hs := hkv.s
  have l0 : 0 ≤ l := by omega
  have l10 : l ≤ 10 := by omega
  have hlim := hkv.lim
  obtain ⟨_, _, _, _, t1, t2, t3, t4⟩ := hlim.bds
  have hlen := kv_len (kvb_iff.2 hkv)
  have hlast := hlim.last
  have hb1 := hkv.b1
  have hbm : min b ps.length = b := Nat.min_eq_left (by omega)
  obtain ⟨wd1, wd2⟩ := wd_ten hlim
  rw [hn] at wd1 wd2
  have HN := Lib.hid hn
  have HLM := Lib.hid hlim
  have HK := Lib.hid hkv
  have HRP := Lib.hid hr
  obtain ⟨t, ht⟩ : ∃ t, s.extract 0 n = t := ⟨_, rfl⟩
  have htb : t.data.toList = s.data.toList.take n := by rw [← ht]; simp
  have hts : t.size = n := by rw [← bytes_len, htb, List.length_take, bytes_len]; omega
  have HTS := Lib.hid hts
  have HTV := Lib.hid (show BV t.data.toList by intro x hx; rw [htb] at hx; exact hbv x (List.mem_of_mem_take hx))
  have HTC := Lib.hid (show numL o t.data.toList = c by rw [htb]; exact hc)
  obtain ⟨q, hq⟩ : ∃ q, s.extract n s.size = q := ⟨_, rfl⟩
  rw [hq]
  clear hr hkv hbv hn hlim hc htb hts
  go_enter Tryz.func95, Tryz.ntmps95
  go_wp2_with (go_at_call 94; refine (l2Width_any _ _ _ _ _ _ _ _ _ HLM.out (by omega)).mono ?_; rintro e w' ⟨rfl, xc, rfl⟩; rw [HN.out])
  refine wp_region_pt 9 (fun w' => ∃ y, w' = plus _ y) (Plan.quiet 0 (Plan.quiet 1 (Plan.quiet 2 (Plan.quiet 3 (Plan.quiet 4 (Plan.quiet 5 (Plan.quiet 6 (Plan.quiet 7 (Plan.one 8 (Plan.one 9 Plan.done)))))))))) (by kernel_rfl) (by kernel_rfl) (⟨_, drew_is_plus _⟩) ?_
  refine wpPt_val rfl rfl ?_
  apply Exists.intro
  refine ⟨fun w' hS => ?_, ?_⟩
  focus (obtain ⟨y3, rfl⟩ := hS; simp [go_sem, ↓IntWalk.iteOmega, ht] <;> first | done | exact rfl | (rw [IntWalk.i64_in _ (by omega)]; exact rfl) | trace_state)
  refine wpPt_val rfl rfl ?_
  apply Exists.intro
  refine ⟨fun w' hS => ?_, ?_⟩
  focus (obtain ⟨y3, rfl⟩ := hS; simp [go_sem, ↓IntWalk.iteOmega, ht] <;> first | done | exact rfl | (rw [IntWalk.i64_in _ (by omega)]; exact rfl) | trace_state)
  refine wpPt_val rfl rfl ?_
  apply Exists.intro
  refine ⟨fun w' hS => ?_, ?_⟩
  focus (obtain ⟨y3, rfl⟩ := hS; simp [go_sem, ↓IntWalk.iteOmega, ht] <;> first | done | exact rfl | (rw [IntWalk.i64_in _ (by omega)]; exact rfl) | trace_state)
  refine wpPt_val rfl rfl ?_
  apply Exists.intro
  refine ⟨fun w' hS => ?_, ?_⟩
  focus (obtain ⟨y3, rfl⟩ := hS; simp [go_sem, ↓IntWalk.iteOmega, ht] <;> first | done | exact rfl | (rw [IntWalk.i64_in _ (by omega)]; exact rfl) | trace_state)
  refine wpPt_val rfl rfl ?_
  apply Exists.intro
  refine ⟨fun w' hS => ?_, ?_⟩
  focus (obtain ⟨y3, rfl⟩ := hS; simp [go_sem, ↓IntWalk.iteOmega, ht] <;> first | done | exact rfl | (rw [IntWalk.i64_in _ (by omega)]; exact rfl) | trace_state)
  refine wpPt_val rfl rfl ?_
  apply Exists.intro
  refine ⟨fun w' hS => ?_, ?_⟩
  focus (obtain ⟨y3, rfl⟩ := hS; simp [go_sem, ↓IntWalk.iteOmega, ht] <;> first | done | exact rfl | (rw [IntWalk.i64_in _ (by omega)]; exact rfl) | trace_state)
  refine wpPt_val rfl rfl ?_
  apply Exists.intro
  refine ⟨fun w' hS => ?_, ?_⟩
  focus (obtain ⟨y3, rfl⟩ := hS; simp [go_sem, ↓IntWalk.iteOmega, ht] <;> first | done | exact rfl | (rw [IntWalk.i64_in _ (by omega)]; exact rfl) | trace_state)
  refine wpPt_val rfl rfl ?_
  apply Exists.intro
  refine ⟨fun w' hS => ?_, ?_⟩
  focus (obtain ⟨y3, rfl⟩ := hS; simp [go_sem, ↓IntWalk.iteOmega, ht] <;> first | done | exact rfl | (rw [IntWalk.i64_in _ (by omega)]; exact rfl) | trace_state)
  refine wpPt_one rfl rfl (fun K hK => ?_)
  go_simp
  refine (l1Number_any o t _ ho (by have := HTS.out; omega) HTV.out).mono ?_
  rintro e w' ⟨rfl, x9, rfl⟩
  rw [HTC.out]
  refine hK _ _ (fun hkn => (by repeat (first | exact More.refl _ | (with_reducible apply more_seq) | (with_reducible apply more_draw) | apply More.plus | apply More.alloc | apply More.drew))) ?_
  clear hK K
  refine wpPt_one rfl rfl (fun K hK => ?_)
  go_simp
  refine hK _ _ (fun hkn => absurd hkn (by decide)) ?_
  clear hK K
  refine NoPanic.normal ?_
  go_wp2_with (first | (go_at_call 105; refine (l1End_any _ _ _ l0 l10 _).mono ?_; rintro e w' ⟨rfl, xc, rfl⟩) | (go_at_call 107; refine (l1Clear_any _ _ _ l0 l10 _).mono ?_; rintro e w' ⟨rfl, xc, rfl⟩) | (go_at_call 134; refine (l2Follows_any _ _ _ _ _ _ _ _ _ _ hs (by omega) hlast).mono ?_; rintro e w' ⟨rfl, xf, rfl⟩; rw [hfo]))
  refine wp_region_pu 7 (fun w' => ∃ y, w' = plus _ y) (Plan.quiet 0 (Plan.quiet 1 (Plan.quiet 2 (Plan.quiet 3 (Plan.quiet 4 (Plan.one 5 (Plan.quiet 6 (Plan.one 7 (Plan.one 8 (Plan.one 9 Plan.done)))))))))) (by kernel_rfl) (by kernel_rfl) (⟨_, drew_is_plus _⟩) ?_
  refine wpPt_val rfl rfl ?_
  apply Exists.intro
  refine ⟨fun w' hS => ?_, ?_⟩
  focus (obtain ⟨y3, rfl⟩ := hS; simp [go_sem, ↓IntWalk.iteOmega] <;> first | done | exact rfl | (rw [IntWalk.i64_in _ (by omega)]; exact rfl) | trace_state)
  refine wpPt_val rfl rfl ?_
  apply Exists.intro
  refine ⟨fun w' hS => ?_, ?_⟩
  focus (obtain ⟨y3, rfl⟩ := hS; simp [go_sem, ↓IntWalk.iteOmega] <;> first | done | exact rfl | (rw [IntWalk.i64_in _ (by omega)]; exact rfl) | trace_state)
  refine wpPt_val rfl rfl ?_
  apply Exists.intro
  refine ⟨fun w' hS => ?_, ?_⟩
  focus (obtain ⟨y3, rfl⟩ := hS; simp [go_sem, ↓IntWalk.iteOmega] <;> first | done | exact rfl | (rw [IntWalk.i64_in _ (by omega)]; exact rfl) | trace_state)
  refine wpPt_val rfl rfl ?_
  apply Exists.intro
  refine ⟨fun w' hS => ?_, ?_⟩
  focus (obtain ⟨y3, rfl⟩ := hS; simp [go_sem, ↓IntWalk.iteOmega] <;> first | done | exact rfl | (rw [IntWalk.i64_in _ (by omega)]; exact rfl) | trace_state)
  refine wpPt_val rfl rfl ?_
  apply Exists.intro
  refine ⟨fun w' hS => ?_, ?_⟩
  focus (obtain ⟨y3, rfl⟩ := hS; simp [go_sem, ↓IntWalk.iteOmega] <;> first | done | exact rfl | (rw [IntWalk.i64_in _ (by omega)]; exact rfl) | trace_state)
  refine wpPt_one rfl rfl (fun K hK => ?_)
  go_simp
  refine (l2Any_any o l m a cap ps b last c _ (by repeat (first | exact HRP.out | apply rd_seq | apply Rd.plus | apply Rd.alloc | apply Rd.drew | apply Rd.drewN | refine rd_patch ?_ _ _ (by intro A hA; first | (cases hA; show _ ≠ _; omega) | (have := hal A hA; omega)))) HK.out HOK.out).mono ?_
  rintro e w' ⟨rfl, xa, rfl⟩
  rw [HY2.out]
  refine hK _ _ (fun hkn => (by repeat (first | exact More.refl _ | (with_reducible apply more_seq) | (with_reducible apply more_draw) | apply More.plus | apply More.alloc | apply More.drew))) ?_
  clear hK K
  refine wpPt_val rfl rfl ?_
  apply Exists.intro
  refine ⟨fun w' hS => ?_, ?_⟩
  focus (obtain ⟨y3, rfl⟩ := hS; simp [go_sem, ↓IntWalk.iteOmega] <;> first | done | exact rfl | (rw [IntWalk.i64_in _ (by omega)]; exact rfl) | trace_state)
  refine wpPt_one rfl rfl (fun K hK => ?_)
  go_simp
  refine hK _ _ (fun hkn => absurd hkn (by decide)) ?_
  clear hK K
  refine wpPt_one rfl rfl (fun K hK => ?_)
  go_simp
  refine hK _ _ (fun hkn => absurd hkn (by decide)) ?_
  clear hK K
  refine wpPt_one rfl rfl (fun K hK => ?_)
  go_simp
  refine hK _ _ (fun hkn => absurd hkn (by decide)) ?_
  clear hK K
  refine NoPanic.normal ?_
  go_wp2_with fail
  refine (l2Any_any o l m a cap ps b last c _ (by repeat (first | exact HRP.out | apply rd_seq | apply Rd.plus | apply Rd.alloc | apply Rd.drew | apply Rd.drewN | refine rd_patch ?_ _ _ (by intro A hA; first | (cases hA; show _ ≠ _; omega) | (have := hal A hA; omega)))) HK.out HOK.out).mono ?_
  rintro e w' ⟨rfl, xb, rfl⟩
  rw [HY2.out]
  go_wp2_with fail
  refine (l2After_any o l m a cap ps b last c _ (by repeat (first | exact HRP.out | apply rd_seq | apply Rd.plus | apply Rd.alloc | apply Rd.drew | apply Rd.drewN | refine rd_patch ?_ _ _ (by intro A hA; first | (cases hA; show _ ≠ _; omega) | (have := hal A hA; omega)))) HK.out HOK.out).mono ?_
  rintro e w' ⟨A8, c8, rfl, hown8, x8, rfl⟩
  try simp only [plus_plus] at hown8
  have HO8 := Lib.hid hown8
  clear hown8
  go_wp2_with fail
  refine bodyPost_ret (v := .tuple #[.agg #[.int .i64 o, .int .i64 l, .int .i64 m, .slice A8 (aftP l m ps last c).length c8, .int .i64 b, .int .i64 (c), .string q, .int .i64 ((sz : Int) + y2.size), .int .i64 ((ct : Int) + 1), .int .i64 (3)], .string y2]) (by simp [results, Tryz.results95, go_sem, ↓IntWalk.iteOmega, hbm] <;> omega) rfl ?_
  exact ⟨A8, c8, rfl, .inr (by repeat (first | exact (own_swap HO8.out (by simp) (by simp <;> omega)).lower (by simp <;> omega) | (with_reducible apply own_seq) | (with_reducible apply own_draw) | (with_reducible apply Own.plus) | (with_reducible apply Own.alloc) | (with_reducible apply Own.drew))), (by repeat (first | exact More.refl _ | apply More.plus | apply More.alloc | apply More.drew | apply More.drewN))⟩

end Go.Proofs.YtmddcbebaijjkaaGreatDoor

/- One code read by the reference is one step of the reading from bits. -/
namespace Go.Proofs.YtmddcbebaijjkaaGreatDoor
open Go.RowKit
set_option linter.unusedVariables false
set_option linter.unusedSimpArgs false

theorem fol_can {l m : Int} {n : Nat} {last c : Int} (h0 : 2 ≤ two l) (h1 : c ≠ two l + 1) (h2 : c ≠ two l) : folB l m n last c = canB l m n last c := by
  cases h : canB l m n last c
  · cases h3 : folB l m n last c
    · rfl
    · have := okc_can h0 (folB_iff.1 h3)
      rw [h] at this; cases this
  · exact folB_iff.2 (can_okc h0 h h2 h1)

theorem take_step {o l m : Int} {ps : List Pr} {b : Nat} {last : Int} {bits : List UInt8} {z : ByteArray} {sz ct n p f : Nat} {C : List Int} {D : List UInt8} {R : Rg} (hkv : KV o l m ps (b : Int) last) (hz : z.data.toList = bits.drop p) (hbv : BV bits) (hbl : bits.length ≤ 100000) (hp : p ≤ bits.length)
    (hn : wd l m ps.length last = n) (hns : n ≤ z.size) (hsz : sz + D.length ≤ 2000) (hct : ct + C.length < 3100) (hrd : rdc o l m b sz ct bits (f + 1) ps last p C D = R) :
    ∃ (qs : List Pr) (la : Int) (C2 : List Int) (wrd : List UInt8) (e2 : Int),
      (∀ (W : World) (a : Option Addr) (cap : Nat), RdP W a cap ps → Calls Tryz.prog 95 #[.agg #[.int .i64 o, .int .i64 l, .int .i64 m, .slice a ps.length cap, .int .i64 b, .int .i64 last, .string z, .int .i64 ((sz : Int) + D.length), .int .i64 ((ct : Int) + C.length), .int .i64 1]] W
        (RetTk W a cap ps o l m b qs la (z.extract n z.size) ((sz : Int) + (D ++ wrd).length) ((ct : Int) + C2.length) e2 (bstr wrd))) ∧
      KV o l m qs (b : Int) la ∧ sz + (D ++ wrd).length ≤ 2000 ∧ ct + C2.length ≤ 3100 ∧ wrd.length ≤ 2003 ∧
      ((e2 = 1 ∧ ct + C2.length < 3100 ∧ rdc o l m b sz ct bits f qs la (p + n) C2 (D ++ wrd) = R) ∨ (e2 ≠ 1 ∧ R = ⟨qs, la, C2, D ++ wrd, e2, p + n⟩)) := by
  have t1 := (hkv.lim.bds).2.2.2.2.1
  have hzl : z.size = bits.length - p := by rw [← bytes_len, hz, List.length_drop]
  have hn2 : (wd l m ps.length last).toNat = n := by omega
  have hns2 : ¬ bits.length - p < n := by omega
  have hbv2 : BV z.data.toList := by rw [hz]; exact fun x hx => hbv x (List.mem_of_mem_drop hx)
  obtain ⟨c, hc⟩ : ∃ c, numL o (z.data.toList.take n) = c := ⟨_, rfl⟩
  have hc2 : numL o ((bits.drop p).take n) = c := by rw [← hz]; exact hc
  have e0 : bstr ([] : List UInt8) = ⟨#[]⟩ := rfl
  by_cases he : c = two l + 1
  · refine ⟨ps, last, C ++ [two l + 1], [], 0, fun W a cap hr => ?_, hkv, by simpa using hsz, by simp; omega, by simp, .inr ⟨by decide, ?_⟩⟩
    · have h9 := l3Take_end o l m a cap ps b last z (sz + D.length) (ct + C.length) W hr hkv hbv2 (by omega) n hn hns hsz hct c hc he
      simpa [e0, Int.natCast_add, Int.add_assoc] using h9
    · rw [← hrd, List.append_nil, rdc_end hn2 hns2 (by rw [hc2, he]) (can_end t1)]
  · by_cases hcl : c = two l
    · have hrc := rdc_clear (o := o) (b := b) (sz := sz) (ct := ct) (f := f) (C := C) (D := D) hn2 hns2 (by rw [hc2, hcl]) (can_clear t1)
      by_cases hf : ct + C.length + 1 = 3100
      · refine ⟨ps.take b, -1, C ++ [two l], [], 3, fun W a cap hr => ?_, by simpa using hkv.cleared, by simpa using hsz, by simp; omega, by simp, .inr ⟨by decide, ?_⟩⟩
        · have h9 := l3Take_clearf o l m a cap ps b last z (sz + D.length) (ct + C.length) W hr hkv hbv2 (by omega) n hn hns hsz hct c hc hcl hf
          simpa [e0, Int.natCast_add, Int.add_assoc] using h9
        · rw [← hrd, List.append_nil, hrc, if_pos (by omega)]
      · refine ⟨ps.take b, -1, C ++ [two l], [], 1, fun W a cap hr => ?_, by simpa using hkv.cleared, by simpa using hsz, by simp; omega, by simp, .inl ⟨rfl, by simp; omega, ?_⟩⟩
        · have h9 := l3Take_clear o l m a cap ps b last z (sz + D.length) (ct + C.length) W hr hkv hbv2 (by omega) n hn hns hsz hct c hc hcl hf
          simpa [e0, Int.natCast_add, Int.add_assoc] using h9
        · rw [← hrd, List.append_nil, hrc, if_neg (by omega)]
    · have hfc := fol_can (l := l) (m := m) (n := ps.length) (last := last) t1 he hcl
      cases hfo : folB l m ps.length last c
      · refine ⟨ps, last, C, [], 2, fun W a cap hr => ?_, hkv, by simpa using hsz, by omega, by simp, .inr ⟨by decide, ?_⟩⟩
        · have h9 := l3Take_wrong o l m a cap ps b last z (sz + D.length) (ct + C.length) W hr hkv hbv2 (by omega) n hn hns hsz hct c hc he hcl hfo
          simpa [e0, Int.natCast_add, Int.add_assoc] using h9
        · rw [← hrd, List.append_nil, rdc_wrong hn2 hns2 hc2 (by rw [← hfc]; exact hfo)]
      · have hok := folB_iff.1 hfo
        have hab := any_bd hkv hok
        by_cases hd : 2000 < sz + D.length + (anyW l ps last c).length
        · refine ⟨ps, last, C, [], 3, fun W a cap hr => ?_, hkv, by simpa using hsz, by omega, by simp, .inr ⟨by decide, ?_⟩⟩
          · have h9 := l3Take_long o l m a cap ps b last z (sz + D.length) (ct + C.length) W hr hkv hbv2 (by omega) n hn hns hsz hct c hc he hcl hfo hd
            simpa [e0, Int.natCast_add, Int.add_assoc] using h9
          · rw [← hrd, List.append_nil, rdc_long hn2 hns2 hc2 (by rw [← hfc]; exact hfo) he hcl hd]
        · have hrc := rdc_word (o := o) (b := b) (sz := sz) (ct := ct) (f := f) (C := C) (D := D) hn2 hns2 hc2 (by rw [← hfc]; exact hfo) he hcl hd
          by_cases hf : ct + C.length + 1 = 3100
          · refine ⟨aftP l m ps last c, c, C ++ [c], anyW l ps last c, 3, fun W a cap hr => ?_, hkv.after hok, by rw [List.length_append]; omega, by simp; omega, hab, .inr ⟨by decide, ?_⟩⟩
            · have h9 := l3Take_wordf o l m a cap ps b last z (sz + D.length) (ct + C.length) W hr hkv hbv2 (by omega) n hn hns hsz hct c hc he hcl hfo hd hf
              simpa [Int.natCast_add, Int.add_assoc] using h9
            · rw [← hrd, hrc, if_pos (by omega)]
          · refine ⟨aftP l m ps last c, c, C ++ [c], anyW l ps last c, 1, fun W a cap hr => ?_, hkv.after hok, by rw [List.length_append]; omega, by simp; omega, hab, .inl ⟨rfl, by simp; omega, ?_⟩⟩
            · have h9 := l3Take_word o l m a cap ps b last z (sz + D.length) (ct + C.length) W hr hkv hbv2 (by omega) n hn hns hsz hct c hc he hcl hfo hd hf
              simpa [Int.natCast_add, Int.add_assoc] using h9
            · rw [← hrd, hrc, if_neg (by omega)]

end Go.Proofs.YtmddcbebaijjkaaGreatDoor

/- The walk of spec.l3Read. -/
namespace Go.Proofs.YtmddcbebaijjkaaGreatDoor
open Go.RowKit
set_option linter.unusedVariables false
set_option linter.unusedSimpArgs false

/-- a reader in block B with own pairs, and own data beside it -/
structure T5r (w : World) (B : Nat) (o l m : Int) (ps : List Pr) (base last : Int) (pa : Option Addr) (pc : Nat) (z : ByteArray) (sz ct e : Int) (da : Option Addr) (dc : Nat) (D : List UInt8) : Prop where
  blk : w.heap[B]? = some (.cells #[.int .i64 o, .int .i64 l, .int .i64 m, .slice pa ps.length pc, .int .i64 base, .int .i64 last, .string z, .int .i64 sz, .int .i64 ct, .int .i64 e] 28 (0, 0))
  op : Own encP 81 w pa pc ps (B + 2)
  od : Own encB 5 w da dc D (B + 2)
  dp : ∀ X, da = some X → Off pa X.block

section
variable {w w' : World} {B : Nat} {o l m : Int} {ps : List Pr} {base last : Int} {pa : Option Addr} {pc : Nat} {z : ByteArray} {sz ct e : Int} {da : Option Addr} {dc : Nat} {D : List UInt8}

theorem T5r.plus (h : T5r w B o l m ps base last pa pc z sz ct e da dc D) (x : Ext) : T5r (Go.Proofs.YtmddcbebaijjkaaGreatDoor.plus w x) B o l m ps base last pa pc z sz ct e da dc D :=
  ⟨blk_plus h.blk _, h.op.plus _, h.od.plus _, h.dp⟩

theorem T5r.B_lt (h : T5r w B o l m ps base last pa pc z sz ct e da dc D) : B < w.heap.size := (Array.getElem?_eq_some_iff.1 h.blk).1

/-- a code has been taken -/
theorem T5r.put {y : Ext} {A' : Option Addr} {c' : Nat} {qs : List Pr} {la : Int} {z' : ByteArray} {sz' ct' e' : Int} (h : T5r w B o l m ps base last pa pc z sz ct e da dc D) (hB2 : B + 2 ≤ w.heap.size)
    (hown : (A' = pa ∧ c' = pc ∧ qs = ps) ∨ Own encP 81 (Go.Proofs.YtmddcbebaijjkaaGreatDoor.plus w y) A' c' qs w.heap.size) :
    T5r (Go.Proofs.YtmddcbebaijjkaaGreatDoor.plus (patch w B (.cells #[.int .i64 o, .int .i64 l, .int .i64 m, .slice A' qs.length c', .int .i64 base, .int .i64 la, .string z', .int .i64 sz', .int .i64 ct', .int .i64 e'] 28)) y) B o l m qs base la A' c' z' sz' ct' e' da dc D := by
  have hB := h.B_lt
  have hd : Own encB 5 (patch w B (.cells #[.int .i64 o, .int .i64 l, .int .i64 m, .slice A' qs.length c', .int .i64 base, .int .i64 la, .string z', .int .i64 sz', .int .i64 ct', .int .i64 e'] 28)) da dc D (B + 2) := own_patch h.od fun X hX e => by have := own_lo h.od X hX; omega
  rcases hown with ⟨rfl, rfl, rfl⟩ | hown
  · exact ⟨blk_plus (patch_at _ _ _ hB) _, (own_patch h.op fun X hX e => by have := own_lo h.op X hX; omega).plus _, hd.plus _, h.dp⟩
  · refine ⟨blk_plus (patch_at _ _ _ hB) _, ?_, hd.plus _, fun X hX Y hY e => by have := (own_lt h.od X hX).2; have := (own_lt hown Y hY).1; omega⟩
    have h9 := own_swap (w2 := patch w B (.cells #[.int .i64 o, .int .i64 l, .int .i64 m, .slice A' qs.length c', .int .i64 base, .int .i64 la, .string z', .int .i64 sz', .int .i64 ct', .int .i64 e'] 28)) hown (by simp) (Nat.le_refl _)
    exact h9.lower hB2

theorem T5r.grew {A' : Option Addr} {c' : Nat} {ys : List UInt8} (h : T5r w B o l m ps base last pa pc z sz ct e da dc D) (hown : Own encB 5 w' A' c' ys (B + 2)) (hg : Grew da w w') (hx : Nxt da A' w.heap.size) :
    T5r w' B o l m ps base last pa pc z sz ct e A' c' ys where
  blk := by rw [hg.block B h.B_lt fun X hX e => by have := own_lo h.od X hX; omega]; exact h.blk
  op := own_grew h.op hg fun X hX Y hY e => h.dp Y hY X hX e.symm
  od := hown
  dp := fun X hX Y hY e => by
    rcases hx X hX with ⟨Z, hZ, he⟩ | he
    · exact h.dp Z hZ Y hY (by omega)
    · have := (own_lt h.op Y hY).2; omega

end

/-- the bits left of the reader in block B -/
def zAt (w : World) (B : Nat) : Nat := match w.cell? ⟨B, 6, none⟩ with | some (.string z) => z.size | _ => 0

theorem T5r.zat {w : World} {B : Nat} {o l m : Int} {ps : List Pr} {base last : Int} {pa : Option Addr} {pc : Nat} {z : ByteArray} {sz ct e : Int} {da : Option Addr} {dc : Nat} {D : List UInt8} (h : T5r w B o l m ps base last pa pc z sz ct e da dc D) : zAt w B = z.size := by
  unfold zAt
  rw [cell_of h.blk]
  rfl

/-- the state of the loop -/
def LrS (o l m : Int) (b sz ct : Nat) (bits : List UInt8) (R : Rg) (w0 : World) (da : Option Addr) (dn dc : Nat) (wr : World) : Prop :=
  ∃ (ps : List Pr) (last : Int) (pa : Option Addr) (pc : Nat) (C : List Int) (D : List UInt8) (z : ByteArray) (p : Nat) (e : Int), dn = D.length ∧ T5r wr w0.heap.size o l m ps (b : Int) last pa pc z ((sz : Int) + D.length) ((ct : Int) + C.length) e da dc D ∧
    wr.heap[w0.heap.size + 1]? = some (.cells #[.int .i64 0, .int .i64 0, .int .i64 0, .slice none 0 0, .int .i64 0, .int .i64 0, .string ⟨#[]⟩, .int .i64 0, .int .i64 0, .int .i64 0] 28 (0, 0)) ∧
    KV o l m ps (b : Int) last ∧ z.data.toList = bits.drop p ∧ p ≤ bits.length ∧ sz + D.length ≤ 2000 ∧ ct + C.length ≤ 3100 ∧ Below w0.heap.size w0 wr ∧
    ((e = 1 ∧ ct + C.length < 3100 ∧ ∃ f, bits.length - p < f ∧ rdc o l m b sz ct bits f ps last p C D = R) ∨ (e ≠ 1 ∧ R = ⟨ps, last, C, D, e, p⟩))

/-- what l3Read leaves -/
def RetLr (w : World) (o l m base : Int) (sz ct : Nat) (bits : List UInt8) (R : Rg) (E : Ending) (w' : World) : Prop :=
  ∃ pa pc, E = .returned (.tuple #[.agg #[.int .i64 o, .int .i64 l, .int .i64 m, .slice pa R.ps.length pc, .int .i64 base, .int .i64 R.last, .string (if R.e = 1 then bstr (bits.drop R.p) else ⟨#[]⟩), .int .i64 ((sz : Int) + R.D.length), .int .i64 ((ct : Int) + R.C.length), .int .i64 R.e], .string (bstr R.D), .int .i64 (if R.e = 1 then 0 else (bits.length : Int) - R.p)]) ∧
    Own encP 81 w' pa pc R.ps w.heap.size ∧ ∃ x, w' = plus w x

set_option maxRecDepth 100000 in
set_option maxHeartbeats 8000000 in
theorem l3Read_any (o l m : Int) (a : Option Addr) (cap : Nat) (ps : List Pr) (b : Nat) (last : Int) (s u : ByteArray) (sz ct : Nat) (w : World) (hr : RdP w a cap ps) (hk : kvb o l m ps (b : Int) last = true) (hs : s.size ≤ 100) (hu : u.size ≤ 40000) (hbv : BV (s ++ u).data.toList) (hsz : sz ≤ 2000) (hct : ct < 3100) (R : Rg)
    (hR : rdc o l m b sz ct (s ++ u).data.toList ((s ++ u).size + 1) ps last 0 [] [] = R) :
    Calls Tryz.prog 49 #[.agg #[.int .i64 o, .int .i64 l, .int .i64 m, .slice a ps.length cap, .int .i64 b, .int .i64 last, .string s, .int .i64 sz, .int .i64 ct, .int .i64 1], .string u] w (RetLr w o l m b sz ct (s ++ u).data.toList R) := by
  have hlen := kv_len hk
  obtain ⟨z0, hz0⟩ : ∃ z, s ++ u = z := ⟨_, rfl⟩
  have hz0s : z0.size ≤ 40100 := by rw [← hz0, ByteArray.size_append]; omega
  rw [hz0] at hbv hR ⊢
  obtain ⟨bits, hbits⟩ : ∃ x, z0.data.toList = x := ⟨_, rfl⟩
  have hbl : bits.length = z0.size := by rw [← hbits, bytes_len]
  rw [hbits] at hbv hR ⊢
  have HV := Lib.hid (kvb_iff.1 hk)
  have HRP := Lib.hid hr
  have HRR := Lib.hid hR
  have HBV := Lib.hid hbv
  have HZB := Lib.hid hbits
  have HBL := Lib.hid hbl
  obtain ⟨j0, hj, jz0, jz1, jz2⟩ := info_parts infoByte
  have mixed : Tryz.prog.follows .mixedOrders = true := by kernel_rfl
  clear hr hR hbv hbits hbl hk
  go_enter Tryz.func49, Tryz.ntmps49
  go_wp2_with (go_at_call 48; refine (l3Copy_any _ _ _ _ _ ps _ _ _ (by repeat (first | exact HRP.out | apply rd_seq | apply Rd.plus | apply Rd.alloc | apply Rd.drew | apply Rd.drewN | refine rd_patch ?_ _ _ (by intro A hA; first | (cases hA; show _ ≠ _; omega) | (have := hal A hA; omega)))) (by omega)).mono ?_; rintro e w' ⟨pa, pc, rfl, hown, x1, rfl⟩; (try simp only [plus_plus] at hown); have HO := Lib.hid hown; clear hown)
  go_loopw [7, 8] (fun d q wr => ∃ (da : Option Addr) (dn dc : Nat), d = .slice da dn dc ∧ LrS o l m b sz ct bits R w da dn dc wr) (fun _ _ wr => zAt wr w.heap.size)
  case atStart =>
    refine ⟨_, 0, 0, rfl, ps, last, pa, pc, [], [], z0, 0, 1, rfl, ⟨?_, ?_, ?_, ?_⟩, ?_, HV.out, by rw [HZB.out]; rfl, by omega, by simpa using hsz, by simp; omega, (by repeat (first | exact Below.refl _ _ | refine below_plus ?_ (by first | omega | (simp <;> omega)) _ | refine Below.alloc ?_ (by first | omega | (simp <;> omega)) _ | refine below_patch ?_ (by omega) _ | refine Below.drew ?_)), .inl ⟨rfl, by simpa using hct, z0.size + 1, by rw [HBL.out]; omega, HRR.out⟩⟩
    · simp only [List.length_nil, Int.natCast_zero, Int.add_zero]
      exact blk_plus (blk_alloc (blk_alloc (push_new _ _ _ rfl) _) _) _
    · exact (own_swap HO.out (by simp) (by simp)).lower (by simp)
    · exact (Own.newAt (by simp) (by omega) rfl (fun j u hj => by simp [flat] at hj) (by simp) (by omega)).plus _
    · intro X hX Y hY e
      cases hX
      have := (own_lt HO.out Y hY).1
      simp at this e
      omega
    · exact blk_plus (blk_alloc (push_new _ _ _ (by simp)) _) _
  case round =>
    obtain ⟨da, dn, dc, rfl, ps', last', pa', pc', C, D, z, p, e, rfl, ht5, hres, hkv, hz, hpl, hdl, hcl, hbl2, hmode⟩ := hrel
    have HT := Lib.hid ht5
    have HK := Lib.hid hkv
    have HRS := Lib.hid hres
    have HBLW := Lib.hid hbl2
    have HZ := Lib.hid hz
    have HZA := Lib.hid ht5.zat
    have hlim := hkv.lim
    have hlen' := kv_len (kvb_iff.2 hkv)
    have HLM := Lib.hid hlim
    obtain ⟨wd1, wd2⟩ := wd_ten hlim
    have hB := ht5.B_lt
    have hB2 := (Array.getElem?_eq_some_iff.1 hres).1
    have rk := cell_of ht5.blk
    have fk := free_of ht5.blk
    have sk := fun i v => setCell_patch ht5.blk i v
    have rr := cell_of hres
    have fr := free_of hres
    have ur := fun i v => setCell_patch hres i v
    have hzl : z.size = bits.length - p := by rw [← bytes_len, hz, List.length_drop]
    have hzb : z.size ≤ 40100 := by have := HBL.out; omega
    have HZL := Lib.hid hzl
    clear ht5 hkv hres hbl2 hz hlim hzl
    rcases hmode with ⟨rfl, hcl2, f, hf, hrd⟩ | ⟨he, hRe⟩
    · obtain ⟨n, hn⟩ : ∃ n : Nat, wd l m ps'.length last' = n := ⟨(wd l m ps'.length last').toNat, by omega⟩
      rcases dec (n ≤ z.size) with ⟨hlt, v1⟩ | ⟨hlt, v1⟩
      · have v2 : decide (wd l m ps'.length last' ≤ (z.size : Int)) = true := by rw [hn]; simp; omega
        obtain ⟨f, rfl⟩ : ∃ f', f = f' + 1 := ⟨f - 1, by have := HZL.out; omega⟩
        obtain ⟨qs, la, C2, wrd, e2, hTk, hkv2, hd2, hc2, hw2, hm2⟩ := take_step (o := o) (sz := sz) (ct := ct) HK.out HZ.out HBV.out (by have := HBL.out; omega) hpl hn hlt hdl hcl2 hrd
        have HTK := Lib.hid hTk
        have HM2 := Lib.hid hm2
        have HK2 := Lib.hid hkv2
        have HD2 := Lib.hid hd2
        have D5 := Lib.hid (bytes_bstr wrd)
        have z5 : (bstr wrd).size = wrd.length := bstr_size _
        obtain ⟨zq, hzq⟩ : ∃ zq, z.extract n z.size = zq := ⟨_, rfl⟩
        rw [hzq] at hTk
        have HTK := Lib.hid hTk
        have hzqs : zq.size = z.size - n := by rw [← hzq]; simp
        have HZQ := Lib.hid (show zq.data.toList = bits.drop (p + n) by rw [← hzq, ext_drop, HZ.out, List.drop_drop])
        have hn1 : 1 ≤ n := by omega
        clear hTk hm2 hkv2 hd2 hrd hzq
        go_wp2_with fail
        (refine wp_region_calm (by kernel_rfl) (by kernel_rfl) ?_
         repeat (first | go_big_quiet_skip | (go_big_quiet_want; go_big_quiet_op; first | go_big_quiet_on | (apply Exists.intro; refine ⟨fun _ => ?_, ?_⟩; (focus ((first | (go_at_call 94; first | refine calm_of (l2Width_any _ _ _ _ _ _ _ _ _ HLM.out (by omega)) | refine calm_seq (l2Width_any _ _ _ _ _ _ _ _ _ HLM.out (by omega)))))); go_big_quiet_on)))
         refine wpQuiet_nil ?_
         intro _ hw'
         obtain ⟨xq, hw''⟩ := hw'
         subst hw'')
        go_wp2_with fail
        refine (HTK.out _ _ _ (by repeat (first | exact HT.out.op.rd | apply rd_seq | apply Rd.plus | apply Rd.alloc | apply Rd.drew | apply Rd.drewN | refine rd_patch ?_ _ _ (by intro A hA; first | (cases hA; show _ ≠ _; omega) | (have := hal A hA; omega))))).mono ?_
        rintro e w' ⟨A8, c8, rfl, hown8, x8, rfl⟩
        try simp only [plus_plus] at hown8
        have HT8 := Lib.hid (T5r.put (la := la) (z' := zq) (sz' := (sz : Int) + ((D.length : Int) + wrd.length)) (ct' := (ct : Int) + C2.length) (e' := e2) HT.out (by omega) (hown8.imp id fun h => h.lower (by simp)))
        have HRS8 := Lib.hid HRS.out
        clear hown8
        have hlo9 := fun X hX => own_lo HT.out.od X hX
        go_wp2_with (at_builtin; refine wpList_append_str _ _ _ _ _ j0 rfl rfl Tryz.underlying34 Tryz.underlying9 hj jz0 jz1 jz2 D da dc (w.heap.size + 2) (T5r.od HT8.out) rfl _ rfl (by omega) (by simp <;> omega) ?_; intro A9 c9 w9 hw9 hg9 hx9; rw [D5.out] at hw9 ⊢; have HT9 := Lib.hid (T5r.grew HT8.out hw9 hg9 hx9); have HRS9 := Lib.hid (blk_grew hg9 (blk_plus (blk_patch HRS.out (by omega)) _) (fun X hX e => by have := hlo9 X hX; omega)); have hbl9 := hg9.below (B := w.heap.size) (by simp <;> omega) (fun X hX => by have := hlo9 X hX; omega); have HB9 := Lib.hid ((below_patch (b := w.heap.size) HBLW.out (Nat.le_refl _) _).trans (Below.trans (b := _) (by repeat (first | exact Below.refl _ _ | refine below_plus ?_ (by first | omega | (simp <;> omega)) _ | refine Below.alloc ?_ (by first | omega | (simp <;> omega)) _ | refine below_patch ?_ (by omega) _ | refine Below.drew ?_)) hbl9)); clear hw9 hg9 hx9 hbl9 hlo9)
        go_roundw
        case rel =>
          refine ⟨A9, _, c9, rfl, qs, la, A8, c8, C2, D ++ wrd, zq, p + n, e2, by simp, ?_, HRS9.out, HK2.out, HZQ.out, by have := HZL.out; omega, HD2.out, hc2, HB9.out, ?_⟩
          · rw [show ((D ++ wrd).length : Int) = (D.length : Int) + wrd.length by simp]
            exact HT9.out
          · rcases HM2.out with ⟨h1, h2, h3⟩ | h1
            · exact .inl ⟨h1, h2, f, by have := HZL.out; omega, h3⟩
            · exact .inr h1
        case measure => rw [HT9.out.zat, HZA.out]; omega
      · have v2 : decide (wd l m ps'.length last' ≤ (z.size : Int)) = false := by rw [hn]; simp; omega
        have HR1 := Lib.hid (show R = ⟨ps', last', C, D, 1, p⟩ by rw [← hrd]; exact rdc_short (n := n) (by omega) (by have := HZL.out; omega))
        have HZZ := Lib.hid (show bstr (bits.drop p) = z by rw [← HZ.out, bstr_bytes])
        clear hrd
        go_wp2_with fail
        (refine wp_region_calm (by kernel_rfl) (by kernel_rfl) ?_
         repeat (first | go_big_quiet_skip | (go_big_quiet_want; go_big_quiet_op; first | go_big_quiet_on | (apply Exists.intro; refine ⟨fun _ => ?_, ?_⟩; (focus ((first | (go_at_call 94; first | refine calm_of (l2Width_any _ _ _ _ _ _ _ _ _ HLM.out (by omega)) | refine calm_seq (l2Width_any _ _ _ _ _ _ _ _ _ HLM.out (by omega)))))); go_big_quiet_on)))
         refine wpQuiet_nil ?_
         intro _ hw'
         obtain ⟨xq, hw''⟩ := hw'
         subst hw'')
        have hq1 := fun y => run_str_own (P := Tryz.prog) (W := plus wr y) Tryz.underlying34 Tryz.underlying5 Tryz.underlying9 (HT.out.od.plus y)
        have hq3 := fun ob y => run_str_own (P := Tryz.prog) (W := plus (patch wr (w.heap.size + 1) ob) y) Tryz.underlying34 Tryz.underlying5 Tryz.underlying9 ((own_patch (ob := ob) (b := w.heap.size + 1) HT.out.od (fun X hX e => by have := own_lo HT.out.od X hX; omega)).plus y)
        go_wp2_with fail
        go_region_o
        go_wp2
        refine bodyPost_ret (v := .tuple #[.agg #[.int .i64 o, .int .i64 l, .int .i64 m, .slice pa' ps'.length pc', .int .i64 b, .int .i64 last', .string z, .int .i64 ((sz : Int) + D.length), .int .i64 ((ct : Int) + C.length), .int .i64 1], .string (bstr D), .int .i64 0]) (by simp [results, Tryz.results49, go_sem, ↓IntWalk.iteOmega]) rfl ?_
        rw [HR1.out]
        exact ⟨pa', pc', by simp [HZZ.out], ((own_patch HT.out.op (fun X hX e => by have := own_lo HT.out.op X hX; omega)).plus _).lower (by omega), below_more (below_plus (below_patch HBLW.out (by omega) _) (by simp; omega) _)⟩
    · have v3 : (e == 1) = false := by simp [he]
      have v4 : (e != 1) = true := by simp [he]
      have HHE := Lib.hid he
      have HR1 := Lib.hid hRe
      have HT7 := Lib.hid (T5r.put (y := ⟨#[], wr.drawn⟩) (la := last') (z' := ⟨#[]⟩) (sz' := (sz : Int) + D.length) (ct' := (ct : Int) + C.length) (e' := e) HT.out (by omega) (.inl ⟨rfl, rfl, rfl⟩))
      clear he hRe
      go_wp2_with fail
      (refine wp_region_calm (by kernel_rfl) (by kernel_rfl) ?_
       repeat (first | go_big_quiet_skip | (go_big_quiet_want; go_big_quiet_op; first | go_big_quiet_on | (apply Exists.intro; refine ⟨fun _ => ?_, ?_⟩; (focus ((first | (go_at_call 94; first | refine calm_of (l2Width_any _ _ _ _ _ _ _ _ _ HLM.out (by omega)) | refine calm_seq (l2Width_any _ _ _ _ _ _ _ _ _ HLM.out (by omega)))))); go_big_quiet_on)))
       refine wpQuiet_nil ?_
       intro _ hw'
       obtain ⟨xq, hw''⟩ := hw'
       subst hw'')
      have hod := fun (ob : Obj) => own_patch (ob := ob) (b := w.heap.size) HT.out.od (fun X hX e => by have := own_lo HT.out.od X hX; omega)
      have hq1 := fun ob y => run_str_own (P := Tryz.prog) (W := plus (patch wr w.heap.size ob) y) Tryz.underlying34 Tryz.underlying5 Tryz.underlying9 ((hod ob).plus y)
      have hq3 := fun ob ob2 y => run_str_own (P := Tryz.prog) (W := plus (patch (patch wr (w.heap.size + 1) ob2) w.heap.size ob) y) Tryz.underlying34 Tryz.underlying5 Tryz.underlying9 ((own_patch (ob := ob) (b := w.heap.size) (own_patch (ob := ob2) (b := w.heap.size + 1) HT.out.od (fun X hX e => by have := own_lo HT.out.od X hX; omega)) (fun X hX e => by have := own_lo HT.out.od X hX; omega)).plus y)
      clear hod
      have q9 : ¬ w.heap.size + 1 = w.heap.size := by omega
      go_wp2_with fail
      go_region_o
      go_wp2
      refine bodyPost_ret (v := .tuple #[.agg #[.int .i64 o, .int .i64 l, .int .i64 m, .slice pa' ps'.length pc', .int .i64 b, .int .i64 last', .string ⟨#[]⟩, .int .i64 ((sz : Int) + D.length), .int .i64 ((ct : Int) + C.length), .int .i64 e], .string (bstr D), .int .i64 z.size]) (by simp [results, Tryz.results49, go_sem, ↓IntWalk.iteOmega]) rfl ?_
      rw [HR1.out]
      refine ⟨pa', pc', ?_, ?_, ?_⟩
      · have h8 : (z.size : Int) = (bits.length : Int) - p := by have := HZL.out; omega
        rw [h8]
        simp [HHE.out]
      · exact ((own_patch (own_patch HT.out.op (fun X hX e => by have := own_lo HT.out.op X hX; omega)) (fun X hX e => by have := own_lo HT.out.op X hX; omega)).plus _).lower (by omega)
      · exact below_more (below_plus (below_patch (below_patch HBLW.out (by omega) _) (Nat.le_refl _) _) (by simp; omega) _)

end Go.Proofs.YtmddcbebaijjkaaGreatDoor

/- The walks of ReadStream: what both return. -/
namespace Go.Proofs.YtmddcbebaijjkaaGreatDoor
open Go.RowKit
set_option linter.unusedVariables false
set_option linter.unusedSimpArgs false

/-- the bits left over, of L bits -/
def leftV (L : Nat) (R : Rg) : Int := if R.e = 1 then 0 else (L : Int) - R.p

/-- a call that returns a reader, data, a number and true -/
def RetRs (w : World) (o l m b : Int) (sb : ByteArray) (R : Rg) (sz ct : Nat) (u : Int) (E : Ending) (w' : World) : Prop :=
  RetO w (fun a0 c0 => .tuple #[.agg #[.int .i64 o, .int .i64 l, .int .i64 m, .slice a0 R.ps.length c0, .int .i64 b, .int .i64 R.last, .string sb, .int .i64 ((sz : Int) + R.D.length), .int .i64 ((ct : Int) + R.C.length), .int .i64 R.e], .string (bstr R.D), .int .i64 u, .bool true]) R.ps E w'


set_option maxRecDepth 100000 in
set_option maxHeartbeats 4000000 in
theorem specReadStream_go (o l m : Int) (a : Option Addr) (cap : Nat) (ps : List Pr) (b : Nat) (last : Int) (s u : ByteArray) (sz ct : Nat) (w : World) (hr : RdP w a cap ps) (hv : rdb o l m ps (b : Int) last s sz ct 1 = true) (hu : u.size ≤ 4000) (hss : s.size ≤ 100) (R : Rg) (bits : List UInt8) (hbe : s.data.toList ++ unpL o u.data.toList = bits)
    (hR : rdc o l m b sz ct bits (bits.length + 1) ps last 0 [] [] = R) (sb : ByteArray) (hsb : (if R.e = 1 then bstr (bits.drop R.p) else ⟨#[]⟩) = sb) (L : Int) (hL : leftV bits.length R = L) (hL0 : 0 ≤ L) (hL1 : L ≤ 100000) :
    Calls Tryz.prog 14 #[.agg #[.int .i64 o, .int .i64 l, .int .i64 m, .slice a ps.length cap, .int .i64 b, .int .i64 last, .string s, .int .i64 sz, .int .i64 ct, .int .i64 1], .string u] w (RetRs w o l m b sb R sz ct ((u.size : Int) - L / 8)) := by
  have hv2 := hv
  unfold rdb at hv2
  rw [Bool.and_eq_true] at hv2
  obtain ⟨hk, hrv0⟩ := hv2
  have hrv := rvb_iff.1 hrv0
  obtain ⟨ho, _⟩ := sv_iff.1 (kvb_iff.1 hk).s
  have hsz2 := hrv.z1
  have hct2 : ct < 3100 := by have := hrv.e; simp at this; omega
  have hbb := bitsB_bv.1 hrv.bits
  obtain ⟨y, hy⟩ : ∃ y, bstr (unpL o u.data.toList) = y := ⟨_, rfl⟩
  have hyb : y.data.toList = unpL o u.data.toList := by rw [← hy, bytes_bstr]
  have hys : y.size = 8 * u.size := by rw [← hy, bstr_size, unpL_len, bytes_len]
  have hbt : (s ++ y).data.toList = bits := by rw [← hbe, ← hyb]; simp
  have hbv : BV (s ++ y).data.toList := by
    rw [hbt, ← hbe]
    intro x hx
    rcases List.mem_append.1 hx with hx | hx
    · exact hbb.2 x hx
    · obtain ⟨q, _, hq⟩ := List.mem_flatMap.1 hx
      exact bitsL_bv o _ _ x hq
  have hbl : (s ++ y).size = bits.length := by rw [← bytes_len, hbt]
  have HY := Lib.hid hy
  have HRP := Lib.hid hr
  have HR := Lib.hid (show rdc o l m b sz ct (s ++ y).data.toList ((s ++ y).size + 1) ps last 0 [] [] = R by rw [hbt, hbl]; exact hR)
  have HBV := Lib.hid hbv
  have HSB := Lib.hid hsb
  have HLL := Lib.hid hL
  have HBT := Lib.hid hbt
  have HVV := Lib.hid hv
  have hsm : s.size ≤ maxLen := by unfold maxLen; omega
  clear hr hR hbv hsb hL hbt hy hyb hv hrv0 hrv hbb hbe hbl
  go_enter Tryz.func14, Tryz.ntmps14
  go_wp2_with (go_at_call 47; refine (specReaderValid_any _ _ _ _ _ ps _ _ s _ _ _ _ (by repeat (first | exact HRP.out | apply rd_seq | apply Rd.plus | apply Rd.alloc | apply Rd.drew | apply Rd.drewN | refine rd_patch ?_ _ _ (by intro A hA; first | (cases hA; show _ ≠ _; omega) | (have := hal A hA; omega)))) hsm).mono ?_; rintro e w' ⟨rfl, xc, rfl⟩; rw [HVV.out])
  refine wp_region_pt 15 (fun w' => ∃ y, w' = plus _ y) (Plan.quiet 0 (Plan.quiet 1 (Plan.quiet 2 (Plan.quiet 3 (Plan.quiet 4 (Plan.quiet 5 (Plan.two 6 (Plan.two 7 (Plan.quiet 8 (Plan.quiet 9 (Plan.quiet 10 (Plan.quiet 11 (Plan.one 12 (Plan.one 13 (Plan.quiet 14 (Plan.one 15 Plan.done)))))))) 12 (Plan.one 7 (Plan.quiet 8 (Plan.quiet 9 (Plan.quiet 10 (Plan.quiet 11 (Plan.one 13 (Plan.quiet 14 (Plan.one 15 Plan.done))))))))) 12 (Plan.one 6 (Plan.one 7 (Plan.quiet 8 (Plan.quiet 9 (Plan.quiet 10 (Plan.quiet 11 (Plan.one 13 (Plan.quiet 14 (Plan.one 15 Plan.done)))))))))))))))) (by kernel_rfl) (by kernel_rfl) (⟨_, drew_is_plus _⟩) ?_
  refine wpPt_val rfl rfl ?_
  apply Exists.intro
  refine ⟨fun w' hS => ?_, ?_⟩
  focus (obtain ⟨y3, rfl⟩ := hS; simp [go_sem, ↓IntWalk.iteOmega] <;> first | done | exact rfl | (rw [IntWalk.i64_in _ (by omega)]; exact rfl) | trace_state)
  refine wpPt_val rfl rfl ?_
  apply Exists.intro
  refine ⟨fun w' hS => ?_, ?_⟩
  focus (obtain ⟨y3, rfl⟩ := hS; simp [go_sem, ↓IntWalk.iteOmega] <;> first | done | exact rfl | (rw [IntWalk.i64_in _ (by omega)]; exact rfl) | trace_state)
  refine wpPt_val rfl rfl ?_
  apply Exists.intro
  refine ⟨fun w' hS => ?_, ?_⟩
  focus (obtain ⟨y3, rfl⟩ := hS; simp [go_sem, ↓IntWalk.iteOmega] <;> first | done | exact rfl | (rw [IntWalk.i64_in _ (by omega)]; exact rfl) | trace_state)
  refine wpPt_val rfl rfl ?_
  apply Exists.intro
  refine ⟨fun w' hS => ?_, ?_⟩
  focus (obtain ⟨y3, rfl⟩ := hS; simp [go_sem, ↓IntWalk.iteOmega] <;> first | done | exact rfl | (rw [IntWalk.i64_in _ (by omega)]; exact rfl) | trace_state)
  refine wpPt_val rfl rfl ?_
  apply Exists.intro
  refine ⟨fun w' hS => ?_, ?_⟩
  focus (obtain ⟨y3, rfl⟩ := hS; simp [go_sem, ↓IntWalk.iteOmega] <;> first | done | exact rfl | (rw [IntWalk.i64_in _ (by omega)]; exact rfl) | trace_state)
  refine wpPt_val rfl rfl ?_
  apply Exists.intro
  refine ⟨fun w' hS => ?_, ?_⟩
  focus (obtain ⟨y3, rfl⟩ := hS; simp [go_sem, ↓IntWalk.iteOmega] <;> first | done | exact rfl | (rw [IntWalk.i64_in _ (by omega)]; exact rfl) | trace_state)
  refine wpPt_two rfl rfl rfl rfl (fun K hK => ?_) (fun K hK => ?_)
  go_simp
  refine (l1Unpack_any o u _ ho hu).mono ?_
  rintro e w' ⟨rfl, x5, rfl⟩
  rw [HY.out]
  refine hK _ _ (fun hkn => (by repeat (first | exact More.refl _ | (with_reducible apply more_seq) | (with_reducible apply more_draw) | apply More.plus | apply More.alloc | apply More.drew))) ?_
  clear hK K
  refine wpPt_two rfl rfl rfl rfl (fun K hK => ?_) (fun K hK => ?_)
  go_simp
  refine (l3Read_any o l m a cap ps b last s y sz ct _ (by repeat (first | exact HRP.out | apply rd_seq | apply Rd.plus | apply Rd.alloc | apply Rd.drew | apply Rd.drewN | refine rd_patch ?_ _ _ (by intro A hA; first | (cases hA; show _ ≠ _; omega) | (have := hal A hA; omega)))) hk hss (by omega) HBV.out (by omega) hct2 R HR.out).mono ?_
  rintro e w' ⟨pa, pc, rfl, hown, x6, rfl⟩
  (try simp only [plus_plus] at hown)
  have HO := Lib.hid hown
  clear hown
  rw [HBT.out, HSB.out, show (if R.e = 1 then (0 : Int) else (bits.length : Int) - R.p) = L from HLL.out]
  refine hK _ _ (fun hkn => (by repeat (first | exact More.refl _ | (with_reducible apply more_seq) | (with_reducible apply more_draw) | apply More.plus | apply More.alloc | apply More.drew))) ?_
  clear hK K
  refine wpPt_val rfl rfl ?_
  apply Exists.intro
  refine ⟨fun w' hS => ?_, ?_⟩
  focus (obtain ⟨y3, rfl⟩ := hS; simp [go_sem, ↓IntWalk.iteOmega] <;> first | done | exact rfl | (rw [IntWalk.i64_in _ (by omega)]; exact rfl) | trace_state)
  refine wpPt_val rfl rfl ?_
  apply Exists.intro
  refine ⟨fun w' hS => ?_, ?_⟩
  focus (obtain ⟨y3, rfl⟩ := hS; simp [go_sem, ↓IntWalk.iteOmega] <;> first | done | exact rfl | (rw [IntWalk.i64_in _ (by omega)]; exact rfl) | trace_state)
  refine wpPt_val rfl rfl ?_
  apply Exists.intro
  refine ⟨fun w' hS => ?_, ?_⟩
  focus (obtain ⟨y3, rfl⟩ := hS; simp [go_sem, ↓IntWalk.iteOmega] <;> first | done | exact rfl | (rw [IntWalk.i64_in _ (by omega)]; exact rfl) | trace_state)
  refine wpPt_val rfl rfl ?_
  apply Exists.intro
  refine ⟨fun w' hS => ?_, ?_⟩
  focus (obtain ⟨y3, rfl⟩ := hS; simp [go_sem, ↓IntWalk.iteOmega] <;> first | done | exact rfl | (rw [IntWalk.i64_in _ (by omega)]; exact rfl) | trace_state)
  refine wpPt_one rfl rfl (fun K hK => ?_)
  go_simp
  refine hK _ _ (fun hkn => (by repeat (first | exact More.refl _ | (with_reducible apply more_seq) | (with_reducible apply more_draw) | apply More.plus | apply More.alloc | apply More.drew))) ?_
  clear hK K
  refine wpPt_one rfl rfl (fun K hK => ?_)
  go_simp
  refine hK _ _ (fun hkn => (by repeat (first | exact More.refl _ | (with_reducible apply more_seq) | (with_reducible apply more_draw) | apply More.plus | apply More.alloc | apply More.drew))) ?_
  clear hK K
  refine wpPt_val rfl rfl ?_
  apply Exists.intro
  refine ⟨fun w' hS => ?_, ?_⟩
  focus (obtain ⟨y3, rfl⟩ := hS; simp [go_sem, ↓IntWalk.iteOmega] <;> first | done | exact rfl | (rw [IntWalk.i64_in _ (by omega)]; exact rfl) | trace_state)
  refine wpPt_one rfl rfl (fun K hK => ?_)
  go_simp
  refine hK _ _ (fun hkn => absurd hkn (by decide)) ?_
  clear hK K
  refine NoPanic.normal ?_
  rotate_left
  go_simp
  refine hK _ _ (fun hkn => (by repeat (first | exact More.refl _ | (with_reducible apply more_seq) | (with_reducible apply more_draw) | apply More.plus | apply More.alloc | apply More.drew))) ?_
  clear hK K
  refine wpPt_one rfl rfl (fun K hK => ?_)
  go_simp
  refine (l3Read_any o l m a cap ps b last s y sz ct _ (by repeat (first | exact HRP.out | apply rd_seq | apply Rd.plus | apply Rd.alloc | apply Rd.drew | apply Rd.drewN | refine rd_patch ?_ _ _ (by intro A hA; first | (cases hA; show _ ≠ _; omega) | (have := hal A hA; omega)))) hk hss (by omega) HBV.out (by omega) hct2 R HR.out).mono ?_
  rintro e w' ⟨pa, pc, rfl, hown, x6, rfl⟩
  (try simp only [plus_plus] at hown)
  have HO := Lib.hid hown
  clear hown
  rw [HBT.out, HSB.out, show (if R.e = 1 then (0 : Int) else (bits.length : Int) - R.p) = L from HLL.out]
  refine hK _ _ (fun hkn => (by repeat (first | exact More.refl _ | (with_reducible apply more_seq) | (with_reducible apply more_draw) | apply More.plus | apply More.alloc | apply More.drew))) ?_
  clear hK K
  refine wpPt_val rfl rfl ?_
  apply Exists.intro
  refine ⟨fun w' hS => ?_, ?_⟩
  focus (obtain ⟨y3, rfl⟩ := hS; simp [go_sem, ↓IntWalk.iteOmega] <;> first | done | exact rfl | (rw [IntWalk.i64_in _ (by omega)]; exact rfl) | trace_state)
  refine wpPt_val rfl rfl ?_
  apply Exists.intro
  refine ⟨fun w' hS => ?_, ?_⟩
  focus (obtain ⟨y3, rfl⟩ := hS; simp [go_sem, ↓IntWalk.iteOmega] <;> first | done | exact rfl | (rw [IntWalk.i64_in _ (by omega)]; exact rfl) | trace_state)
  refine wpPt_val rfl rfl ?_
  apply Exists.intro
  refine ⟨fun w' hS => ?_, ?_⟩
  focus (obtain ⟨y3, rfl⟩ := hS; simp [go_sem, ↓IntWalk.iteOmega] <;> first | done | exact rfl | (rw [IntWalk.i64_in _ (by omega)]; exact rfl) | trace_state)
  refine wpPt_val rfl rfl ?_
  apply Exists.intro
  refine ⟨fun w' hS => ?_, ?_⟩
  focus (obtain ⟨y3, rfl⟩ := hS; simp [go_sem, ↓IntWalk.iteOmega] <;> first | done | exact rfl | (rw [IntWalk.i64_in _ (by omega)]; exact rfl) | trace_state)
  refine wpPt_one rfl rfl (fun K hK => ?_)
  go_simp
  refine hK _ _ (fun hkn => (by repeat (first | exact More.refl _ | (with_reducible apply more_seq) | (with_reducible apply more_draw) | apply More.plus | apply More.alloc | apply More.drew))) ?_
  clear hK K
  refine wpPt_val rfl rfl ?_
  apply Exists.intro
  refine ⟨fun w' hS => ?_, ?_⟩
  focus (obtain ⟨y3, rfl⟩ := hS; simp [go_sem, ↓IntWalk.iteOmega] <;> first | done | exact rfl | (rw [IntWalk.i64_in _ (by omega)]; exact rfl) | trace_state)
  refine wpPt_one rfl rfl (fun K hK => ?_)
  go_simp
  refine hK _ _ (fun hkn => absurd hkn (by decide)) ?_
  clear hK K
  refine NoPanic.normal ?_
  rotate_left
  go_simp
  refine hK _ _ (fun hkn => (by repeat (first | exact More.refl _ | (with_reducible apply more_seq) | (with_reducible apply more_draw) | apply More.plus | apply More.alloc | apply More.drew))) ?_
  clear hK K
  refine wpPt_one rfl rfl (fun K hK => ?_)
  go_simp
  refine (l1Unpack_any o u _ ho hu).mono ?_
  rintro e w' ⟨rfl, x5, rfl⟩
  rw [HY.out]
  refine hK _ _ (fun hkn => (by repeat (first | exact More.refl _ | (with_reducible apply more_seq) | (with_reducible apply more_draw) | apply More.plus | apply More.alloc | apply More.drew))) ?_
  clear hK K
  refine wpPt_one rfl rfl (fun K hK => ?_)
  go_simp
  refine (l3Read_any o l m a cap ps b last s y sz ct _ (by repeat (first | exact HRP.out | apply rd_seq | apply Rd.plus | apply Rd.alloc | apply Rd.drew | apply Rd.drewN | refine rd_patch ?_ _ _ (by intro A hA; first | (cases hA; show _ ≠ _; omega) | (have := hal A hA; omega)))) hk hss (by omega) HBV.out (by omega) hct2 R HR.out).mono ?_
  rintro e w' ⟨pa, pc, rfl, hown, x6, rfl⟩
  (try simp only [plus_plus] at hown)
  have HO := Lib.hid hown
  clear hown
  rw [HBT.out, HSB.out, show (if R.e = 1 then (0 : Int) else (bits.length : Int) - R.p) = L from HLL.out]
  refine hK _ _ (fun hkn => (by repeat (first | exact More.refl _ | (with_reducible apply more_seq) | (with_reducible apply more_draw) | apply More.plus | apply More.alloc | apply More.drew))) ?_
  clear hK K
  refine wpPt_val rfl rfl ?_
  apply Exists.intro
  refine ⟨fun w' hS => ?_, ?_⟩
  focus (obtain ⟨y3, rfl⟩ := hS; simp [go_sem, ↓IntWalk.iteOmega] <;> first | done | exact rfl | (rw [IntWalk.i64_in _ (by omega)]; exact rfl) | trace_state)
  refine wpPt_val rfl rfl ?_
  apply Exists.intro
  refine ⟨fun w' hS => ?_, ?_⟩
  focus (obtain ⟨y3, rfl⟩ := hS; simp [go_sem, ↓IntWalk.iteOmega] <;> first | done | exact rfl | (rw [IntWalk.i64_in _ (by omega)]; exact rfl) | trace_state)
  refine wpPt_val rfl rfl ?_
  apply Exists.intro
  refine ⟨fun w' hS => ?_, ?_⟩
  focus (obtain ⟨y3, rfl⟩ := hS; simp [go_sem, ↓IntWalk.iteOmega] <;> first | done | exact rfl | (rw [IntWalk.i64_in _ (by omega)]; exact rfl) | trace_state)
  refine wpPt_val rfl rfl ?_
  apply Exists.intro
  refine ⟨fun w' hS => ?_, ?_⟩
  focus (obtain ⟨y3, rfl⟩ := hS; simp [go_sem, ↓IntWalk.iteOmega] <;> first | done | exact rfl | (rw [IntWalk.i64_in _ (by omega)]; exact rfl) | trace_state)
  refine wpPt_one rfl rfl (fun K hK => ?_)
  go_simp
  refine hK _ _ (fun hkn => (by repeat (first | exact More.refl _ | (with_reducible apply more_seq) | (with_reducible apply more_draw) | apply More.plus | apply More.alloc | apply More.drew))) ?_
  clear hK K
  refine wpPt_val rfl rfl ?_
  apply Exists.intro
  refine ⟨fun w' hS => ?_, ?_⟩
  focus (obtain ⟨y3, rfl⟩ := hS; simp [go_sem, ↓IntWalk.iteOmega] <;> first | done | exact rfl | (rw [IntWalk.i64_in _ (by omega)]; exact rfl) | trace_state)
  refine wpPt_one rfl rfl (fun K hK => ?_)
  go_simp
  refine hK _ _ (fun hkn => absurd hkn (by decide)) ?_
  clear hK K
  refine NoPanic.normal ?_
  all_goals
    go_wp2_with fail
    refine bodyPost_ret (v := .tuple #[.agg #[.int .i64 o, .int .i64 l, .int .i64 m, .slice pa R.ps.length pc, .int .i64 b, .int .i64 R.last, .string sb, .int .i64 ((sz : Int) + R.D.length), .int .i64 ((ct : Int) + R.C.length), .int .i64 R.e], .string (bstr R.D), .int .i64 ((u.size : Int) - L / 8), .bool true]) (by simp [results, Tryz.results14, go_sem, ↓IntWalk.iteOmega]) rfl ?_
    exact ⟨pa, pc, rfl, (by repeat (first | exact (own_swap HO.out (by simp) (by simp <;> omega)).lower (by simp <;> omega) | (with_reducible apply Own.alloc) | (with_reducible apply Own.drew) | (with_reducible apply own_draw) | (with_reducible apply own_seq))), (by repeat (first | exact More.refl _ | apply More.plus | apply More.alloc | apply More.drew | apply More.drewN))⟩

end Go.Proofs.YtmddcbebaijjkaaGreatDoor

/- The walk of impl.ReadStream, of a reader that goes on. -/
namespace Go.Proofs.YtmddcbebaijjkaaGreatDoor
open Go.RowKit
set_option linter.unusedVariables false
set_option linter.unusedSimpArgs false

/-- how many bytes the program says are used -/
def usedI (L ls : Nat) (R : Rg) : Int := if R.e = 1 then (L : Int) else (max 0 ((R.p : Int) - ls) + 7) / 8

/-- a world under a name, with what is known of it -/
theorem wp_named {P : Program} {c : Code} {Q : Exit → Act → World → Prop} {a : Act} {W : World} (F : World → Prop) (hF : F W) (h : ∀ X, F X → c.wp P Q a X) : c.wp P Q a W := h W hF


set_option maxRecDepth 100000 in
set_option maxHeartbeats 8000000 in
theorem implReadStream_go (o l m : Int) (a : Option Addr) (cap : Nat) (ps : List Pr) (b : Nat) (last : Int) (s u : ByteArray) (sz ct : Nat) (w : World) (hr : RdP w a cap ps) (hv : rdb o l m ps (b : Int) last s sz ct 1 = true) (hu : u.size ≤ 4000) (hss : s.size ≤ 100) (R : Rg) (bits : List UInt8) (hbe : s.data.toList ++ unpL o u.data.toList = bits)
    (hR : rdc o l m b sz ct bits (bits.length + 1) ps last 0 [] [] = R) (sb : ByteArray) (hsb : (if R.e = 1 then bstr (bits.drop R.p) else ⟨#[]⟩) = sb) (hRp : R.p ≤ bits.length) (hRl : R.ps.length ≤ 2000) (hRd : sz + R.D.length ≤ 2000) (hRc : ct + R.C.length ≤ 3100) :
    Calls Tryz.prog 13 #[.agg #[.int .i64 o, .int .i64 l, .int .i64 m, .slice a ps.length cap, .int .i64 b, .int .i64 last, .string s, .int .i64 sz, .int .i64 ct, .int .i64 1], .string u] w (RetRs w o l m b sb R sz ct (usedI u.size s.size R)) := by
  have hv2 := hv
  unfold rdb at hv2
  rw [Bool.and_eq_true] at hv2
  obtain ⟨hk, hrv0⟩ := hv2
  have hrv := rvb_iff.1 hrv0
  obtain ⟨ho, _⟩ := sv_iff.1 (kvb_iff.1 hk).s
  have hsz2 := hrv.z1
  have hct2 : ct < 3100 := by have := hrv.e; simp at this; omega
  obtain ⟨y, hy⟩ : ∃ y, bstr (unpL o u.data.toList) = y := ⟨_, rfl⟩
  have hyb : y.data.toList = unpL o u.data.toList := by rw [← hy, bytes_bstr]
  have hys : y.size = 8 * u.size := by rw [← hy, bstr_size, unpL_len, bytes_len]
  obtain ⟨z, hz⟩ : ∃ z, s ++ y = z := ⟨_, rfl⟩
  have hzt : z.data.toList = bits := by rw [← hz, ← hbe, ← hyb]; simp
  have hzs : z.size = bits.length := by rw [← bytes_len, hzt]
  have hzb : z.size ≤ 32100 := by rw [← hz, ByteArray.size_append]; omega
  have HY := Lib.hid hy
  have HRP := Lib.hid hr
  have HR := Lib.hid (show rdc o l m b sz ct z.data.toList (z.size + 1) ps last 0 [] [] = R by rw [hzt, hzs]; exact hR)
  have HSB := Lib.hid hsb
  have HZT := Lib.hid hzt
  have HVV := Lib.hid hv
  have HK := Lib.hid hk
  have hsm : s.size ≤ maxLen := by unfold maxLen; omega
  have mixed : Tryz.prog.follows .mixedOrders = true := by kernel_rfl
  clear hr hR hsb hzt hy hyb hv hrv0 hrv hbe hk
  go_enter Tryz.func13, Tryz.ntmps13
  go_wp2_with (go_at_call 19; refine (ReaderValid_any _ _ _ _ _ ps _ _ s _ _ _ _ (by repeat (first | exact HRP.out | apply rd_seq | apply Rd.plus | apply Rd.alloc | apply Rd.drew | apply Rd.drewN | refine rd_patch ?_ _ _ (by intro A hA; first | (cases hA; show _ ≠ _; omega) | (have := hal A hA; omega)))) hsm).mono ?_; rintro e w' ⟨rfl, xc, rfl⟩; rw [HVV.out])
  refine wp_region_pt 9 (fun w' => ∃ y, w' = plus _ y) (Plan.quiet 0 (Plan.quiet 1 (Plan.quiet 2 (Plan.quiet 3 (Plan.quiet 4 (Plan.quiet 5 (Plan.quiet 6 (Plan.one 7 (Plan.quiet 8 (Plan.one 9 Plan.done)))))))))) (by kernel_rfl) (by kernel_rfl) (⟨_, drew_is_plus _⟩) ?_
  refine wpPt_val rfl rfl ?_
  apply Exists.intro
  refine ⟨fun w' hS => ?_, ?_⟩
  focus (obtain ⟨y3, rfl⟩ := hS; simp [go_sem, ↓IntWalk.iteOmega, hz] <;> first | done | exact rfl | (rw [IntWalk.i64_in _ (by omega)]; exact rfl) | trace_state)
  refine wpPt_val rfl rfl ?_
  apply Exists.intro
  refine ⟨fun w' hS => ?_, ?_⟩
  focus (obtain ⟨y3, rfl⟩ := hS; simp [go_sem, ↓IntWalk.iteOmega, hz] <;> first | done | exact rfl | (rw [IntWalk.i64_in _ (by omega)]; exact rfl) | trace_state)
  refine wpPt_val rfl rfl ?_
  apply Exists.intro
  refine ⟨fun w' hS => ?_, ?_⟩
  focus (obtain ⟨y3, rfl⟩ := hS; simp [go_sem, ↓IntWalk.iteOmega, hz] <;> first | done | exact rfl | (rw [IntWalk.i64_in _ (by omega)]; exact rfl) | trace_state)
  refine wpPt_val rfl rfl ?_
  apply Exists.intro
  refine ⟨fun w' hS => ?_, ?_⟩
  focus (obtain ⟨y3, rfl⟩ := hS; simp [go_sem, ↓IntWalk.iteOmega, hz] <;> first | done | exact rfl | (rw [IntWalk.i64_in _ (by omega)]; exact rfl) | trace_state)
  refine wpPt_val rfl rfl ?_
  apply Exists.intro
  refine ⟨fun w' hS => ?_, ?_⟩
  focus (obtain ⟨y3, rfl⟩ := hS; simp [go_sem, ↓IntWalk.iteOmega, hz] <;> first | done | exact rfl | (rw [IntWalk.i64_in _ (by omega)]; exact rfl) | trace_state)
  refine wpPt_val rfl rfl ?_
  apply Exists.intro
  refine ⟨fun w' hS => ?_, ?_⟩
  focus (obtain ⟨y3, rfl⟩ := hS; simp [go_sem, ↓IntWalk.iteOmega, hz] <;> first | done | exact rfl | (rw [IntWalk.i64_in _ (by omega)]; exact rfl) | trace_state)
  refine wpPt_val rfl rfl ?_
  apply Exists.intro
  refine ⟨fun w' hS => ?_, ?_⟩
  focus (obtain ⟨y3, rfl⟩ := hS; simp [go_sem, ↓IntWalk.iteOmega, hz] <;> first | done | exact rfl | (rw [IntWalk.i64_in _ (by omega)]; exact rfl) | trace_state)
  refine wpPt_one rfl rfl (fun K hK => ?_)
  go_simp
  refine (unpackBytes_any o u _ hu).mono ?_
  rintro e w' ⟨rfl, x5, rfl⟩
  rw [HY.out]
  refine hK _ _ (fun hkn => (by repeat (first | exact More.refl _ | (with_reducible apply more_seq) | (with_reducible apply more_draw) | apply More.plus | apply More.alloc | apply More.drew))) ?_
  clear hK K
  refine wpPt_val rfl rfl ?_
  apply Exists.intro
  refine ⟨fun w' hS => ?_, ?_⟩
  focus (obtain ⟨y3, rfl⟩ := hS; simp [go_sem, ↓IntWalk.iteOmega, hz] <;> first | done | exact rfl | (rw [IntWalk.i64_in _ (by omega)]; exact rfl) | trace_state)
  refine wpPt_one rfl rfl (fun K hK => ?_)
  go_simp
  refine hK _ _ (fun hkn => absurd hkn (by decide)) ?_
  clear hK K
  refine NoPanic.normal ?_
  go_wp2_with fail
  refine (readCodes_any o l m a cap ps b last z sz ct _ (by repeat (first | exact HRP.out | apply rd_seq | apply Rd.plus | apply Rd.alloc | apply Rd.drew | apply Rd.drewN | refine rd_patch ?_ _ _ (by intro A hA; first | (cases hA; show _ ≠ _; omega) | (have := hal A hA; omega)))) HK.out (by omega) (by omega) hct2 R HR.out).mono ?_
  rintro e w' ⟨pa, pc, ca, cc, da, dc, rfl, hop, hoc, hod, x6, rfl⟩
  (try simp only [plus_plus] at hop hod)
  have HOP := Lib.hid hop
  have HOD := Lib.hid hod
  have HOR := Lib.hid hop.rd
  clear hop hoc hod
  have VW1 := Lib.hid (show IntKind.i64.wrap ((sz : Int) + R.D.length) = (sz : Int) + R.D.length from IntWalk.i64_in _ (by omega))
  have VW2 := Lib.hid (show IntKind.i64.wrap ((ct : Int) + R.C.length) = (ct : Int) + R.C.length from IntWalk.i64_in _ (by omega))
  go_wp2_with fail
  refine wp_region_pt 19 (fun w' => ∃ y, w' = plus _ y) (Plan.quiet 0 (Plan.quiet 1 (Plan.quiet 3 (Plan.quiet 4 (Plan.quiet 5 (Plan.quiet 6 (Plan.quiet 7 (Plan.quiet 8 (Plan.quiet 9 (Plan.quiet 10 (Plan.quiet 11 (Plan.quiet 12 (Plan.quiet 13 (Plan.quiet 14 (Plan.quiet 15 (Plan.quiet 16 (Plan.two 2 (Plan.quiet 17 (Plan.one 18 (Plan.one 19 Plan.done))) 18 (Plan.one 2 (Plan.quiet 17 (Plan.one 19 Plan.done)))))))))))))))))))) (by kernel_rfl) (by kernel_rfl) (⟨_, drew_is_plus _⟩) ?_
  refine wpPt_val rfl rfl ?_
  apply Exists.intro
  refine ⟨fun w' hS => ?_, ?_⟩
  focus (obtain ⟨y3, rfl⟩ := hS; simp [go_sem, ↓IntWalk.iteOmega, VW1.out, VW2.out] <;> first | done | exact rfl | (rw [IntWalk.i64_in _ (by omega)]; exact rfl) | trace_state)
  refine wpPt_val rfl rfl ?_
  apply Exists.intro
  refine ⟨fun w' hS => ?_, ?_⟩
  focus (obtain ⟨y3, rfl⟩ := hS; simp [go_sem, ↓IntWalk.iteOmega, VW1.out, VW2.out] <;> first | done | exact rfl | (rw [IntWalk.i64_in _ (by omega)]; exact rfl) | trace_state)
  refine wpPt_val rfl rfl ?_
  apply Exists.intro
  refine ⟨fun w' hS => ?_, ?_⟩
  focus (obtain ⟨y3, rfl⟩ := hS; simp [go_sem, ↓IntWalk.iteOmega, VW1.out, VW2.out] <;> first | done | exact rfl | (rw [IntWalk.i64_in _ (by omega)]; exact rfl) | trace_state)
  refine wpPt_val rfl rfl ?_
  apply Exists.intro
  refine ⟨fun w' hS => ?_, ?_⟩
  focus (obtain ⟨y3, rfl⟩ := hS; simp [go_sem, ↓IntWalk.iteOmega, VW1.out, VW2.out] <;> first | done | exact rfl | (rw [IntWalk.i64_in _ (by omega)]; exact rfl) | trace_state)
  refine wpPt_val rfl rfl ?_
  apply Exists.intro
  refine ⟨fun w' hS => ?_, ?_⟩
  focus (obtain ⟨y3, rfl⟩ := hS; simp [go_sem, ↓IntWalk.iteOmega, VW1.out, VW2.out] <;> first | done | exact rfl | (rw [IntWalk.i64_in _ (by omega)]; exact rfl) | trace_state)
  refine wpPt_val rfl rfl ?_
  apply Exists.intro
  refine ⟨fun w' hS => ?_, ?_⟩
  focus (obtain ⟨y3, rfl⟩ := hS; simp [go_sem, ↓IntWalk.iteOmega, VW1.out, VW2.out] <;> first | done | exact rfl | (rw [IntWalk.i64_in _ (by omega)]; exact rfl) | trace_state)
  refine wpPt_val rfl rfl ?_
  apply Exists.intro
  refine ⟨fun w' hS => ?_, ?_⟩
  focus (obtain ⟨y3, rfl⟩ := hS; simp [go_sem, ↓IntWalk.iteOmega, VW1.out, VW2.out] <;> first | done | exact rfl | (rw [IntWalk.i64_in _ (by omega)]; exact rfl) | trace_state)
  refine wpPt_val rfl rfl ?_
  apply Exists.intro
  refine ⟨fun w' hS => ?_, ?_⟩
  focus (obtain ⟨y3, rfl⟩ := hS; simp [go_sem, ↓IntWalk.iteOmega, VW1.out, VW2.out] <;> first | done | exact rfl | (rw [IntWalk.i64_in _ (by omega)]; exact rfl) | trace_state)
  refine wpPt_val rfl rfl ?_
  apply Exists.intro
  refine ⟨fun w' hS => ?_, ?_⟩
  focus (obtain ⟨y3, rfl⟩ := hS; simp [go_sem, ↓IntWalk.iteOmega, VW1.out, VW2.out] <;> first | done | exact rfl | (rw [IntWalk.i64_in _ (by omega)]; exact rfl) | trace_state)
  refine wpPt_val rfl rfl ?_
  apply Exists.intro
  refine ⟨fun w' hS => ?_, ?_⟩
  focus (obtain ⟨y3, rfl⟩ := hS; simp [go_sem, ↓IntWalk.iteOmega, VW1.out, VW2.out] <;> first | done | exact rfl | (rw [IntWalk.i64_in _ (by omega)]; exact rfl) | trace_state)
  refine wpPt_val rfl rfl ?_
  apply Exists.intro
  refine ⟨fun w' hS => ?_, ?_⟩
  focus (obtain ⟨y3, rfl⟩ := hS; simp [go_sem, ↓IntWalk.iteOmega, VW1.out, VW2.out] <;> first | done | exact rfl | (rw [IntWalk.i64_in _ (by omega)]; exact rfl) | trace_state)
  refine wpPt_val rfl rfl ?_
  apply Exists.intro
  refine ⟨fun w' hS => ?_, ?_⟩
  focus (obtain ⟨y3, rfl⟩ := hS; simp [go_sem, ↓IntWalk.iteOmega, VW1.out, VW2.out] <;> first | done | exact rfl | (rw [IntWalk.i64_in _ (by omega)]; exact rfl) | trace_state)
  refine wpPt_val rfl rfl ?_
  apply Exists.intro
  refine ⟨fun w' hS => ?_, ?_⟩
  focus (obtain ⟨y3, rfl⟩ := hS; simp [go_sem, ↓IntWalk.iteOmega, VW1.out, VW2.out] <;> first | done | exact rfl | (rw [IntWalk.i64_in _ (by omega)]; exact rfl) | trace_state)
  refine wpPt_val rfl rfl ?_
  apply Exists.intro
  refine ⟨fun w' hS => ?_, ?_⟩
  focus (obtain ⟨y3, rfl⟩ := hS; simp [go_sem, ↓IntWalk.iteOmega, VW1.out, VW2.out] <;> first | done | exact rfl | (rw [IntWalk.i64_in _ (by omega)]; exact rfl) | trace_state)
  refine wpPt_val rfl rfl ?_
  apply Exists.intro
  refine ⟨fun w' hS => ?_, ?_⟩
  focus (obtain ⟨y3, rfl⟩ := hS; simp [go_sem, ↓IntWalk.iteOmega, VW1.out, VW2.out] <;> first | done | exact rfl | (rw [IntWalk.i64_in _ (by omega)]; exact rfl) | trace_state)
  refine wpPt_val rfl rfl ?_
  apply Exists.intro
  refine ⟨fun w' hS => ?_, ?_⟩
  focus (obtain ⟨y3, rfl⟩ := hS; simp [go_sem, ↓IntWalk.iteOmega, VW1.out, VW2.out] <;> first | done | exact rfl | (rw [IntWalk.i64_in _ (by omega)]; exact rfl) | trace_state)
  refine wpPt_two rfl rfl rfl rfl (fun K hK => ?_) (fun K hK => ?_)
  go_simp
  refine (copyKnown_any _ _ _ _ _ R.ps _ _ _ (by repeat (first | exact HOR.out | apply rd_seq | apply Rd.plus | apply Rd.alloc | apply Rd.drew | apply Rd.drewN | refine rd_patch ?_ _ _ (by intro A hA; first | (cases hA; show _ ≠ _; omega) | (have := hal A hA; omega)))) (by omega)).mono ?_
  rintro e w' ⟨qa, qc, rfl, hq, x7, rfl⟩
  (try simp only [plus_plus] at hq)
  have HQ := Lib.hid hq
  clear hq
  refine hK _ _ (fun hkn => (by repeat (first | exact More.refl _ | (with_reducible apply more_seq) | (with_reducible apply more_draw) | apply More.plus | apply More.alloc | apply More.drew))) ?_
  clear hK K
  refine wpPt_val rfl rfl ?_
  apply Exists.intro
  refine ⟨fun w' hS => ?_, ?_⟩
  focus (obtain ⟨y3, rfl⟩ := hS; simp [go_sem, ↓IntWalk.iteOmega, VW1.out, VW2.out] <;> first | done | exact rfl | (rw [IntWalk.i64_in _ (by omega)]; exact rfl) | trace_state)
  refine wpPt_one rfl rfl (fun K hK => ?_)
  go_simp
  refine hK _ _ (fun hkn => (by repeat (first | exact More.refl _ | (with_reducible apply more_seq) | (with_reducible apply more_draw) | apply More.plus | apply More.alloc | apply More.drew))) ?_
  clear hK K
  refine wpPt_one rfl rfl (fun K hK => ?_)
  go_simp
  refine hK _ _ (fun hkn => absurd hkn (by decide)) ?_
  clear hK K
  refine NoPanic.normal ?_
  rotate_left
  go_simp
  refine hK _ _ (fun hkn => (by repeat (first | exact More.refl _ | (with_reducible apply more_seq) | (with_reducible apply more_draw) | apply More.plus | apply More.alloc | apply More.drew))) ?_
  clear hK K
  refine wpPt_one rfl rfl (fun K hK => ?_)
  go_simp
  refine (copyKnown_any _ _ _ _ _ R.ps _ _ _ (by repeat (first | exact HOR.out | apply rd_seq | apply Rd.plus | apply Rd.alloc | apply Rd.drew | apply Rd.drewN | refine rd_patch ?_ _ _ (by intro A hA; first | (cases hA; show _ ≠ _; omega) | (have := hal A hA; omega)))) (by omega)).mono ?_
  rintro e w' ⟨qa, qc, rfl, hq, x7, rfl⟩
  (try simp only [plus_plus] at hq)
  have HQ := Lib.hid hq
  clear hq
  refine hK _ _ (fun hkn => (by repeat (first | exact More.refl _ | (with_reducible apply more_seq) | (with_reducible apply more_draw) | apply More.plus | apply More.alloc | apply More.drew))) ?_
  clear hK K
  refine wpPt_val rfl rfl ?_
  apply Exists.intro
  refine ⟨fun w' hS => ?_, ?_⟩
  focus (obtain ⟨y3, rfl⟩ := hS; simp [go_sem, ↓IntWalk.iteOmega, VW1.out, VW2.out] <;> first | done | exact rfl | (rw [IntWalk.i64_in _ (by omega)]; exact rfl) | trace_state)
  refine wpPt_one rfl rfl (fun K hK => ?_)
  go_simp
  refine hK _ _ (fun hkn => absurd hkn (by decide)) ?_
  clear hK K
  refine NoPanic.normal ?_
  ·
    have hcv := fun (W : World) (h : Own encB 5 W da dc R.D (w.heap.size + 2)) => run_str_own (P := Tryz.prog) (W := W) Tryz.underlying34 Tryz.underlying5 Tryz.underlying9 h
    have q1 : w.heap.size < w.heap.size + 1 + 1 + (xc.n + x5.n + x6.n) := by omega
    have q2 : w.heap.size + 1 < w.heap.size + 1 + 1 + (xc.n + x5.n + x6.n) := by omega
    have q3 : w.heap.size < w.heap.size + 1 + 1 + (xc.n + x5.n + x6.n) + 1 := by omega
    have q4 : w.heap.size + 1 < w.heap.size + 1 + 1 + (xc.n + x5.n + x6.n) + 1 := by omega
    have q5 : w.heap.size < w.heap.size + 1 + 1 + (xc.n + x5.n + x6.n) + 1 + 1 := by omega
    have q6 : w.heap.size + 1 < w.heap.size + 1 + 1 + (xc.n + x5.n + x6.n) + 1 + 1 := by omega
    have q7 : w.heap.size + 1 + 1 + (xc.n + x5.n + x6.n) < w.heap.size + 1 + 1 + (xc.n + x5.n + x6.n) + 1 + 1 := by omega
    have q8 : w.heap.size < w.heap.size + 1 + 1 + (xc.n + x5.n + x6.n) + 1 + x7.n := by omega
    have q9 : w.heap.size + 1 < w.heap.size + 1 + 1 + (xc.n + x5.n + x6.n) + 1 + x7.n := by omega
    have q10 : w.heap.size + 1 + 1 + (xc.n + x5.n + x6.n) < w.heap.size + 1 + 1 + (xc.n + x5.n + x6.n) + 1 + x7.n := by omega
    by_cases he : R.e = 1
    · have v2 : (R.e == 1) = true := by simp [he]
      have HU := Lib.hid (show usedI u.size s.size R = (u.size : Int) by unfold usedI; rw [if_pos he])
      have hsx : z.extract R.p bits.length = sb := by rw [← hzs, ← HSB.out, if_pos he, ← HZT.out, ← ext_drop, bstr_bytes]
      have HHE := Lib.hid he
      clear he
      go_wp2_with fail
      refine wp_named (fun wX => wX.heap[w.heap.size + 1]? = some (.cells #[.int .i64 0, .int .i64 0, .int .i64 0, .slice none 0 0, .int .i64 0, .int .i64 0, .string ⟨#[]⟩, .int .i64 0, .int .i64 0, .int .i64 0] 28 (0, 0)) ∧
        wX.heap[w.heap.size + 1 + 1 + (xc.n + x5.n + x6.n) + 1]? = some (.cells #[.int .i64 o, .int .i64 l, .int .i64 m, .slice qa R.ps.length qc, .int .i64 b, .int .i64 R.last, .string sb, .int .i64 ((sz : Int) + R.D.length), .int .i64 ((ct : Int) + R.C.length), .int .i64 R.e] 28 (0, 0)) ∧
        wX.heap[w.heap.size + 1 + 1 + (xc.n + x5.n + x6.n)]? = some (.cells #[.int .i64 o, .int .i64 l, .int .i64 m, .slice pa R.ps.length pc, .int .i64 b, .int .i64 R.last, .slice ca R.C.length cc, .slice da R.D.length dc, .int .i64 R.e, .int .i64 R.p] 71 (0, 0)) ∧
        Own encB 5 wX da dc R.D (w.heap.size + 2) ∧ Own encP 81 wX qa qc R.ps (w.heap.size + 2) ∧ Below w.heap.size w wX) ⟨?_, ?_, ?_, ?_, ?_, ?_⟩ ?_
      · (repeat (first | exact push_new _ _ _ (by simp <;> omega) | apply blk_plus | apply blk_alloc))
      · (repeat (first | exact push_new _ _ _ (by simp <;> omega) | apply blk_plus | apply blk_alloc))
      · (repeat (first | exact push_new _ _ _ (by simp <;> omega) | apply blk_plus | apply blk_alloc))
      · (repeat (first | exact HOD.out.lower (by simp) | (with_reducible apply Own.plus) | (with_reducible apply Own.alloc)))
      · (repeat (first | exact (own_swap HQ.out (by simp) (by simp <;> omega)).lower (by simp <;> omega) | (with_reducible apply Own.plus) | (with_reducible apply Own.alloc)))
      · exact (by repeat (first | exact Below.refl _ _ | refine below_plus ?_ (by first | omega | (simp <;> omega)) _ | refine Below.alloc ?_ (by first | omega | (simp <;> omega)) _ | refine below_patch ?_ (by omega) _ | refine Below.drew ?_))
      rintro wX ⟨h1, h2, h3, h4, h5, h6⟩
      have r1 := cell_of h1
      have f1 := free_of h1
      have u1 := fun i v => setCell_patch h1 i v
      have r2 := cell_of h2
      have r3 := cell_of h3
      have z1 := (Array.getElem?_eq_some_iff.1 h1).1
      have hc1 := hcv _ h4
      have hc2 := hcv _ h4.drew
      have hc3 := fun ob => hcv _ (own_patch (ob := ob) (b := w.heap.size + 1) h4 (fun X hX e => by have := own_lo h4 X hX; omega))
      have hc4 := fun ob => hcv _ (own_patch (ob := ob) (b := w.heap.size + 1) h4 (fun X hX e => by have := own_lo h4 X hX; omega)).drew
      have HO5 := Lib.hid h5
      have HB6 := Lib.hid h6
      clear h1 h2 h3 h4 h5 h6 hcv
      go_region_o
      go_wp2
      refine bodyPost_ret (v := .tuple #[.agg #[.int .i64 o, .int .i64 l, .int .i64 m, .slice qa R.ps.length qc, .int .i64 b, .int .i64 R.last, .string sb, .int .i64 ((sz : Int) + R.D.length), .int .i64 ((ct : Int) + R.C.length), .int .i64 R.e], .string (bstr R.D), .int .i64 (u.size), .bool true]) (by simp [results, Tryz.results13, go_sem, ↓IntWalk.iteOmega]) rfl ?_
      rw [HU.out]
      exact ⟨qa, qc, by rfl, ((own_patch HO5.out (fun X hX e => by have := own_lo HO5.out X hX; omega)).drew).lower (by omega), below_more (Below.drew (below_patch HB6.out (by omega) _))⟩
    · have v2 : (R.e == 1) = false := by simp [he]
      obtain ⟨M, hM⟩ : ∃ M, max 0 ((R.p : Int) - (s.size : Int)) = M := ⟨_, rfl⟩
      have hM0 : 0 ≤ M := by omega
      have hM1 : M ≤ 100000 := by omega
      have HU := Lib.hid (show usedI u.size s.size R = (M + 7) / 8 by unfold usedI; rw [if_neg he, hM])
      have HSX := Lib.hid (show ⟨#[]⟩ = sb by rw [← HSB.out, if_neg he])
      clear he
      go_wp2_with fail
      refine wp_named (fun wX => wX.heap[w.heap.size + 1]? = some (.cells #[.int .i64 0, .int .i64 0, .int .i64 0, .slice none 0 0, .int .i64 0, .int .i64 0, .string ⟨#[]⟩, .int .i64 0, .int .i64 0, .int .i64 0] 28 (0, 0)) ∧
        wX.heap[w.heap.size + 1 + 1 + (xc.n + x5.n + x6.n) + 1]? = some (.cells #[.int .i64 o, .int .i64 l, .int .i64 m, .slice qa R.ps.length qc, .int .i64 b, .int .i64 R.last, .string ⟨#[]⟩, .int .i64 ((sz : Int) + R.D.length), .int .i64 ((ct : Int) + R.C.length), .int .i64 R.e] 28 (0, 0)) ∧
        wX.heap[w.heap.size + 1 + 1 + (xc.n + x5.n + x6.n)]? = some (.cells #[.int .i64 o, .int .i64 l, .int .i64 m, .slice pa R.ps.length pc, .int .i64 b, .int .i64 R.last, .slice ca R.C.length cc, .slice da R.D.length dc, .int .i64 R.e, .int .i64 R.p] 71 (0, 0)) ∧
        Own encB 5 wX da dc R.D (w.heap.size + 2) ∧ Own encP 81 wX qa qc R.ps (w.heap.size + 2) ∧ Below w.heap.size w wX) ⟨?_, ?_, ?_, ?_, ?_, ?_⟩ ?_
      · (repeat (first | exact push_new _ _ _ (by simp <;> omega) | apply blk_plus | apply blk_alloc))
      · (repeat (first | exact push_new _ _ _ (by simp <;> omega) | apply blk_plus | apply blk_alloc))
      · (repeat (first | exact push_new _ _ _ (by simp <;> omega) | apply blk_plus | apply blk_alloc))
      · (repeat (first | exact HOD.out.lower (by simp) | (with_reducible apply Own.plus) | (with_reducible apply Own.alloc)))
      · (repeat (first | exact (own_swap HQ.out (by simp) (by simp <;> omega)).lower (by simp <;> omega) | (with_reducible apply Own.plus) | (with_reducible apply Own.alloc)))
      · exact (by repeat (first | exact Below.refl _ _ | refine below_plus ?_ (by first | omega | (simp <;> omega)) _ | refine Below.alloc ?_ (by first | omega | (simp <;> omega)) _ | refine below_patch ?_ (by omega) _ | refine Below.drew ?_))
      rintro wX ⟨h1, h2, h3, h4, h5, h6⟩
      have r1 := cell_of h1
      have f1 := free_of h1
      have u1 := fun i v => setCell_patch h1 i v
      have r2 := cell_of h2
      have r3 := cell_of h3
      have z1 := (Array.getElem?_eq_some_iff.1 h1).1
      have hc1 := hcv _ h4
      have hc2 := hcv _ h4.drew
      have hc3 := fun ob => hcv _ (own_patch (ob := ob) (b := w.heap.size + 1) h4 (fun X hX e => by have := own_lo h4 X hX; omega))
      have hc4 := fun ob => hcv _ (own_patch (ob := ob) (b := w.heap.size + 1) h4 (fun X hX e => by have := own_lo h4 X hX; omega)).drew
      have HO5 := Lib.hid h5
      have HB6 := Lib.hid h6
      clear h1 h2 h3 h4 h5 h6 hcv
      go_region_o
      go_wp2
      refine bodyPost_ret (v := .tuple #[.agg #[.int .i64 o, .int .i64 l, .int .i64 m, .slice qa R.ps.length qc, .int .i64 b, .int .i64 R.last, .string ⟨#[]⟩, .int .i64 ((sz : Int) + R.D.length), .int .i64 ((ct : Int) + R.C.length), .int .i64 R.e], .string (bstr R.D), .int .i64 ((M + 7) / 8), .bool true]) (by simp [results, Tryz.results13, go_sem, ↓IntWalk.iteOmega]) rfl ?_
      rw [HU.out]
      exact ⟨qa, qc, by rw [HSX.out], ((own_patch HO5.out (fun X hX e => by have := own_lo HO5.out X hX; omega)).drew).lower (by omega), below_more (Below.drew (below_patch HB6.out (by omega) _))⟩
  ·
    have hcv := fun (W : World) (h : Own encB 5 W da dc R.D (w.heap.size + 2)) => run_str_own (P := Tryz.prog) (W := W) Tryz.underlying34 Tryz.underlying5 Tryz.underlying9 h
    have q1 : w.heap.size < w.heap.size + 1 + 1 + (xc.n + x5.n + x6.n) := by omega
    have q2 : w.heap.size + 1 < w.heap.size + 1 + 1 + (xc.n + x5.n + x6.n) := by omega
    have q3 : w.heap.size < w.heap.size + 1 + 1 + (xc.n + x5.n + x6.n) + 1 := by omega
    have q4 : w.heap.size + 1 < w.heap.size + 1 + 1 + (xc.n + x5.n + x6.n) + 1 := by omega
    have q5 : w.heap.size < w.heap.size + 1 + 1 + (xc.n + x5.n + x6.n) + 1 + 1 := by omega
    have q6 : w.heap.size + 1 < w.heap.size + 1 + 1 + (xc.n + x5.n + x6.n) + 1 + 1 := by omega
    have q7 : w.heap.size + 1 + 1 + (xc.n + x5.n + x6.n) < w.heap.size + 1 + 1 + (xc.n + x5.n + x6.n) + 1 + 1 := by omega
    have q8 : w.heap.size < w.heap.size + 1 + 1 + (xc.n + x5.n + x6.n) + 1 + x7.n := by omega
    have q9 : w.heap.size + 1 < w.heap.size + 1 + 1 + (xc.n + x5.n + x6.n) + 1 + x7.n := by omega
    have q10 : w.heap.size + 1 + 1 + (xc.n + x5.n + x6.n) < w.heap.size + 1 + 1 + (xc.n + x5.n + x6.n) + 1 + x7.n := by omega
    by_cases he : R.e = 1
    · have v2 : (R.e == 1) = true := by simp [he]
      have HU := Lib.hid (show usedI u.size s.size R = (u.size : Int) by unfold usedI; rw [if_pos he])
      have hsx : z.extract R.p bits.length = sb := by rw [← hzs, ← HSB.out, if_pos he, ← HZT.out, ← ext_drop, bstr_bytes]
      have HHE := Lib.hid he
      clear he
      go_wp2_with fail
      refine wp_named (fun wX => wX.heap[w.heap.size + 1]? = some (.cells #[.int .i64 0, .int .i64 0, .int .i64 0, .slice none 0 0, .int .i64 0, .int .i64 0, .string ⟨#[]⟩, .int .i64 0, .int .i64 0, .int .i64 0] 28 (0, 0)) ∧
        wX.heap[w.heap.size + 1 + 1 + (xc.n + x5.n + x6.n) + 1 + x7.n]? = some (.cells #[.int .i64 o, .int .i64 l, .int .i64 m, .slice qa R.ps.length qc, .int .i64 b, .int .i64 R.last, .string sb, .int .i64 ((sz : Int) + R.D.length), .int .i64 ((ct : Int) + R.C.length), .int .i64 R.e] 28 (0, 0)) ∧
        wX.heap[w.heap.size + 1 + 1 + (xc.n + x5.n + x6.n)]? = some (.cells #[.int .i64 o, .int .i64 l, .int .i64 m, .slice pa R.ps.length pc, .int .i64 b, .int .i64 R.last, .slice ca R.C.length cc, .slice da R.D.length dc, .int .i64 R.e, .int .i64 R.p] 71 (0, 0)) ∧
        Own encB 5 wX da dc R.D (w.heap.size + 2) ∧ Own encP 81 wX qa qc R.ps (w.heap.size + 2) ∧ Below w.heap.size w wX) ⟨?_, ?_, ?_, ?_, ?_, ?_⟩ ?_
      · (repeat (first | exact push_new _ _ _ (by simp <;> omega) | apply blk_plus | apply blk_alloc))
      · (repeat (first | exact push_new _ _ _ (by simp <;> omega) | apply blk_plus | apply blk_alloc))
      · (repeat (first | exact push_new _ _ _ (by simp <;> omega) | apply blk_plus | apply blk_alloc))
      · (repeat (first | exact HOD.out.lower (by simp) | (with_reducible apply Own.plus) | (with_reducible apply Own.alloc)))
      · (repeat (first | exact (own_swap HQ.out (by simp) (by simp <;> omega)).lower (by simp <;> omega) | (with_reducible apply Own.plus) | (with_reducible apply Own.alloc)))
      · exact (by repeat (first | exact Below.refl _ _ | refine below_plus ?_ (by first | omega | (simp <;> omega)) _ | refine Below.alloc ?_ (by first | omega | (simp <;> omega)) _ | refine below_patch ?_ (by omega) _ | refine Below.drew ?_))
      rintro wX ⟨h1, h2, h3, h4, h5, h6⟩
      have r1 := cell_of h1
      have f1 := free_of h1
      have u1 := fun i v => setCell_patch h1 i v
      have r2 := cell_of h2
      have r3 := cell_of h3
      have z1 := (Array.getElem?_eq_some_iff.1 h1).1
      have hc1 := hcv _ h4
      have hc2 := hcv _ h4.drew
      have hc3 := fun ob => hcv _ (own_patch (ob := ob) (b := w.heap.size + 1) h4 (fun X hX e => by have := own_lo h4 X hX; omega))
      have hc4 := fun ob => hcv _ (own_patch (ob := ob) (b := w.heap.size + 1) h4 (fun X hX e => by have := own_lo h4 X hX; omega)).drew
      have HO5 := Lib.hid h5
      have HB6 := Lib.hid h6
      clear h1 h2 h3 h4 h5 h6 hcv
      go_region_o
      go_wp2
      refine bodyPost_ret (v := .tuple #[.agg #[.int .i64 o, .int .i64 l, .int .i64 m, .slice qa R.ps.length qc, .int .i64 b, .int .i64 R.last, .string sb, .int .i64 ((sz : Int) + R.D.length), .int .i64 ((ct : Int) + R.C.length), .int .i64 R.e], .string (bstr R.D), .int .i64 (u.size), .bool true]) (by simp [results, Tryz.results13, go_sem, ↓IntWalk.iteOmega]) rfl ?_
      rw [HU.out]
      exact ⟨qa, qc, by rfl, ((own_patch HO5.out (fun X hX e => by have := own_lo HO5.out X hX; omega)).drew).lower (by omega), below_more (Below.drew (below_patch HB6.out (by omega) _))⟩
    · have v2 : (R.e == 1) = false := by simp [he]
      obtain ⟨M, hM⟩ : ∃ M, max 0 ((R.p : Int) - (s.size : Int)) = M := ⟨_, rfl⟩
      have hM0 : 0 ≤ M := by omega
      have hM1 : M ≤ 100000 := by omega
      have HU := Lib.hid (show usedI u.size s.size R = (M + 7) / 8 by unfold usedI; rw [if_neg he, hM])
      have HSX := Lib.hid (show ⟨#[]⟩ = sb by rw [← HSB.out, if_neg he])
      clear he
      go_wp2_with fail
      refine wp_named (fun wX => wX.heap[w.heap.size + 1]? = some (.cells #[.int .i64 0, .int .i64 0, .int .i64 0, .slice none 0 0, .int .i64 0, .int .i64 0, .string ⟨#[]⟩, .int .i64 0, .int .i64 0, .int .i64 0] 28 (0, 0)) ∧
        wX.heap[w.heap.size + 1 + 1 + (xc.n + x5.n + x6.n) + 1 + x7.n]? = some (.cells #[.int .i64 o, .int .i64 l, .int .i64 m, .slice qa R.ps.length qc, .int .i64 b, .int .i64 R.last, .string ⟨#[]⟩, .int .i64 ((sz : Int) + R.D.length), .int .i64 ((ct : Int) + R.C.length), .int .i64 R.e] 28 (0, 0)) ∧
        wX.heap[w.heap.size + 1 + 1 + (xc.n + x5.n + x6.n)]? = some (.cells #[.int .i64 o, .int .i64 l, .int .i64 m, .slice pa R.ps.length pc, .int .i64 b, .int .i64 R.last, .slice ca R.C.length cc, .slice da R.D.length dc, .int .i64 R.e, .int .i64 R.p] 71 (0, 0)) ∧
        Own encB 5 wX da dc R.D (w.heap.size + 2) ∧ Own encP 81 wX qa qc R.ps (w.heap.size + 2) ∧ Below w.heap.size w wX) ⟨?_, ?_, ?_, ?_, ?_, ?_⟩ ?_
      · (repeat (first | exact push_new _ _ _ (by simp <;> omega) | apply blk_plus | apply blk_alloc))
      · (repeat (first | exact push_new _ _ _ (by simp <;> omega) | apply blk_plus | apply blk_alloc))
      · (repeat (first | exact push_new _ _ _ (by simp <;> omega) | apply blk_plus | apply blk_alloc))
      · (repeat (first | exact HOD.out.lower (by simp) | (with_reducible apply Own.plus) | (with_reducible apply Own.alloc)))
      · (repeat (first | exact (own_swap HQ.out (by simp) (by simp <;> omega)).lower (by simp <;> omega) | (with_reducible apply Own.plus) | (with_reducible apply Own.alloc)))
      · exact (by repeat (first | exact Below.refl _ _ | refine below_plus ?_ (by first | omega | (simp <;> omega)) _ | refine Below.alloc ?_ (by first | omega | (simp <;> omega)) _ | refine below_patch ?_ (by omega) _ | refine Below.drew ?_))
      rintro wX ⟨h1, h2, h3, h4, h5, h6⟩
      have r1 := cell_of h1
      have f1 := free_of h1
      have u1 := fun i v => setCell_patch h1 i v
      have r2 := cell_of h2
      have r3 := cell_of h3
      have z1 := (Array.getElem?_eq_some_iff.1 h1).1
      have hc1 := hcv _ h4
      have hc2 := hcv _ h4.drew
      have hc3 := fun ob => hcv _ (own_patch (ob := ob) (b := w.heap.size + 1) h4 (fun X hX e => by have := own_lo h4 X hX; omega))
      have hc4 := fun ob => hcv _ (own_patch (ob := ob) (b := w.heap.size + 1) h4 (fun X hX e => by have := own_lo h4 X hX; omega)).drew
      have HO5 := Lib.hid h5
      have HB6 := Lib.hid h6
      clear h1 h2 h3 h4 h5 h6 hcv
      go_region_o
      go_wp2
      refine bodyPost_ret (v := .tuple #[.agg #[.int .i64 o, .int .i64 l, .int .i64 m, .slice qa R.ps.length qc, .int .i64 b, .int .i64 R.last, .string ⟨#[]⟩, .int .i64 ((sz : Int) + R.D.length), .int .i64 ((ct : Int) + R.C.length), .int .i64 R.e], .string (bstr R.D), .int .i64 ((M + 7) / 8), .bool true]) (by simp [results, Tryz.results13, go_sem, ↓IntWalk.iteOmega]) rfl ?_
      rw [HU.out]
      exact ⟨qa, qc, by rw [HSX.out], ((own_patch HO5.out (fun X hX e => by have := own_lo HO5.out X hX; omega)).drew).lower (by omega), below_more (Below.drew (below_patch HB6.out (by omega) _))⟩

end Go.Proofs.YtmddcbebaijjkaaGreatDoor

/- The walks of ReadStream where nothing is read. -/
namespace Go.Proofs.YtmddcbebaijjkaaGreatDoor
open Go.RowKit
set_option linter.unusedVariables false
set_option linter.unusedSimpArgs false



set_option maxRecDepth 100000 in
set_option maxHeartbeats 2000000 in
theorem implReadStream_no (o l m : Int) (a : Option Addr) (cap : Nat) (ps : List Pr) (base last : Int) (s u : ByteArray) (z c e : Int) (w : World) (hr : RdP w a cap ps) (hs : s.size ≤ maxLen) (hm : u.size ≤ maxLen) (h : rdb o l m ps base last s z c e = false ∨ 4000 < u.size) :
    Calls Tryz.prog 13 #[.agg #[.int .i64 o, .int .i64 l, .int .i64 m, .slice a ps.length cap, .int .i64 base, .int .i64 last, .string s, .int .i64 z, .int .i64 c, .int .i64 e], .string u] w (RetO w (fun a0 c0 => .tuple #[.agg #[.int .i64 0, .int .i64 0, .int .i64 0, .slice a0 ([] : List Pr).length c0, .int .i64 0, .int .i64 0, .string ⟨#[]⟩, .int .i64 0, .int .i64 0, .int .i64 0], .string ⟨#[]⟩, .int .i64 0, .bool false]) []) := by
  unfold maxLen at hm
  have HRP := Lib.hid hr
  clear hr
  cases hk : rdb o l m ps base last s z c e
  · go_enter Tryz.func13, Tryz.ntmps13
    go_wp2_with (go_at_call 19; refine (ReaderValid_any _ _ _ _ _ ps _ _ s _ _ _ _ (by repeat (first | exact HRP.out | apply rd_seq | apply Rd.plus | apply Rd.alloc | apply Rd.drew | apply Rd.drewN | refine rd_patch ?_ _ _ (by intro A hA; first | (cases hA; show _ ≠ _; omega) | (have := hal A hA; omega)))) hs).mono ?_; rintro E w' ⟨rfl, xc, rfl⟩; rw [hk])
    exact bodyPost_ret (v := .tuple #[.agg #[.int .i64 0, .int .i64 0, .int .i64 0, .slice none 0 0, .int .i64 0, .int .i64 0, .string ⟨#[]⟩, .int .i64 0, .int .i64 0, .int .i64 0], .string ⟨#[]⟩, .int .i64 0, .bool false]) (by simp [results, Tryz.results13, go_sem, ↓IntWalk.iteOmega]) rfl ⟨none, 0, rfl, .inl ⟨rfl, rfl, rfl⟩, (by repeat (first | exact More.refl _ | apply More.plus | apply More.alloc | apply More.drew | apply More.drewN))⟩
  · have hu : 4000 < u.size := by
      rcases h with h | h
      · rw [hk] at h; cases h
      · exact h
    have v1 : decide (4000 < u.size) = true := decide_eq_true hu
    go_enter Tryz.func13, Tryz.ntmps13
    go_wp2_with (go_at_call 19; refine (ReaderValid_any _ _ _ _ _ ps _ _ s _ _ _ _ (by repeat (first | exact HRP.out | apply rd_seq | apply Rd.plus | apply Rd.alloc | apply Rd.drew | apply Rd.drewN | refine rd_patch ?_ _ _ (by intro A hA; first | (cases hA; show _ ≠ _; omega) | (have := hal A hA; omega)))) hs).mono ?_; rintro E w' ⟨rfl, xc, rfl⟩; rw [hk])
    exact bodyPost_ret (v := .tuple #[.agg #[.int .i64 0, .int .i64 0, .int .i64 0, .slice none 0 0, .int .i64 0, .int .i64 0, .string ⟨#[]⟩, .int .i64 0, .int .i64 0, .int .i64 0], .string ⟨#[]⟩, .int .i64 0, .bool false]) (by simp [results, Tryz.results13, go_sem, ↓IntWalk.iteOmega]) rfl ⟨none, 0, rfl, .inl ⟨rfl, rfl, rfl⟩, (by repeat (first | exact More.refl _ | apply More.plus | apply More.alloc | apply More.drew | apply More.drewN))⟩

set_option maxRecDepth 100000 in
set_option maxHeartbeats 2000000 in
theorem specReadStream_no (o l m : Int) (a : Option Addr) (cap : Nat) (ps : List Pr) (base last : Int) (s u : ByteArray) (z c e : Int) (w : World) (hr : RdP w a cap ps) (hs : s.size ≤ maxLen) (hm : u.size ≤ maxLen) (h : rdb o l m ps base last s z c e = false ∨ 4000 < u.size) :
    Calls Tryz.prog 14 #[.agg #[.int .i64 o, .int .i64 l, .int .i64 m, .slice a ps.length cap, .int .i64 base, .int .i64 last, .string s, .int .i64 z, .int .i64 c, .int .i64 e], .string u] w (RetO w (fun a0 c0 => .tuple #[.agg #[.int .i64 0, .int .i64 0, .int .i64 0, .slice a0 ([] : List Pr).length c0, .int .i64 0, .int .i64 0, .string ⟨#[]⟩, .int .i64 0, .int .i64 0, .int .i64 0], .string ⟨#[]⟩, .int .i64 0, .bool false]) []) := by
  unfold maxLen at hm
  have HRP := Lib.hid hr
  clear hr
  cases hk : rdb o l m ps base last s z c e
  · go_enter Tryz.func14, Tryz.ntmps14
    go_wp2_with (go_at_call 47; refine (specReaderValid_any _ _ _ _ _ ps _ _ s _ _ _ _ (by repeat (first | exact HRP.out | apply rd_seq | apply Rd.plus | apply Rd.alloc | apply Rd.drew | apply Rd.drewN | refine rd_patch ?_ _ _ (by intro A hA; first | (cases hA; show _ ≠ _; omega) | (have := hal A hA; omega)))) hs).mono ?_; rintro E w' ⟨rfl, xc, rfl⟩; rw [hk])
    exact bodyPost_ret (v := .tuple #[.agg #[.int .i64 0, .int .i64 0, .int .i64 0, .slice none 0 0, .int .i64 0, .int .i64 0, .string ⟨#[]⟩, .int .i64 0, .int .i64 0, .int .i64 0], .string ⟨#[]⟩, .int .i64 0, .bool false]) (by simp [results, Tryz.results14, go_sem, ↓IntWalk.iteOmega]) rfl ⟨none, 0, rfl, .inl ⟨rfl, rfl, rfl⟩, (by repeat (first | exact More.refl _ | apply More.plus | apply More.alloc | apply More.drew | apply More.drewN))⟩
  · have hu : 4000 < u.size := by
      rcases h with h | h
      · rw [hk] at h; cases h
      · exact h
    have v1 : decide (4000 < u.size) = true := decide_eq_true hu
    go_enter Tryz.func14, Tryz.ntmps14
    go_wp2_with (go_at_call 47; refine (specReaderValid_any _ _ _ _ _ ps _ _ s _ _ _ _ (by repeat (first | exact HRP.out | apply rd_seq | apply Rd.plus | apply Rd.alloc | apply Rd.drew | apply Rd.drewN | refine rd_patch ?_ _ _ (by intro A hA; first | (cases hA; show _ ≠ _; omega) | (have := hal A hA; omega)))) hs).mono ?_; rintro E w' ⟨rfl, xc, rfl⟩; rw [hk])
    exact bodyPost_ret (v := .tuple #[.agg #[.int .i64 0, .int .i64 0, .int .i64 0, .slice none 0 0, .int .i64 0, .int .i64 0, .string ⟨#[]⟩, .int .i64 0, .int .i64 0, .int .i64 0], .string ⟨#[]⟩, .int .i64 0, .bool false]) (by simp [results, Tryz.results14, go_sem, ↓IntWalk.iteOmega]) rfl ⟨none, 0, rfl, .inl ⟨rfl, rfl, rfl⟩, (by repeat (first | exact More.refl _ | apply More.plus | apply More.alloc | apply More.drew | apply More.drewN))⟩

set_option maxRecDepth 100000 in
set_option maxHeartbeats 2000000 in
theorem implReadStream_ended (o l m : Int) (a : Option Addr) (cap : Nat) (ps : List Pr) (base last : Int) (s u : ByteArray) (z c e : Int) (w : World) (hr : RdP w a cap ps) (hs : s.size ≤ maxLen) (hu : u.size ≤ 4000) (hk : rdb o l m ps base last s z c e = true) (he : e ≠ 1) (hn : ps.length ≤ 2000000) :
    Calls Tryz.prog 13 #[.agg #[.int .i64 o, .int .i64 l, .int .i64 m, .slice a ps.length cap, .int .i64 base, .int .i64 last, .string s, .int .i64 z, .int .i64 c, .int .i64 e], .string u] w (RetO w (fun a0 c0 => .tuple #[.agg #[.int .i64 o, .int .i64 l, .int .i64 m, .slice a0 ps.length c0, .int .i64 base, .int .i64 last, .string s, .int .i64 z, .int .i64 c, .int .i64 e], .string ⟨#[]⟩, .int .i64 0, .bool true]) ps) := by
  have HRP := Lib.hid hr
  have v1 : decide (4000 < u.size) = false := by simp; omega
  have v2 : (e != 1) = true := by simp [he]
  clear hr he
  go_enter Tryz.func13, Tryz.ntmps13
  go_wp2_with (go_at_call 19; refine (ReaderValid_any _ _ _ _ _ ps _ _ s _ _ _ _ (by repeat (first | exact HRP.out | apply rd_seq | apply Rd.plus | apply Rd.alloc | apply Rd.drew | apply Rd.drewN | refine rd_patch ?_ _ _ (by intro A hA; first | (cases hA; show _ ≠ _; omega) | (have := hal A hA; omega)))) hs).mono ?_; rintro E w' ⟨rfl, xc, rfl⟩; rw [hk])
  refine (copyKnown_any _ _ _ _ _ ps _ _ _ (by repeat (first | exact HRP.out | apply rd_seq | apply Rd.plus | apply Rd.alloc | apply Rd.drew | apply Rd.drewN | refine rd_patch ?_ _ _ (by intro A hA; first | (cases hA; show _ ≠ _; omega) | (have := hal A hA; omega)))) hn).mono ?_
  rintro E w' ⟨qa, qc, rfl, hq, x7, rfl⟩
  (try simp only [plus_plus] at hq)
  have HQ := Lib.hid hq
  clear hq
  go_wp2_with fail
  refine bodyPost_ret (v := .tuple #[.agg #[.int .i64 o, .int .i64 l, .int .i64 m, .slice qa ps.length qc, .int .i64 base, .int .i64 last, .string s, .int .i64 z, .int .i64 c, .int .i64 e], .string ⟨#[]⟩, .int .i64 0, .bool true]) (by simp [results, Tryz.results13, go_sem, ↓IntWalk.iteOmega]) rfl ?_
  exact ⟨qa, qc, rfl, (by repeat (first | exact (own_swap HQ.out (by simp) (by simp <;> omega)).lower (by simp <;> omega) | (with_reducible apply Own.alloc) | (with_reducible apply Own.drew) | (with_reducible apply own_draw) | (with_reducible apply own_seq))), (by repeat (first | exact More.refl _ | apply More.plus | apply More.alloc | apply More.drew | apply More.drewN))⟩

set_option maxRecDepth 100000 in
set_option maxHeartbeats 2000000 in
theorem specReadStream_ended (o l m : Int) (a : Option Addr) (cap : Nat) (ps : List Pr) (base last : Int) (s u : ByteArray) (z c e : Int) (w : World) (hr : RdP w a cap ps) (hs : s.size ≤ maxLen) (hu : u.size ≤ 4000) (hk : rdb o l m ps base last s z c e = true) (he : e ≠ 1) (hn : ps.length ≤ 2000000) :
    Calls Tryz.prog 14 #[.agg #[.int .i64 o, .int .i64 l, .int .i64 m, .slice a ps.length cap, .int .i64 base, .int .i64 last, .string s, .int .i64 z, .int .i64 c, .int .i64 e], .string u] w (RetO w (fun a0 c0 => .tuple #[.agg #[.int .i64 o, .int .i64 l, .int .i64 m, .slice a0 ps.length c0, .int .i64 base, .int .i64 last, .string s, .int .i64 z, .int .i64 c, .int .i64 e], .string ⟨#[]⟩, .int .i64 0, .bool true]) ps) := by
  have HRP := Lib.hid hr
  have v1 : decide (4000 < u.size) = false := by simp; omega
  have v2 : (e != 1) = true := by simp [he]
  clear hr he
  go_enter Tryz.func14, Tryz.ntmps14
  go_wp2_with (go_at_call 47; refine (specReaderValid_any _ _ _ _ _ ps _ _ s _ _ _ _ (by repeat (first | exact HRP.out | apply rd_seq | apply Rd.plus | apply Rd.alloc | apply Rd.drew | apply Rd.drewN | refine rd_patch ?_ _ _ (by intro A hA; first | (cases hA; show _ ≠ _; omega) | (have := hal A hA; omega)))) hs).mono ?_; rintro E w' ⟨rfl, xc, rfl⟩; rw [hk])
  refine (l3Copy_any _ _ _ _ _ ps _ _ _ (by repeat (first | exact HRP.out | apply rd_seq | apply Rd.plus | apply Rd.alloc | apply Rd.drew | apply Rd.drewN | refine rd_patch ?_ _ _ (by intro A hA; first | (cases hA; show _ ≠ _; omega) | (have := hal A hA; omega)))) hn).mono ?_
  rintro E w' ⟨qa, qc, rfl, hq, x7, rfl⟩
  (try simp only [plus_plus] at hq)
  have HQ := Lib.hid hq
  clear hq
  go_wp2_with fail
  refine bodyPost_ret (v := .tuple #[.agg #[.int .i64 o, .int .i64 l, .int .i64 m, .slice qa ps.length qc, .int .i64 base, .int .i64 last, .string s, .int .i64 z, .int .i64 c, .int .i64 e], .string ⟨#[]⟩, .int .i64 0, .bool true]) (by simp [results, Tryz.results14, go_sem, ↓IntWalk.iteOmega]) rfl ?_
  exact ⟨qa, qc, rfl, (by repeat (first | exact (own_swap HQ.out (by simp) (by simp <;> omega)).lower (by simp <;> omega) | (with_reducible apply Own.alloc) | (with_reducible apply Own.drew) | (with_reducible apply own_draw) | (with_reducible apply own_seq))), (by repeat (first | exact More.refl _ | apply More.plus | apply More.alloc | apply More.drew | apply More.drewN))⟩

end Go.Proofs.YtmddcbebaijjkaaGreatDoor

/- What reading gives, in the program and in the reference: one case split for the laws. -/
namespace Go.Proofs.YtmddcbebaijjkaaGreatDoor
open Go.RowKit
set_option linter.unusedVariables false
set_option linter.unusedSimpArgs false

theorem rdc_geJ {o l m : Int} {b sz ct : Nat} {bits : List UInt8} : ∀ (f : Nat) (ps : List Pr) (last : Int) (p : Nat) (C : List Int) (D : List UInt8), p ≤ (rdc o l m b sz ct bits f ps last p C D).p
  | 0, ps, last, p, C, D => Nat.le_refl _
  | f + 1, ps, last, p, C, D => by
    unfold rdc
    by_cases hn : bits.length - p < (wd l m ps.length last).toNat
    · rw [if_pos hn]; exact Nat.le_refl _
    · rw [if_neg hn]
      repeat' split
      all_goals first | exact Nat.le_add_right _ _ | exact Nat.le_trans (Nat.le_add_right _ _) (rdc_geJ f _ _ _ _ _)

theorem rdc_firstJ {o l m : Int} {b sz ct : Nat} {bits : List UInt8} {f : Nat} {ps : List Pr} {last : Int} {p : Nat} {C : List Int} {D : List UInt8} : (rdc o l m b sz ct bits (f + 1) ps last p C D).e ≠ 1 → p + (wd l m ps.length last).toNat ≤ (rdc o l m b sz ct bits (f + 1) ps last p C D).p := by
  unfold rdc
  by_cases hn : bits.length - p < (wd l m ps.length last).toNat
  · rw [if_pos hn]; intro h; exact absurd rfl h
  · rw [if_neg hn]
    intro _
    repeat' split
    all_goals first | exact Nat.le_refl _ | exact rdc_geJ f _ _ _ _ _

theorem used_eqJ {L u s w : Nat} {R : Rg} (hL : L = s + 8 * u) (hp : R.p ≤ L) (hw : R.e ≠ 1 → w ≤ R.p) (hs : s < w) : usedI u s R = (u : Int) - leftV L R / 8 := by
  unfold usedI leftV
  by_cases he : R.e = 1
  · rw [if_pos he, if_pos he]; omega
  · rw [if_neg he, if_neg he]
    have := hw he
    omega

/-- what both sides return from a reader and a piece of a stream -/
def Reads (o l m : Int) (ps : List Pr) (base last : Int) (sb : ByteArray) (z c e : Int) (u : ByteArray) (o1 l1 m1 : Int) (qs : List Pr) (b1 la1 : Int) (sb1 : ByteArray) (z1 c1 e1 : Int) (dt : ByteArray) (n : Int) (ok : Bool) : Prop :=
  (∀ (W : World) (a : Option Addr) (cap : Nat), RdP W a cap ps → Calls Tryz.prog 14 #[.agg #[.int .i64 o, .int .i64 l, .int .i64 m, .slice a ps.length cap, .int .i64 base, .int .i64 last, .string sb, .int .i64 z, .int .i64 c, .int .i64 e], .string u] W (RetO W (fun a0 c0 => .tuple #[.agg #[.int .i64 o1, .int .i64 l1, .int .i64 m1, .slice a0 qs.length c0, .int .i64 b1, .int .i64 la1, .string sb1, .int .i64 z1, .int .i64 c1, .int .i64 e1], .string dt, .int .i64 n, .bool ok]) qs)) ∧
  (∀ (W : World) (a : Option Addr) (cap : Nat), RdP W a cap ps → Calls Tryz.prog 13 #[.agg #[.int .i64 o, .int .i64 l, .int .i64 m, .slice a ps.length cap, .int .i64 base, .int .i64 last, .string sb, .int .i64 z, .int .i64 c, .int .i64 e], .string u] W (RetO W (fun a0 c0 => .tuple #[.agg #[.int .i64 o1, .int .i64 l1, .int .i64 m1, .slice a0 qs.length c0, .int .i64 b1, .int .i64 la1, .string sb1, .int .i64 z1, .int .i64 c1, .int .i64 e1], .string dt, .int .i64 n, .bool ok]) qs))

/-- what the program reads: an argument that it refuses -/
theorem reads_no {o l m : Int} {ps : List Pr} {base last : Int} {sb : ByteArray} {z c e : Int} {u : ByteArray} (hsz : sb.size ≤ maxLen) (hm1 : u.size ≤ maxLen) (h : rdb o l m ps base last sb z c e = false ∨ 4000 < u.size) :
    Reads o l m ps base last sb z c e u 0 0 0 [] 0 0 ⟨#[]⟩ 0 0 0 ⟨#[]⟩ 0 false :=
  ⟨fun W a cap hr => specReadStream_no o l m a cap ps base last sb u z c e W hr hsz hm1 h, fun W a cap hr => implReadStream_no o l m a cap ps base last sb u z c e W hr hsz hm1 h⟩

/-- a reader that has ended stays as it is -/
theorem reads_ended {o l m : Int} {ps : List Pr} {base last : Int} {sb : ByteArray} {z c e : Int} {u : ByteArray} (hsz : sb.size ≤ maxLen) (hu : u.size ≤ 4000) (hk : rdb o l m ps base last sb z c e = true) (he : e ≠ 1) :
    Reads o l m ps base last sb z c e u o l m ps base last sb z c e ⟨#[]⟩ 0 true := by
  have hkv : kvb o l m ps base last = true := by
    unfold rdb at hk
    rw [Bool.and_eq_true] at hk
    exact hk.1
  have hkl := kv_len hkv
  exact ⟨fun W a cap hr => specReadStream_ended o l m a cap ps base last sb u z c e W hr hsz hu hk he (by omega), fun W a cap hr => implReadStream_ended o l m a cap ps base last sb u z c e W hr hsz hu hk he (by omega)⟩

/-- what a reader that goes on keeps of its bits -/
def keptB (R : Rg) (bits : List UInt8) : ByteArray := if R.e = 1 then bstr (bits.drop R.p) else ⟨#[]⟩

/-- what is known of a reading -/
structure RdF (o l m : Int) (ps : List Pr) (b : Nat) (last : Int) (sb : ByteArray) (sz ct : Nat) (u : ByteArray) (bits : List UInt8) (R : Rg) : Prop where
  bitsEq : bits = sb.data.toList ++ unpL o u.data.toList
  len : bits.length = sb.size + 8 * u.size
  run : rdc o l m b sz ct bits (bits.length + 1) ps last 0 [] [] = R
  walk : ∃ W, wlk l m b R.C ps last [] [] = some (W, R.D)
  cnt : ct + R.C.length ≤ 3100
  siz : sz + R.D.length ≤ 2000
  kv : KV o l m R.ps (b : Int) R.last
  kept : R.p ≤ bits.length
  first : R.e ≠ 1 → (wd l m ps.length last).toNat ≤ R.p
  short : (sb.size : Int) < wd l m ps.length last
  few : ct < 3100

theorem reads_go {o l m : Int} {ps : List Pr} {base last : Int} {sb : ByteArray} {z c : Int} {u : ByteArray} (hsz : sb.size ≤ maxLen) (hu : u.size ≤ 4000) (hk : rdb o l m ps base last sb z c 1 = true) :
    ∃ (b sz ct : Nat) (bits : List UInt8) (R : Rg), base = b ∧ z = sz ∧ c = ct ∧ RdF o l m ps b last sb sz ct u bits R ∧
      Reads o l m ps base last sb z c 1 u o l m R.ps base R.last (keptB R bits) (z + R.D.length) (c + R.C.length) R.e (bstr R.D) (usedI u.size sb.size R) true := by
  have hk2 := hk
  unfold rdb at hk2
  rw [Bool.and_eq_true] at hk2
  obtain ⟨hkv, hrv0⟩ := hk2
  have hrv := rvb_iff.1 hrv0
  have hkl := kv_len hkv
  have hkk := kvb_iff.1 hkv
  obtain ⟨b, rfl⟩ : ∃ b : Nat, base = b := ⟨base.toNat, by have := hkk.b0; omega⟩
  obtain ⟨sz, rfl⟩ : ∃ b : Nat, z = b := ⟨z.toNat, by have := hrv.z0; omega⟩
  obtain ⟨ct, rfl⟩ : ∃ b : Nat, c = b := ⟨c.toNat, by have := hrv.c0; omega⟩
  have hst : (sb.size : Int) < wd l m ps.length last ∧ (ct : Int) < 3100 := by
    rcases hrv.e with h1 | h1
    · exact h1.2
    · omega
  have hz1 := hrv.z1
  have hwd : wd l m ps.length last ≤ 11 := by
    have h1 := (need_bd (gt l m ps.length last)).2
    have h2 := hkk.lim.bds.2.1
    unfold wd
    omega
  have hss : sb.size ≤ 100 := by omega
  obtain ⟨bits, hbe⟩ : ∃ bits, sb.data.toList ++ unpL o u.data.toList = bits := ⟨_, rfl⟩
  have hbl : bits.length = sb.size + 8 * u.size := by rw [← hbe, List.length_append, unpL_len, bytes_len, bytes_len]
  have f1 := rdc_wlk (o := o) (l := l) (m := m) (b := b) (sz := sz) (ct := ct) (bits := bits) (ps0 := ps) (last0 := last) (bits.length + 1) ps last 0 [] [] [] hkk (fun cs => by simp) (by simp; omega) (by simp; omega)
  have f2 := rdc_p (o := o) (l := l) (m := m) (b := b) (sz := sz) (ct := ct) (bits := bits) (bits.length + 1) ps last 0 [] [] (by omega)
  have f3 := rdc_firstJ (o := o) (l := l) (m := m) (b := b) (sz := sz) (ct := ct) (bits := bits) (f := bits.length) (ps := ps) (last := last) (p := 0) (C := []) (D := [])
  obtain ⟨R, hR⟩ : ∃ R, rdc o l m b sz ct bits (bits.length + 1) ps last 0 [] [] = R := ⟨_, rfl⟩
  rw [hR] at f1 f2 f3
  obtain ⟨f0, f4, f5, f6⟩ := f1
  have f7 := kv_len (kvb_iff.2 f6)
  have hue := used_eqJ (L := bits.length) (u := u.size) (s := sb.size) (w := (wd l m ps.length last).toNat) (R := R) hbl f2 (fun h => by have := f3 h; omega) (by omega)
  obtain ⟨L, hL⟩ : ∃ L, leftV bits.length R = L := ⟨_, rfl⟩
  have hL2 : 0 ≤ L ∧ L ≤ 100000 := by
    rw [← hL]
    unfold leftV
    by_cases he : R.e = 1
    · rw [if_pos he]; omega
    · rw [if_neg he]; omega
  obtain ⟨sx, hsx⟩ : ∃ sx, keptB R bits = sx := ⟨_, rfl⟩
  rw [hL] at hue
  refine ⟨b, sz, ct, bits, R, rfl, rfl, rfl, ⟨hbe.symm, hbl, hR, f0, f4, f5, f6, f2, fun h => by have := f3 h; omega, hst.1, by omega⟩, fun W a cap hr => ?_, fun W a cap hr => ?_⟩
  · have := specReadStream_go o l m a cap ps b last sb u sz ct W hr hk hu hss R bits hbe hR sx hsx L hL hL2.1 hL2.2
    rw [hsx, hue]
    exact this
  · have := implReadStream_go o l m a cap ps b last sb u sz ct W hr hk hu hss R bits hbe hR sx hsx f2 f7 (by omega) (by omega)
    rw [hsx]
    exact this

end Go.Proofs.YtmddcbebaijjkaaGreatDoor

/- Reading as a function, in plain Lean: readings in parts. -/
namespace Go.Proofs.YtmddcbebaijjkaaGreatDoor
open Go.RowKit
set_option linter.unusedVariables false
set_option linter.unusedSimpArgs false

theorem bv_appR {x y : List UInt8} (h : BV x) (k : BV y) : BV (x ++ y) := fun b hb => by
  rcases List.mem_append.1 hb with h1 | h1
  · exact h b h1
  · exact k b h1

/-- how a reading ends -/
theorem rdc_fin {o l m : Int} {b sz ct : Nat} {bits : List UInt8} : ∀ (f : Nat) (ps : List Pr) (last : Int) (p : Nat) (C : List Int) (D : List UInt8) (R : Rg), KV o l m ps (b : Int) last → bits.length - p < f → ct + C.length < 3100 →
    rdc o l m b sz ct bits f ps last p C D = R → C.length ≤ R.C.length ∧ ((R.e = 1 ∧ bits.length - R.p < (wd l m R.ps.length R.last).toNat ∧ ct + R.C.length < 3100) ∨ R.e = 0 ∨ R.e = 2 ∨ R.e = 3)
  | 0, _, _, _, _, _, _, _, h, _, _ => by omega
  | f + 1, ps, last, p, C, D, R, hk, h1, hc0, hR => by
    obtain ⟨w1, _⟩ := wd_pos hk
    obtain ⟨n, hn⟩ : ∃ n, (wd l m ps.length last).toNat = n := ⟨_, rfl⟩
    rw [hn] at w1
    have t1 := (hk.lim.bds).2.2.2.2.1
    by_cases hs : bits.length - p < n
    · rw [rdc_short hn hs] at hR
      subst hR
      exact ⟨Nat.le_refl _, .inl ⟨rfl, by show bits.length - p < (wd l m ps.length last).toNat; omega, hc0⟩⟩
    · obtain ⟨c, hc⟩ : ∃ c, numL o ((bits.drop p).take n) = c := ⟨_, rfl⟩
      cases h3 : canB l m ps.length last c
      · rw [rdc_wrong hn hs hc h3] at hR
        subst hR
        exact ⟨Nat.le_refl _, .inr (.inr (.inl rfl))⟩
      · by_cases h4 : c = two l + 1
        · subst h4
          rw [rdc_end hn hs hc h3] at hR
          subst hR
          exact ⟨by show C.length ≤ (C ++ [_]).length; simp, .inr (.inl rfl)⟩
        · by_cases h5 : c = two l
          · subst h5
            rw [rdc_clear hn hs hc h3] at hR
            by_cases h7 : 3100 ≤ ct + (C.length + 1)
            · rw [if_pos h7] at hR
              subst hR
              exact ⟨by show C.length ≤ (C ++ [_]).length; simp, .inr (.inr (.inr rfl))⟩
            · rw [if_neg h7] at hR
              have := rdc_fin f _ _ _ _ _ R (by simpa using hk.cleared) (by omega) (by rw [List.length_append]; simp; omega) hR
              exact ⟨by have := this.1; rw [List.length_append] at this; omega, this.2⟩
          · by_cases h6 : 2000 < sz + D.length + (anyW l ps last c).length
            · rw [rdc_long hn hs hc h3 h4 h5 h6] at hR
              subst hR
              exact ⟨Nat.le_refl _, .inr (.inr (.inr rfl))⟩
            · rw [rdc_word hn hs hc h3 h4 h5 h6] at hR
              by_cases h7 : 3100 ≤ ct + (C.length + 1)
              · rw [if_pos h7] at hR
                subst hR
                exact ⟨by show C.length ≤ (C ++ [_]).length; simp, .inr (.inr (.inr rfl))⟩
              · rw [if_neg h7] at hR
                have := rdc_fin f _ _ _ _ _ R (hk.after (can_okc t1 h3 h5 h4)) (by omega) (by rw [List.length_append]; simp; omega) hR
                exact ⟨by have := this.1; rw [List.length_append] at this; omega, this.2⟩

/-- a reader -/
structure Rdr where
  ps : List Pr
  last : Int
  sb : ByteArray
  z : Int
  c : Int
  e : Int

/-- the bits before a reader -/
noncomputable def rsB (o : Int) (x : Rdr) (u : ByteArray) : List UInt8 := x.sb.data.toList ++ unpL o u.data.toList

/-- what a reader that goes on reads -/
noncomputable def rsR (o l m : Int) (b : Nat) (x : Rdr) (u : ByteArray) : Rg := rdc o l m b x.z.toNat x.c.toNat (rsB o x u) ((rsB o x u).length + 1) x.ps x.last 0 [] []

/-- the reader behind a reading -/
noncomputable def rsX (o l m : Int) (b : Nat) (x : Rdr) (u : ByteArray) : Rdr :=
  if x.e = 1 then ⟨(rsR o l m b x u).ps, (rsR o l m b x u).last, keptB (rsR o l m b x u) (rsB o x u), x.z + (rsR o l m b x u).D.length, x.c + (rsR o l m b x u).C.length, (rsR o l m b x u).e⟩ else x

noncomputable def rsD (o l m : Int) (b : Nat) (x : Rdr) (u : ByteArray) : ByteArray := if x.e = 1 then bstr (rsR o l m b x u).D else ⟨#[]⟩

noncomputable def rsU (o l m : Int) (b : Nat) (x : Rdr) (u : ByteArray) : Int := if x.e = 1 then usedI u.size x.sb.size (rsR o l m b x u) else 0

/-- a reader that is valid -/
def Rdv (o l m : Int) (b : Nat) (x : Rdr) : Prop := rdb o l m x.ps b x.last x.sb x.z x.c x.e = true

/-- both sides of a reading -/
def ReadsX (o l m : Int) (b : Nat) (x : Rdr) (u : ByteArray) (y : Rdr) (dt : ByteArray) (n : Int) : Prop :=
  Reads o l m x.ps b x.last x.sb x.z x.c x.e u o l m y.ps b y.last y.sb y.z y.c y.e dt n true

/-- what a valid reader does with a stream that is not too long -/
structure Rfx (o l m : Int) (b : Nat) (x : Rdr) (u : ByteArray) : Prop where
  reads : ReadsX o l m b x u (rsX o l m b x u) (rsD o l m b x u) (rsU o l m b x u)
  ok : Rdv o l m b (rsX o l m b x u)
  siz : (rsX o l m b x u).z = x.z + (rsD o l m b x u).size
  short : (rsX o l m b x u).e = 1 → rsU o l m b x u = u.size
  used0 : 0 ≤ rsU o l m b x u
  used1 : rsU o l m b x u ≤ u.size

theorem rfx {o l m : Int} {b : Nat} {x : Rdr} {u : ByteArray} (h : Rdv o l m b x) (hu : u.size ≤ 4000) : Rfx o l m b x u := by
  obtain ⟨ps, last, sb, z, c, e⟩ := x
  have h' : rdb o l m ps b last sb z c e = true := h
  obtain ⟨hkv, hrv⟩ := rdb_parts h'
  have hss : sb.size ≤ 11 := by
    have := (wd_pos hkv).2
    rcases hrv.e with h1 | h1
    · have := h1.2.1; omega
    · omega
  by_cases he : e = 1
  · subst he
    obtain ⟨b', sz, ct, bits, R, e1, rfl, rfl, F, hR⟩ := reads_go (o := o) (l := l) (m := m) (ps := ps) (base := b) (last := last) (sb := sb) (u := u) (by unfold maxLen; omega) hu h'
    obtain rfl : b' = b := by omega
    have hB : rsB o ⟨ps, last, sb, (sz : Int), (ct : Int), 1⟩ u = bits := F.bitsEq.symm
    have hRR : rsR o l m b' ⟨ps, last, sb, (sz : Int), (ct : Int), 1⟩ u = R := by
      unfold rsR
      rw [hB]
      exact F.run
    have eX : rsX o l m b' ⟨ps, last, sb, (sz : Int), (ct : Int), 1⟩ u = ⟨R.ps, R.last, keptB R bits, (sz : Int) + R.D.length, (ct : Int) + R.C.length, R.e⟩ := by
      unfold rsX
      rw [if_pos rfl, hRR, hB]
    have eD : rsD o l m b' ⟨ps, last, sb, (sz : Int), (ct : Int), 1⟩ u = bstr R.D := by
      unfold rsD
      rw [if_pos rfl, hRR]
    have eU : rsU o l m b' ⟨ps, last, sb, (sz : Int), (ct : Int), 1⟩ u = usedI u.size sb.size R := by
      unfold rsU
      rw [if_pos rfl, hRR]
    have hfin := rdc_fin _ _ _ _ _ _ R hkv (by omega) (by have := F.few; simp; omega) F.run
    have hbv : BV bits := by
      rw [F.bitsEq]
      exact bv_appR (bitsB_bv.1 hrv.bits).2 (unpL_bv _ _)
    have hkeep := F.kept
    have hlen := F.len
    have hfirst := F.first
    have hshort := F.short
    have hcnt := F.cnt
    have hsiz := F.siz
    constructor
    · unfold ReadsX
      rw [eX, eD, eU]
      exact hR
    · rw [eX]
      unfold Rdv rdb
      rw [Bool.and_eq_true]
      refine ⟨kvb_iff.2 F.kv, rvb_iff.2 ⟨?_, ?_, ?_, ?_, ?_, ?_⟩⟩
      · show bitsB (keptB R bits) = true
        have hsz := F.len
        unfold keptB
        split
        · refine bitsB_bv.2 ⟨?_, fun v hv => hbv v (List.mem_of_mem_drop (by simpa [bstr] using hv))⟩
          rename_i hh
          have h5 := (wd_pos F.kv).2
          rw [bstr_size, List.length_drop]
          rcases hfin.2 with h1 | h1
          · have := h1.2.1; omega
          · omega
        · decide
      · show 0 ≤ (sz : Int) + R.D.length; omega
      · show (sz : Int) + R.D.length ≤ 2000; omega
      · show 0 ≤ (ct : Int) + R.C.length; omega
      · show (ct : Int) + R.C.length ≤ 3100; omega
      · show (R.e = 1 ∧ ((keptB R bits).size : Int) < wd l m R.ps.length R.last ∧ (ct : Int) + R.C.length < 3100) ∨ ((R.e = 0 ∨ R.e = 2 ∨ R.e = 3) ∧ (keptB R bits).size = 0)
        rcases hfin.2 with h1 | h1
        · refine .inl ⟨h1.1, ?_, by omega⟩
          unfold keptB
          rw [if_pos h1.1, bstr_size, List.length_drop]
          have := (wd_pos F.kv).1
          omega
        · refine .inr ⟨h1, ?_⟩
          unfold keptB
          rw [if_neg (by omega)]
          rfl
    · rw [eX, eD, bstr_size]
    · rw [eX, eU]
      intro h1
      unfold usedI
      rw [if_pos h1]
    · rw [eU]
      unfold usedI
      split <;> omega
    · rw [eU]
      unfold usedI
      split <;> omega
  · have eX : rsX o l m b ⟨ps, last, sb, z, c, e⟩ u = ⟨ps, last, sb, z, c, e⟩ := by
      unfold rsX
      rw [if_neg he]
    have eD : rsD o l m b ⟨ps, last, sb, z, c, e⟩ u = ⟨#[]⟩ := by
      unfold rsD
      rw [if_neg he]
    have eU : rsU o l m b ⟨ps, last, sb, z, c, e⟩ u = 0 := by
      unfold rsU
      rw [if_neg he]
    constructor
    · unfold ReadsX
      rw [eX, eD, eU]
      exact reads_ended (sb := sb) (by unfold maxLen; omega) hu h' he
    · rw [eX]; exact h
    · rw [eX, eD]
      show z = z + ((0 : Nat) : Int)
      omega
    · rw [eX]
      intro h1
      exact absurd h1 he
    · rw [eU]; exact Int.le_refl 0
    · rw [eU]; omega

end Go.Proofs.YtmddcbebaijjkaaGreatDoor
