/- The walks of Compress, of the program and of the reference. -/
import Derived.Test.YtmenpflcmpihpaaPck
import Derived.Test.YtmenpflcmpihpaaGrc
namespace Go.Proofs.Ytmenpflcmpihpaa
open Go.RowKit
set_option linter.unusedVariables false
set_option linter.unusedSimpArgs false

/-- the compressed data -/
noncomputable def cmpL (o l m : Int) (b : Nat) (ps : List Pr) (d : List UInt8) (W : List Int) : List UInt8 := pckL o (cbits o (greL l m b ps d) W)

theorem cmp_ex {o l m last : Int} {b : Nat} {ps : List Pr} {s : ByteArray} (hk : kvb o l m ps (b : Int) last = true) (hd : dfB o l m s = true) : ∃ W, wlk l m b (greL l m b ps s.data.toList) ps last [] [] = some (W, s.data.toList) ∧ (greL l m b ps s.data.toList).length ≤ 3100 := by
  have hkv := kvb_iff.1 hk
  have hd1 : dfB o l m (bstr s.data.toList) = true := by rw [bstr_bytes]; exact hd
  have hd2 := hd
  unfold dfB at hd2
  simp only [Bool.and_eq_true, decide_eq_true_eq] at hd2
  have hl : s.data.toList.length ≤ 2000 := by rw [bytes_len]; have := hd2.2.1; omega
  obtain ⟨W, hW⟩ := greL_wlk hkv hd1 hl
  exact ⟨W, hW, greL_len2 hkv hd1 hl⟩

theorem cmpL_len {o l m : Int} {b : Nat} {ps : List Pr} {d : List UInt8} {last : Int} {W : List Int} (hkv : KV o l m ps (b : Int) last) (hW : wlk l m b (greL l m b ps d) ps last [] [] = some (W, d)) (hl : (greL l m b ps d).length ≤ 3100) : (cmpL o l m b ps d W).length ≤ 4000 := by
  obtain ⟨q1, q2, q3⟩ := wlk_bd _ ps last [] [] W d hkv hW
  have hcl := cbits_len (o := o) (greL l m b ps d) W fun x hx => by have := q2 x hx; simp at this; exact this.2
  unfold cmpL
  rw [pckL_len]
  omega

set_option maxRecDepth 100000 in
theorem implCompress_no (o l m : Int) (a : Option Addr) (cap : Nat) (ps : List Pr) (base last : Int) (s : ByteArray) (w : World) (hr : RdP w a cap ps) (hs2 : s.size ≤ maxLen) (h : kvb o l m ps base last = false ∨ dfB o l m s = false) :
    Calls Try.prog 39 #[.agg #[.int .i64 o, .int .i64 l, .int .i64 m, .slice a ps.length cap, .int .i64 base, .int .i64 last], .string s] w (Ret w (.tuple #[.string ⟨#[]⟩, .bool false])) := by
  go_enter Try.func39, Try.ntmps39
  go_wp2_with fail
  refine (implGreedyCodes_no _ _ _ _ _ ps _ _ s _ (by repeat (first | exact hr | apply rd_seq | apply Rd.plus | apply Rd.alloc | apply Rd.drew | apply Rd.drewN | refine rd_patch ?_ _ _ (by intro A hA; first | (cases hA; show _ ≠ _; omega) | (have := hal A hA; omega)))) hs2 h).mono ?_
  rintro e w1 ⟨pa, pc, rfl, _, x1, rfl⟩
  go_wp2_with fail
  go_ret2
  exact Ret.mk (by repeat (first | exact More.refl _ | apply More.plus | apply More.alloc | apply More.drew | apply More.drewN))

set_option maxRecDepth 100000 in
theorem specCompress_no (o l m : Int) (a : Option Addr) (cap : Nat) (ps : List Pr) (base last : Int) (s : ByteArray) (w : World) (hr : RdP w a cap ps) (hs2 : s.size ≤ maxLen) (h : kvb o l m ps base last = false ∨ dfB o l m s = false) :
    Calls Try.prog 38 #[.agg #[.int .i64 o, .int .i64 l, .int .i64 m, .slice a ps.length cap, .int .i64 base, .int .i64 last], .string s] w (Ret w (.tuple #[.string ⟨#[]⟩, .bool false])) := by
  cases hk : kvb o l m ps base last
  · clear h
    go_enter Try.func38, Try.ntmps38
    go_wp2_with (go_at_call 57; refine (specKnownValid_any _ _ _ _ _ _ _ _ _ (by repeat (first | exact hr | apply rd_seq | apply Rd.plus | apply Rd.alloc | apply Rd.drew | apply Rd.drewN | refine rd_patch ?_ _ _ (by intro A hA; first | (cases hA; show _ ≠ _; omega) | (have := hal A hA; omega))))).mono ?_; rintro e w' ⟨rfl, xc, rfl⟩)
    go_ret2
    exact Ret.mk (by repeat (first | exact More.refl _ | apply More.plus | apply More.alloc | apply More.drew | apply More.drewN))
  · have hd : dfB o l m s = false := by
      rcases h with h | h
      · rw [hk] at h; cases h
      · exact h
    clear h
    go_enter Try.func38, Try.ntmps38
    go_wp2_with (first | (go_at_call 57; refine (specKnownValid_any _ _ _ _ _ _ _ _ _ (by repeat (first | exact hr | apply rd_seq | apply Rd.plus | apply Rd.alloc | apply Rd.drew | apply Rd.drewN | refine rd_patch ?_ _ _ (by intro A hA; first | (cases hA; show _ ≠ _; omega) | (have := hal A hA; omega))))).mono ?_; rintro e w' ⟨rfl, xc, rfl⟩) | (go_at_call 58; refine (specDataFits_any _ _ _ _ _ hs2).mono ?_; rintro e w' ⟨rfl, xc, rfl⟩))
    go_ret2
    exact Ret.mk (by repeat (first | exact More.refl _ | apply More.plus | apply More.alloc | apply More.drew | apply More.drewN))

set_option maxRecDepth 100000 in
set_option maxHeartbeats 1000000 in
theorem implCompress_yes (o l m : Int) (a : Option Addr) (cap : Nat) (ps : List Pr) (b : Nat) (last : Int) (s : ByteArray) (w : World) (hr : RdP w a cap ps) (hs2 : s.size ≤ maxLen) (hk : kvb o l m ps (b : Int) last = true) (hd : dfB o l m s = true)
    (W : List Int) (hW : wlk l m b (greL l m b ps s.data.toList) ps last [] [] = some (W, s.data.toList)) (hl : (greL l m b ps s.data.toList).length ≤ 3100) :
    Calls Try.prog 39 #[.agg #[.int .i64 o, .int .i64 l, .int .i64 m, .slice a ps.length cap, .int .i64 b, .int .i64 last], .string s] w (Ret w (.tuple #[.string (bstr (cmpL o l m b ps s.data.toList W)), .bool true])) := by
  have HWW := Lib.hid hW
  have HK := Lib.hid hk
  obtain ⟨G, hG⟩ : ∃ G, greL l m b ps s.data.toList = G := ⟨_, rfl⟩
  have HG := Lib.hid hG
  have hl2 : G.length ≤ 3100 := by rw [← hG]; exact hl
  have HWG := Lib.hid (show wlk l m b G ps last [] [] = some (W, s.data.toList) by rw [← hG]; exact hW)
  have HC := Lib.hid (show cmpL o l m b ps s.data.toList W = pckL o (cbits o G W) by unfold cmpL; rw [hG])
  clear hW hG hl hk
  go_enter Try.func39, Try.ntmps39
  go_wp2_with fail
  refine (implGreedyCodes_yes _ _ _ _ _ ps _ _ s _ (by repeat (first | exact hr | apply rd_seq | apply Rd.plus | apply Rd.alloc | apply Rd.drew | apply Rd.drewN | refine rd_patch ?_ _ _ (by intro A hA; first | (cases hA; show _ ≠ _; omega) | (have := hal A hA; omega)))) hs2 HK.out hd b rfl G HG.out).mono ?_
  rintro e w1 ⟨pa, pc, rfl, hown, x1, rfl⟩
  have HR := Lib.hid hown.rd
  clear hown
  go_wp2_with (go_at_call 28; refine (PackCodes_yes o l m a cap ps b last pa pc G _ (by repeat (first | exact hr | apply rd_seq | apply Rd.plus | apply Rd.alloc | apply Rd.drew | apply Rd.drewN | refine rd_patch ?_ _ _ (by intro A hA; first | (cases hA; show _ ≠ _; omega) | (have := hal A hA; omega)))) (by repeat (first | exact HR.out | apply rd_seq | apply Rd.plus | apply Rd.alloc | apply Rd.drew | apply Rd.drewN | refine rd_patch ?_ _ _ (by intro A hA; first | (cases hA; show _ ≠ _; omega) | (have := hal A hA; omega)))) HK.out hl2 b rfl W _ HWG.out).mono ?_; rintro e w' ⟨rfl, xc, rfl⟩)
  go_ret2
  exact ⟨by rw [HC.out]; rfl, (show More w _ from (by repeat (first | exact More.refl _ | apply More.plus | apply More.alloc | apply More.drew | apply More.drewN)))⟩

set_option maxRecDepth 100000 in
set_option maxHeartbeats 1000000 in
theorem l2Compress_any (o l m : Int) (a : Option Addr) (cap : Nat) (ps : List Pr) (b : Nat) (last : Int) (s : ByteArray) (w : World) (hr : RdP w a cap ps) (hk : kvb o l m ps (b : Int) last = true) (hd : dfB o l m s = true)
    (W : List Int) (hW : wlk l m b (greL l m b ps s.data.toList) ps last [] [] = some (W, s.data.toList)) (hl : (greL l m b ps s.data.toList).length ≤ 3100) :
    Calls Try.prog 87 #[.agg #[.int .i64 o, .int .i64 l, .int .i64 m, .slice a ps.length cap, .int .i64 b, .int .i64 last], .string s] w (Ret w (.string (bstr (cmpL o l m b ps s.data.toList W)))) := by
  have hkv := kvb_iff.1 hk
  obtain ⟨ho, _⟩ := sv_iff.1 hkv.s
  obtain ⟨q1, q2, q3⟩ := wlk_bd _ ps last [] [] W _ hkv hW
  have hcl := cbits_len (o := o) (greL l m b ps s.data.toList) W fun x hx => by have := q2 x hx; simp at this; exact this.2
  have HV := Lib.hid hkv
  have HK := Lib.hid hk
  obtain ⟨G, hG⟩ : ∃ G, greL l m b ps s.data.toList = G := ⟨_, rfl⟩
  rw [hG] at hcl hl
  have HG := Lib.hid hG
  have HWG := Lib.hid (show wlk l m b G ps last [] [] = some (W, s.data.toList) by rw [← hG]; exact hW)
  have HC := Lib.hid (show cmpL o l m b ps s.data.toList W = pckL o (cbits o G W) by unfold cmpL; rw [hG])
  obtain ⟨t, ht⟩ : ∃ t, bstr (cbits o G W) = t := ⟨_, rfl⟩
  have htb : t.data.toList = cbits o G W := by rw [← ht, bytes_bstr]
  have hts : t.size ≤ 32000 := by rw [← ht, bstr_size]; omega
  have HTV := Lib.hid (show BV t.data.toList by rw [htb]; exact cbits_bv o G W)
  have HTB := Lib.hid htb
  have HT := Lib.hid ht
  clear hW hG hk hkv q1 q2 q3 htb ht hcl
  go_enter Try.func87, Try.ntmps87
  go_wp2_with fail
  refine wp_region_pt 9 (fun w' => ∃ y, w' = plus _ y) (Plan.quiet 0 (Plan.quiet 1 (Plan.quiet 2 (Plan.quiet 3 (Plan.quiet 4 (Plan.quiet 5 (Plan.one 6 (Plan.one 7 (Plan.one 8 (Plan.one 9 Plan.done)))))))))) (by kernel_rfl) (by kernel_rfl) (⟨_, drew_is_plus _⟩) ?_
  refine wpPt_val rfl rfl ?_
  apply Exists.intro
  refine ⟨fun w' hS => ?_, ?_⟩
  focus (obtain ⟨y3, rfl⟩ := hS; simp [go_sem, ↓IntWalk.iteOmega] <;> first | done | exact rfl | (rw [IntWalk.i64_in _ (by omega)]; exact rfl) | trace_state)
  refine wpPt_val rfl rfl ?_
  apply Exists.intro
  refine ⟨fun w' hS => ?_, ?_⟩
  focus (obtain ⟨y3, rfl⟩ := hS; simp [go_sem, ↓IntWalk.iteOmega] <;> first | done | exact rfl | (rw [IntWalk.i64_in _ (by omega)]; exact rfl) | trace_state)
  refine wpPt_val rfl rfl ?_
  apply Exists.intro
  refine ⟨fun w' hS => ?_, ?_⟩
  focus (obtain ⟨y3, rfl⟩ := hS; simp [go_sem, ↓IntWalk.iteOmega] <;> first | done | exact rfl | (rw [IntWalk.i64_in _ (by omega)]; exact rfl) | trace_state)
  refine wpPt_val rfl rfl ?_
  apply Exists.intro
  refine ⟨fun w' hS => ?_, ?_⟩
  focus (obtain ⟨y3, rfl⟩ := hS; simp [go_sem, ↓IntWalk.iteOmega] <;> first | done | exact rfl | (rw [IntWalk.i64_in _ (by omega)]; exact rfl) | trace_state)
  refine wpPt_val rfl rfl ?_
  apply Exists.intro
  refine ⟨fun w' hS => ?_, ?_⟩
  focus (obtain ⟨y3, rfl⟩ := hS; simp [go_sem, ↓IntWalk.iteOmega] <;> first | done | exact rfl | (rw [IntWalk.i64_in _ (by omega)]; exact rfl) | trace_state)
  refine wpPt_val rfl rfl ?_
  apply Exists.intro
  refine ⟨fun w' hS => ?_, ?_⟩
  focus (obtain ⟨y3, rfl⟩ := hS; simp [go_sem, ↓IntWalk.iteOmega] <;> first | done | exact rfl | (rw [IntWalk.i64_in _ (by omega)]; exact rfl) | trace_state)
  refine wpPt_one rfl rfl (fun K hK => ?_)
  go_simp
  refine (sgreedy_any _ _ _ _ _ ps _ _ s _ (by repeat (first | exact hr | apply rd_seq | apply Rd.plus | apply Rd.alloc | apply Rd.drew | apply Rd.drewN | refine rd_patch ?_ _ _ (by intro A hA; first | (cases hA; show _ ≠ _; omega) | (have := hal A hA; omega)))) HV.out hd b rfl G HG.out).mono ?_
  rintro e w1 ⟨pa, pc, rfl, hown, x6, rfl⟩
  try simp only [plus_plus] at hown
  have HR := Lib.hid hown.rd
  clear hown
  refine hK _ _ (fun hkn => (by repeat (first | exact More.refl _ | (with_reducible apply more_seq) | (with_reducible apply more_draw) | apply More.plus | apply More.alloc | apply More.drew))) ?_
  clear hK K
  refine wpPt_one rfl rfl (fun K hK => ?_)
  go_simp
  refine (l2Pack_any o l m a cap ps b last pa pc G _ (by repeat (first | exact hr | apply rd_seq | apply Rd.plus | apply Rd.alloc | apply Rd.drew | apply Rd.drewN | refine rd_patch ?_ _ _ (by intro A hA; first | (cases hA; show _ ≠ _; omega) | (have := hal A hA; omega)))) (by repeat (first | exact HR.out | apply rd_seq | apply Rd.plus | apply Rd.alloc | apply Rd.drew | apply Rd.drewN | refine rd_patch ?_ _ _ (by intro A hA; first | (cases hA; show _ ≠ _; omega) | (have := hal A hA; omega)))) HK.out hl b rfl W _ HWG.out).mono ?_
  rintro e w' ⟨rfl, x7, rfl⟩
  rw [HT.out]
  refine hK _ _ (fun hkn => (by repeat (first | exact More.refl _ | (with_reducible apply more_seq) | (with_reducible apply more_draw) | apply More.plus | apply More.alloc | apply More.drew))) ?_
  clear hK K
  refine wpPt_one rfl rfl (fun K hK => ?_)
  go_simp
  refine (l1Pack_any o t _ ho hts HTV.out).mono ?_
  rintro e w' ⟨rfl, x8, rfl⟩
  refine hK _ _ (fun hkn => (by repeat (first | exact More.refl _ | (with_reducible apply more_seq) | (with_reducible apply more_draw) | apply More.plus | apply More.alloc | apply More.drew))) ?_
  clear hK K
  refine wpPt_one rfl rfl (fun K hK => ?_)
  go_simp
  refine hK _ _ (fun hkn => absurd hkn (by decide)) ?_
  clear hK K
  refine NoPanic.normal ?_
  go_wp2
  go_ret
  exact ret_of (by rw [HC.out, ← HTB.out]; simp) (by repeat (first | exact More.refl _ | apply More.plus | apply More.alloc | apply More.drew | apply More.drewN))

set_option maxRecDepth 100000 in
set_option maxHeartbeats 1000000 in
theorem specCompress_yes (o l m : Int) (a : Option Addr) (cap : Nat) (ps : List Pr) (b : Nat) (last : Int) (s : ByteArray) (w : World) (hr : RdP w a cap ps) (hs2 : s.size ≤ maxLen) (hk : kvb o l m ps (b : Int) last = true) (hd : dfB o l m s = true)
    (W : List Int) (hW : wlk l m b (greL l m b ps s.data.toList) ps last [] [] = some (W, s.data.toList)) (hl : (greL l m b ps s.data.toList).length ≤ 3100) :
    Calls Try.prog 38 #[.agg #[.int .i64 o, .int .i64 l, .int .i64 m, .slice a ps.length cap, .int .i64 b, .int .i64 last], .string s] w (Ret w (.tuple #[.string (bstr (cmpL o l m b ps s.data.toList W)), .bool true])) := by
  have HWW := Lib.hid hW
  have HL := Lib.hid hl
  have HK := Lib.hid hk
  clear hW hl
  go_enter Try.func38, Try.ntmps38
  go_wp2_with (first | (go_at_call 57; refine (specKnownValid_any _ _ _ _ _ _ _ _ _ (by repeat (first | exact hr | apply rd_seq | apply Rd.plus | apply Rd.alloc | apply Rd.drew | apply Rd.drewN | refine rd_patch ?_ _ _ (by intro A hA; first | (cases hA; show _ ≠ _; omega) | (have := hal A hA; omega))))).mono ?_; rintro e w' ⟨rfl, xc, rfl⟩) | (go_at_call 58; refine (specDataFits_any _ _ _ _ _ hs2).mono ?_; rintro e w' ⟨rfl, xc, rfl⟩) | (go_at_call 87; refine (l2Compress_any o l m a cap ps b last s _ (by repeat (first | exact hr | apply rd_seq | apply Rd.plus | apply Rd.alloc | apply Rd.drew | apply Rd.drewN | refine rd_patch ?_ _ _ (by intro A hA; first | (cases hA; show _ ≠ _; omega) | (have := hal A hA; omega)))) HK.out hd W HWW.out HL.out).mono ?_; rintro e w' ⟨rfl, xc, rfl⟩))
  go_ret2
  exact Ret.mk (by repeat (first | exact More.refl _ | apply More.plus | apply More.alloc | apply More.drew | apply More.drewN))

end Go.Proofs.Ytmenpflcmpihpaa
