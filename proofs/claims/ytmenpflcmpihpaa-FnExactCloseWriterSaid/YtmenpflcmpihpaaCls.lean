/- CloseWriter of the reference; in plain Lean: the bits that are left at the end. -/
import Derived.Test.YtmenpflcmpihpaaClx
namespace Go.Proofs.Ytmenpflcmpihpaa
open Go.RowKit
set_option linter.unusedVariables false
set_option linter.unusedSimpArgs false

/-- the bits of a writer that is closed -/
def Clo (o l m : Int) (b : Nat) (ps : List Pr) (last : Int) (sp sq : ByteArray) (bg : Bool) (B : List UInt8) : Prop :=
  (bg = true ∧ sp.size = 0 ∧ ∃ n : Nat, wd l m ps.length last = n ∧ B = sq.data.toList ++ bitsL o (two l + 1) n) ∨
  (bg = true ∧ 0 < sp.size ∧ ∃ (c : Int) (n k : Nat), 0 ≤ c ∧ IsFnd l m ps last sp.data.toList c ∧ wd l m ps.length last = n ∧ wd l m (aftP l m ps last c).length c = k ∧ B = sq.data.toList ++ bitsL o c n ++ bitsL o (two l + 1) k) ∨
  (bg = false ∧ sp.size = 0 ∧ ∃ n k : Nat, wd l m ps.length last = n ∧ wd l m (ps.take b).length (-1) = k ∧ B = sq.data.toList ++ bitsL o (two l) n ++ bitsL o (two l + 1) k)

theorem wd_nat {o l m n last : Int} (h : Lim o l m n last) : ∃ k : Nat, wd l m n last = k ∧ k ≤ 10 := by
  have := wd_ten h
  exact ⟨(wd l m n last).toNat, by omega, by omega⟩

theorem clo_ex {o l m : Int} {b : Nat} {ps : List Pr} {last : Int} {sp sq : ByteArray} {bg : Bool} (hk : wvb o l m ps b last sp sq bg = true) : ∃ B, Clo o l m b ps last sp sq bg B := by
  unfold wvb at hk
  rw [Bool.and_eq_true, Bool.and_eq_true] at hk
  obtain ⟨h1, h2, h3⟩ := hk
  have hkv := kvb_iff.1 h1
  obtain ⟨n, hn, _⟩ := wd_nat hkv.lim
  obtain ⟨_, _, h5, h6⟩ : WV l m ps last sp sq bg := by simpa [wvp] using h3
  cases bg
  · have hcl := hkv.cleared
    obtain ⟨k, hk, _⟩ := wd_nat hcl.lim
    exact ⟨_, .inr (.inr ⟨rfl, (h5 rfl).1, n, k, hn, by simpa using hk, rfl⟩)⟩
  · by_cases hz : sp.size = 0
    · exact ⟨_, .inl ⟨rfl, hz, n, hn, rfl⟩⟩
    · obtain ⟨c, hc0, hc⟩ : ∃ c, 0 ≤ c ∧ IsFnd l m ps last sp.data.toList c := by
        rcases h6 with h6 | h6
        · exact absurd h6 hz
        · exact h6
      have hok : Okc l m ps.length last c := by
        rcases hc with ⟨h, _⟩ | ⟨h, _⟩
        · omega
        · exact h
      obtain ⟨k, hk, _⟩ := wd_nat (hkv.after hok).lim
      exact ⟨_, .inr (.inl ⟨rfl, by omega, c, n, k, hc0, hc, hn, hk, rfl⟩)⟩

theorem okc_ends {l m : Int} {n : Nat} {last c : Int} (h : Okc l m n last c) : c ≠ two l ∧ c ≠ two l + 1 := by
  rcases h with h | ⟨_, rfl⟩
  · have := hw_iff.1 h; omega
  · unfold nw; omega

set_option maxHeartbeats 1000000 in
theorem specCloseWriter_no (o l m : Int) (a : Option Addr) (cap : Nat) (ps : List Pr) (base last : Int) (sp sq : ByteArray) (bg : Bool) (w : World) (hr : RdP w a cap ps) (hs1 : sp.size ≤ maxLen) (hs2 : sq.size ≤ maxLen) (hk : wvb o l m ps base last sp sq bg = false) :
    Calls Try.prog 45 #[.agg #[.int .i64 o, .int .i64 l, .int .i64 m, .slice a ps.length cap, .int .i64 base, .int .i64 last, .string sp, .string sq, .bool bg]] w (Ret w (.tuple #[.string ⟨#[]⟩, .bool false])) := by
  go_enter Try.func45, Try.ntmps45
  go_wp2_with (go_at_call 88; refine (specWriterValid_any _ _ _ _ _ _ _ _ _ _ _ _ (by repeat (first | exact hr | apply rd_seq | apply Rd.plus | apply Rd.alloc | apply Rd.drew | apply Rd.drewN | refine rd_patch ?_ _ _ (by intro A hA; first | (cases hA; show _ ≠ _; omega) | (have := hal A hA; omega)))) hs1 hs2).mono ?_; rintro e w' ⟨rfl, xv, rfl⟩; rw [hk])
  go_ret2
  exact Ret.mk (by repeat (first | exact More.refl _ | apply More.plus | apply More.alloc | apply More.drew | apply More.drewN))

theorem bv_app {x y : List UInt8} (h : BV x) (k : BV y) : BV (x ++ y) := fun b hb => by
  rcases List.mem_append.1 hb with hb | hb
  · exact h b hb
  · exact k b hb

set_option maxRecDepth 100000 in
set_option maxHeartbeats 4000000 in
theorem specCloseWriter_go (o l m : Int) (a : Option Addr) (cap : Nat) (ps : List Pr) (b : Nat) (last : Int) (sp sq : ByteArray) (bg : Bool) (w : World) (hr : RdP w a cap ps) (hk : wvb o l m ps b last sp sq bg = true) (B : List UInt8) (hB : Clo o l m b ps last sp sq bg B) :
    Calls Try.prog 45 #[.agg #[.int .i64 o, .int .i64 l, .int .i64 m, .slice a ps.length cap, .int .i64 b, .int .i64 last, .string sp, .string sq, .bool bg]] w (Ret w (.tuple #[.string (bstr (pckL o B)), .bool true])) := by
  have hwv := hk
  unfold wvb at hwv
  rw [Bool.and_eq_true, Bool.and_eq_true] at hwv
  obtain ⟨hkb, hdf, hwp⟩ := hwv
  have hkv := kvb_iff.1 hkb
  obtain ⟨hbi, hs7, _, _⟩ : WV l m ps last sp sq bg := by simpa [wvp] using hwp
  obtain ⟨_, hbv⟩ := bitsB_bv.1 hbi
  have hs1 : sp.size ≤ maxLen := by
    unfold dfB at hdf
    simp only [Bool.and_eq_true, decide_eq_true_eq] at hdf
    unfold maxLen
    omega
  have hs2 : sq.size ≤ maxLen := by unfold maxLen; omega
  have hlen := kv_len hkb
  have hlim := hkv.lim
  obtain ⟨ho, l1, l2, _, _⟩ := sv_iff.1 hkv.s
  obtain ⟨t1, t2⟩ := two_lit l1 l2
  have l0 : 0 ≤ l := by omega
  have l10 : l ≤ 10 := by omega
  have he1 := isEmpty_size sp
  have HRP := Lib.hid hr
  have HK := Lib.hid hk
  have HKV := Lib.hid hkv
  clear hr hkb hdf hwp hk hbi
  rcases hB with ⟨rfl, hz, n, hn, hBe⟩ | ⟨rfl, hz, c, n, k, hc0, hc, hn, hk2, hBe⟩ | ⟨rfl, hz, n, k, hn, hk2, hBe⟩
  · obtain ⟨sE, hsE⟩ : ∃ s, sq ++ bstr (bitsL o (two l + 1) n) = s := ⟨_, rfl⟩
    have hn10 : n ≤ 10 := by have := wd_ten hlim; omega
    have hsb : sE.data.toList = B := by rw [← hsE, hBe]; simp [bstr]
    have HSB := Lib.hid hsb
    have hsz9 : sE.size ≤ 32000 := by rw [← bytes_len, hsb, hBe, List.length_append, bytes_len, bitsL_len]; omega
    have HBV := Lib.hid (show BV sE.data.toList by rw [hsb, hBe]; exact bv_app hbv (bitsL_bv _ _ _))
    have HPE := Lib.hid (fun (W : World) (a : Option Addr) (cap : Nat) => l3Put_end o l m a cap ps b last sp sq true W HKV.out (by omega) (by omega) n hn)
    rw [hsE] at HPE
    rw [decide_eq_true hz] at he1
    clear hn hBe hsb hbv hsE hz hlim
    go_enter Try.func45, Try.ntmps45
    go_wp2_with (first | (go_at_call 88; refine (specWriterValid_any _ _ _ _ _ _ _ _ _ _ _ _ (by repeat (first | exact HRP.out | apply rd_seq | apply Rd.plus | apply Rd.alloc | apply Rd.drew | apply Rd.drewN | refine rd_patch ?_ _ _ (by intro A hA; first | (cases hA; show _ ≠ _; omega) | (have := hal A hA; omega)))) hs1 hs2).mono ?_; rintro e w' ⟨rfl, xv, rfl⟩; rw [HK.out]) | (go_at_call 89; refine (l3Begin_yes _ _ _ _ _ _ _ _ _ _ _).mono ?_; rintro e w' ⟨rfl, xc, rfl⟩))
    refine wp_region_pt 6 (fun w' => ∃ y, w' = plus _ y) (Plan.quiet 0 (Plan.quiet 1 (Plan.quiet 2 (Plan.quiet 3 (Plan.one 4 (Plan.one 5 (Plan.one 6 Plan.done))))))) (by kernel_rfl) (by kernel_rfl) (⟨_, drew_is_plus _⟩) ?_
    refine wpPt_val rfl rfl ?_
    apply Exists.intro
    refine ⟨fun w' hS => ?_, ?_⟩
    focus (obtain ⟨y3, rfl⟩ := hS; simp [go_sem, ↓IntWalk.iteOmega] <;> first | done | exact rfl | (rw [IntWalk.i64_in _ (by omega)]; exact rfl) | trace_state)
    refine wpPt_val rfl rfl ?_
    apply Exists.intro
    refine ⟨fun w' hS => ?_, ?_⟩
    focus (obtain ⟨y3, rfl⟩ := hS; simp [go_sem, ↓IntWalk.iteOmega] <;> first | done | exact rfl | (rw [IntWalk.i64_in _ (by omega)]; exact rfl) | trace_state)
    refine wpPt_val rfl rfl ?_
    apply Exists.intro
    refine ⟨fun w' hS => ?_, ?_⟩
    focus (obtain ⟨y3, rfl⟩ := hS; simp [go_sem, ↓IntWalk.iteOmega] <;> first | done | exact rfl | (rw [IntWalk.i64_in _ (by omega)]; exact rfl) | trace_state)
    refine wpPt_val rfl rfl ?_
    apply Exists.intro
    refine ⟨fun w' hS => ?_, ?_⟩
    focus (obtain ⟨y3, rfl⟩ := hS; simp [go_sem, ↓IntWalk.iteOmega] <;> first | done | exact rfl | (rw [IntWalk.i64_in _ (by omega)]; exact rfl) | trace_state)
    refine wpPt_one rfl rfl (fun K hK => ?_)
    go_simp
    refine (l1End_any o l m l0 l10 _).mono ?_
    rintro e w' ⟨rfl, xe1, rfl⟩
    refine hK _ _ (fun hkn => (by repeat (first | exact More.refl _ | (with_reducible apply more_seq) | (with_reducible apply more_draw) | apply More.plus | apply More.alloc | apply More.drew))) ?_
    clear hK K
    refine wpPt_one rfl rfl (fun K hK => ?_)
    go_simp
    refine (HPE.out _ a cap).mono ?_
    rintro e w' ⟨rfl, xe2, rfl⟩
    refine hK _ _ (fun hkn => (by repeat (first | exact More.refl _ | (with_reducible apply more_seq) | (with_reducible apply more_draw) | apply More.plus | apply More.alloc | apply More.drew))) ?_
    clear hK K
    refine wpPt_one rfl rfl (fun K hK => ?_)
    go_simp
    refine hK _ _ (fun hkn => absurd hkn (by decide)) ?_
    clear hK K
    refine NoPanic.normal ?_
    go_wp2_with (go_at_call 71; refine (l1Pack_any o sE _ ho hsz9 HBV.out).mono ?_; rintro e w' ⟨rfl, xe3, rfl⟩; rw [HSB.out])
    exact bodyPost_ret (v := .tuple #[.string (bstr (pckL o B)), .bool true]) (by simp [results, Try.results45, go_sem, ↓IntWalk.iteOmega]) rfl (Ret.mk (by repeat (first | exact More.refl _ | apply More.plus | apply More.alloc | apply More.drew | apply More.drewN)))
  · have hok : Okc l m ps.length last c := by
      rcases hc with ⟨h, _⟩ | ⟨h, _⟩
      · omega
      · exact h
    have hok1 := okc_le hok t1
    have hgt := gt_bd hlim
    obtain ⟨hne1, hne2⟩ := okc_ends hok
    have hkv2 := hkv.after hok
    have hn10 : n ≤ 10 := by have := wd_ten hlim; omega
    have hk10 : k ≤ 10 := by have := wd_ten hkv2.lim; omega
    have hlen2 := kv_len (kvb_iff.2 hkv2)
    obtain ⟨qs, hqs⟩ : ∃ qs, aftP l m ps last c = qs := ⟨_, rfl⟩
    have HPU := Lib.hid (fun (W : World) (a : Option Addr) (cap : Nat) (h : RdP W a cap ps) => l3Put_step o l m a cap ps b last sp sq true c W h hkv (by omega) (by omega) hc0 (by omega) hne2 n hn (aftP l m ps last c) c (fun W a cap h => l2Step_code o l m a cap ps b last c W h hkv hok hne1))
    rw [hqs] at HPU hk2 hkv2 hlen2
    obtain ⟨s1, hs1e⟩ : ∃ s, sq ++ bstr (bitsL o c n) = s := ⟨_, rfl⟩
    have hs1z : s1.size = sq.size + n := by rw [← hs1e, ByteArray.size_append, bstr_size, bitsL_len]
    rw [hs1e] at HPU
    have HPE := Lib.hid (fun (W : World) (a : Option Addr) (cap : Nat) => l3Put_end o l m a cap qs b c sp s1 true W hkv2 (by omega) (by omega) k hk2)
    obtain ⟨sE, hsE⟩ : ∃ s, s1 ++ bstr (bitsL o (two l + 1) k) = s := ⟨_, rfl⟩
    rw [hsE] at HPE
    have hsb : sE.data.toList = B := by rw [← hsE, ← hs1e, hBe]; simp [bstr]
    have HSB := Lib.hid hsb
    have hsz9 : sE.size ≤ 32000 := by rw [← hsE, ByteArray.size_append, bstr_size, bitsL_len]; omega
    have HBV := Lib.hid (show BV sE.data.toList by rw [hsb, hBe]; exact bv_app (bv_app hbv (bitsL_bv _ _ _)) (bitsL_bv _ _ _))
    have HC := Lib.hid hc
    have v0 : decide (sp.size = 0) = false := decide_eq_false (by omega)
    rw [v0] at he1
    clear hn hBe hsb hbv hsE hz hlim hqs hk2 hkv2 hs1e hs1z hok hok1 hgt hc v0 hkv
    go_enter Try.func45, Try.ntmps45
    go_wp2_with (first | (go_at_call 88; refine (specWriterValid_any _ _ _ _ _ _ _ _ _ _ _ _ (by repeat (first | exact HRP.out | apply rd_seq | apply Rd.plus | apply Rd.alloc | apply Rd.drew | apply Rd.drewN | refine rd_patch ?_ _ _ (by intro A hA; first | (cases hA; show _ ≠ _; omega) | (have := hal A hA; omega)))) hs1 hs2).mono ?_; rintro e w' ⟨rfl, xv, rfl⟩; rw [HK.out]) | (go_at_call 89; refine (l3Begin_yes _ _ _ _ _ _ _ _ _ _ _).mono ?_; rintro e w' ⟨rfl, xc, rfl⟩))
    refine wp_region_pt 7 (fun w' => ∃ y, w' = plus _ y) (Plan.quiet 0 (Plan.quiet 1 (Plan.quiet 2 (Plan.quiet 3 (Plan.quiet 4 (Plan.one 5 (Plan.one 6 (Plan.one 7 Plan.done)))))))) (by kernel_rfl) (by kernel_rfl) (⟨_, drew_is_plus _⟩) ?_
    refine wpPt_val rfl rfl ?_
    apply Exists.intro
    refine ⟨fun w' hS => ?_, ?_⟩
    focus (obtain ⟨y3, rfl⟩ := hS; simp [go_sem, ↓IntWalk.iteOmega] <;> first | done | exact rfl | (rw [IntWalk.i64_in _ (by omega)]; exact rfl) | trace_state)
    refine wpPt_val rfl rfl ?_
    apply Exists.intro
    refine ⟨fun w' hS => ?_, ?_⟩
    focus (obtain ⟨y3, rfl⟩ := hS; simp [go_sem, ↓IntWalk.iteOmega] <;> first | done | exact rfl | (rw [IntWalk.i64_in _ (by omega)]; exact rfl) | trace_state)
    refine wpPt_val rfl rfl ?_
    apply Exists.intro
    refine ⟨fun w' hS => ?_, ?_⟩
    focus (obtain ⟨y3, rfl⟩ := hS; simp [go_sem, ↓IntWalk.iteOmega] <;> first | done | exact rfl | (rw [IntWalk.i64_in _ (by omega)]; exact rfl) | trace_state)
    refine wpPt_val rfl rfl ?_
    apply Exists.intro
    refine ⟨fun w' hS => ?_, ?_⟩
    focus (obtain ⟨y3, rfl⟩ := hS; simp [go_sem, ↓IntWalk.iteOmega] <;> first | done | exact rfl | (rw [IntWalk.i64_in _ (by omega)]; exact rfl) | trace_state)
    refine wpPt_val rfl rfl ?_
    apply Exists.intro
    refine ⟨fun w' hS => ?_, ?_⟩
    focus (obtain ⟨y3, rfl⟩ := hS; simp [go_sem, ↓IntWalk.iteOmega] <;> first | done | exact rfl | (rw [IntWalk.i64_in _ (by omega)]; exact rfl) | trace_state)
    refine wpPt_one rfl rfl (fun K hK => ?_)
    go_simp
    refine (l2Find_any o l m a cap ps b last sp _ (by repeat (first | exact HRP.out | apply rd_seq | apply Rd.plus | apply Rd.alloc | apply Rd.drew | apply Rd.drewN | refine rd_patch ?_ _ _ (by intro A hA; first | (cases hA; show _ ≠ _; omega) | (have := hal A hA; omega)))) HKV.out hs1 c HC.out).mono ?_
    rintro e w' ⟨rfl, xf1, rfl⟩
    refine hK _ _ (fun hkn => (by repeat (first | exact More.refl _ | (with_reducible apply more_seq) | (with_reducible apply more_draw) | apply More.plus | apply More.alloc | apply More.drew))) ?_
    clear hK K
    refine wpPt_one rfl rfl (fun K hK => ?_)
    go_simp
    refine (HPU.out _ a cap (by repeat (first | exact HRP.out | apply rd_seq | apply Rd.plus | apply Rd.alloc | apply Rd.drew | apply Rd.drewN | refine rd_patch ?_ _ _ (by intro A hA; first | (cases hA; show _ ≠ _; omega) | (have := hal A hA; omega))))).mono ?_
    rintro e w' ⟨pa, pc, rfl, hown, xf2, rfl⟩
    clear hown
    refine hK _ _ (fun hkn => (by repeat (first | exact More.refl _ | (with_reducible apply more_seq) | (with_reducible apply more_draw) | apply More.plus | apply More.alloc | apply More.drew))) ?_
    clear hK K
    refine wpPt_one rfl rfl (fun K hK => ?_)
    go_simp
    refine hK _ _ (fun hkn => absurd hkn (by decide)) ?_
    clear hK K
    refine NoPanic.normal ?_
    go_wp2_with fail
    refine wp_region_pt 6 (fun w' => ∃ y, w' = plus _ y) (Plan.quiet 0 (Plan.quiet 1 (Plan.quiet 2 (Plan.quiet 3 (Plan.one 4 (Plan.one 5 (Plan.one 6 Plan.done))))))) (by kernel_rfl) (by kernel_rfl) (⟨_, drew_is_plus _⟩) ?_
    refine wpPt_val rfl rfl ?_
    apply Exists.intro
    refine ⟨fun w' hS => ?_, ?_⟩
    focus (obtain ⟨y3, rfl⟩ := hS; simp [go_sem, ↓IntWalk.iteOmega] <;> first | done | exact rfl | (rw [IntWalk.i64_in _ (by omega)]; exact rfl) | trace_state)
    refine wpPt_val rfl rfl ?_
    apply Exists.intro
    refine ⟨fun w' hS => ?_, ?_⟩
    focus (obtain ⟨y3, rfl⟩ := hS; simp [go_sem, ↓IntWalk.iteOmega] <;> first | done | exact rfl | (rw [IntWalk.i64_in _ (by omega)]; exact rfl) | trace_state)
    refine wpPt_val rfl rfl ?_
    apply Exists.intro
    refine ⟨fun w' hS => ?_, ?_⟩
    focus (obtain ⟨y3, rfl⟩ := hS; simp [go_sem, ↓IntWalk.iteOmega] <;> first | done | exact rfl | (rw [IntWalk.i64_in _ (by omega)]; exact rfl) | trace_state)
    refine wpPt_val rfl rfl ?_
    apply Exists.intro
    refine ⟨fun w' hS => ?_, ?_⟩
    focus (obtain ⟨y3, rfl⟩ := hS; simp [go_sem, ↓IntWalk.iteOmega] <;> first | done | exact rfl | (rw [IntWalk.i64_in _ (by omega)]; exact rfl) | trace_state)
    refine wpPt_one rfl rfl (fun K hK => ?_)
    go_simp
    refine (l1End_any o l m l0 l10 _).mono ?_
    rintro e w' ⟨rfl, xe1, rfl⟩
    refine hK _ _ (fun hkn => (by repeat (first | exact More.refl _ | (with_reducible apply more_seq) | (with_reducible apply more_draw) | apply More.plus | apply More.alloc | apply More.drew))) ?_
    clear hK K
    refine wpPt_one rfl rfl (fun K hK => ?_)
    go_simp
    refine (HPE.out _ pa pc).mono ?_
    rintro e w' ⟨rfl, xe2, rfl⟩
    refine hK _ _ (fun hkn => (by repeat (first | exact More.refl _ | (with_reducible apply more_seq) | (with_reducible apply more_draw) | apply More.plus | apply More.alloc | apply More.drew))) ?_
    clear hK K
    refine wpPt_one rfl rfl (fun K hK => ?_)
    go_simp
    refine hK _ _ (fun hkn => absurd hkn (by decide)) ?_
    clear hK K
    refine NoPanic.normal ?_
    go_wp2_with (go_at_call 71; refine (l1Pack_any o sE _ ho hsz9 HBV.out).mono ?_; rintro e w' ⟨rfl, xe3, rfl⟩; rw [HSB.out])
    exact bodyPost_ret (v := .tuple #[.string (bstr (pckL o B)), .bool true]) (by simp [results, Try.results45, go_sem, ↓IntWalk.iteOmega]) rfl (Ret.mk (by repeat (first | exact More.refl _ | apply More.plus | apply More.alloc | apply More.drew | apply More.drewN)))
  · have hn10 : n ≤ 10 := by have := wd_ten hlim; omega
    have hb : b ≤ ps.length := by have := hkv.b1; omega
    have hcl : KV o l m (ps.take b) (b : Int) (-1) := by have := hkv.cleared; simpa using this
    have hk10 : k ≤ 10 := by have := wd_ten hcl.lim; omega
    have hlen2 := kv_len (kvb_iff.2 hcl)
    have HPU := Lib.hid (fun (W : World) (a : Option Addr) (cap : Nat) (h : RdP W a cap ps) => l3Begin_no o l m a cap ps b last sp sq W h hkv (by omega) (by omega) n hn)
    obtain ⟨qs, hqs⟩ : ∃ qs, ps.take b = qs := ⟨_, rfl⟩
    rw [hqs] at HPU hk2 hcl hlen2
    obtain ⟨s1, hs1e⟩ : ∃ s, sq ++ bstr (bitsL o (two l) n) = s := ⟨_, rfl⟩
    have hs1z : s1.size = sq.size + n := by rw [← hs1e, ByteArray.size_append, bstr_size, bitsL_len]
    rw [hs1e] at HPU
    have HPE := Lib.hid (fun (W : World) (a : Option Addr) (cap : Nat) => l3Put_end o l m a cap qs b (-1) sp s1 true W hcl (by omega) (by omega) k hk2)
    obtain ⟨sE, hsE⟩ : ∃ s, s1 ++ bstr (bitsL o (two l + 1) k) = s := ⟨_, rfl⟩
    rw [hsE] at HPE
    have hsb : sE.data.toList = B := by rw [← hsE, ← hs1e, hBe]; simp [bstr]
    have HSB := Lib.hid hsb
    have hsz9 : sE.size ≤ 32000 := by rw [← hsE, ByteArray.size_append, bstr_size, bitsL_len]; omega
    have HBV := Lib.hid (show BV sE.data.toList by rw [hsb, hBe]; exact bv_app (bv_app hbv (bitsL_bv _ _ _)) (bitsL_bv _ _ _))
    rw [decide_eq_true hz] at he1
    clear hn hBe hsb hbv hsE hz hlim hqs hk2 hcl hs1e hs1z hkv hb
    go_enter Try.func45, Try.ntmps45
    go_wp2_with (first | (go_at_call 88; refine (specWriterValid_any _ _ _ _ _ _ _ _ _ _ _ _ (by repeat (first | exact HRP.out | apply rd_seq | apply Rd.plus | apply Rd.alloc | apply Rd.drew | apply Rd.drewN | refine rd_patch ?_ _ _ (by intro A hA; first | (cases hA; show _ ≠ _; omega) | (have := hal A hA; omega)))) hs1 hs2).mono ?_; rintro e w' ⟨rfl, xv, rfl⟩; rw [HK.out]) | (go_at_call 89; refine (HPU.out _ a cap (by repeat (first | exact HRP.out | apply rd_seq | apply Rd.plus | apply Rd.alloc | apply Rd.drew | apply Rd.drewN | refine rd_patch ?_ _ _ (by intro A hA; first | (cases hA; show _ ≠ _; omega) | (have := hal A hA; omega))))).mono ?_; rintro e w' ⟨pa, pc, rfl, hown, xf2, rfl⟩; clear hown))
    refine wp_region_pt 6 (fun w' => ∃ y, w' = plus _ y) (Plan.quiet 0 (Plan.quiet 1 (Plan.quiet 2 (Plan.quiet 3 (Plan.one 4 (Plan.one 5 (Plan.one 6 Plan.done))))))) (by kernel_rfl) (by kernel_rfl) (⟨_, drew_is_plus _⟩) ?_
    refine wpPt_val rfl rfl ?_
    apply Exists.intro
    refine ⟨fun w' hS => ?_, ?_⟩
    focus (obtain ⟨y3, rfl⟩ := hS; simp [go_sem, ↓IntWalk.iteOmega] <;> first | done | exact rfl | (rw [IntWalk.i64_in _ (by omega)]; exact rfl) | trace_state)
    refine wpPt_val rfl rfl ?_
    apply Exists.intro
    refine ⟨fun w' hS => ?_, ?_⟩
    focus (obtain ⟨y3, rfl⟩ := hS; simp [go_sem, ↓IntWalk.iteOmega] <;> first | done | exact rfl | (rw [IntWalk.i64_in _ (by omega)]; exact rfl) | trace_state)
    refine wpPt_val rfl rfl ?_
    apply Exists.intro
    refine ⟨fun w' hS => ?_, ?_⟩
    focus (obtain ⟨y3, rfl⟩ := hS; simp [go_sem, ↓IntWalk.iteOmega] <;> first | done | exact rfl | (rw [IntWalk.i64_in _ (by omega)]; exact rfl) | trace_state)
    refine wpPt_val rfl rfl ?_
    apply Exists.intro
    refine ⟨fun w' hS => ?_, ?_⟩
    focus (obtain ⟨y3, rfl⟩ := hS; simp [go_sem, ↓IntWalk.iteOmega] <;> first | done | exact rfl | (rw [IntWalk.i64_in _ (by omega)]; exact rfl) | trace_state)
    refine wpPt_one rfl rfl (fun K hK => ?_)
    go_simp
    refine (l1End_any o l m l0 l10 _).mono ?_
    rintro e w' ⟨rfl, xe1, rfl⟩
    refine hK _ _ (fun hkn => (by repeat (first | exact More.refl _ | (with_reducible apply more_seq) | (with_reducible apply more_draw) | apply More.plus | apply More.alloc | apply More.drew))) ?_
    clear hK K
    refine wpPt_one rfl rfl (fun K hK => ?_)
    go_simp
    refine (HPE.out _ pa pc).mono ?_
    rintro e w' ⟨rfl, xe2, rfl⟩
    refine hK _ _ (fun hkn => (by repeat (first | exact More.refl _ | (with_reducible apply more_seq) | (with_reducible apply more_draw) | apply More.plus | apply More.alloc | apply More.drew))) ?_
    clear hK K
    refine wpPt_one rfl rfl (fun K hK => ?_)
    go_simp
    refine hK _ _ (fun hkn => absurd hkn (by decide)) ?_
    clear hK K
    refine NoPanic.normal ?_
    go_wp2_with (go_at_call 71; refine (l1Pack_any o sE _ ho hsz9 HBV.out).mono ?_; rintro e w' ⟨rfl, xe3, rfl⟩; rw [HSB.out])
    exact bodyPost_ret (v := .tuple #[.string (bstr (pckL o B)), .bool true]) (by simp [results, Try.results45, go_sem, ↓IntWalk.iteOmega]) rfl (Ret.mk (by repeat (first | exact More.refl _ | apply More.plus | apply More.alloc | apply More.drew | apply More.drewN)))

end Go.Proofs.Ytmenpflcmpihpaa
