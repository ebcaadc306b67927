/- The law StartWith: the walk. -/
import Derived.Test.YtlihhlihcjncoaaLtr
import Derived.Test.YtlihhlihcjncoaaSok
namespace Go.Proofs.Ytlihhlihcjncoaa
open Go.RowKit
set_option linter.unusedVariables false
set_option linter.unusedSimpArgs false

theorem specStartWith_yes0 (o l m : Int) (s : ByteArray) (w : World) (hs : sv o l m = true) (hd : dfB o l m s = true) (hm : s.size ≤ maxLen) (qs : List Pr) (hq : lrn0 l m s = qs) :
    Calls Try.prog 35 #[.agg #[.int .i64 o, .int .i64 l, .int .i64 m], .string s] w (RetO w (fun a0 c0 => .tuple #[.agg #[.int .i64 o, .int .i64 l, .int .i64 m, .slice a0 qs.length c0, .int .i64 qs.length, .int .i64 (-1)], .bool true]) qs) :=
  specStartWith_of o l m s w hs _ _ _ _ _ _ _ fun W => specLearnKnown_yes o l m none 0 [] 0 (-1) s W (rd_none W) hm (kvb_iff.2 (kv_start hs)) hd qs hq

theorem implStartWith_bad (o l m : Int) (s : ByteArray) (w : World) (hm : s.size ≤ maxLen) (h : sv o l m = false ∨ dfB o l m s = false) :
    Calls Try.prog 32 #[.agg #[.int .i64 o, .int .i64 l, .int .i64 m], .string s] w (RetO w (fun a0 c0 => .tuple #[.agg #[.int .i64 0, .int .i64 0, .int .i64 0, .slice a0 ([] : List Pr).length c0, .int .i64 0, .int .i64 0], .bool false]) []) := by
  cases hs : sv o l m
  · exact implStartWith_nos o l m s w hs
  · exact implStartWith_of o l m s w hs _ _ _ _ _ _ _ fun W => implLearnKnown_no o l m none 0 [] 0 (-1) s W (rd_none W) hm (.inr (h.resolve_left (fun e => by rw [hs] at e; cases e)))

theorem specStartWith_bad (o l m : Int) (s : ByteArray) (w : World) (hm : s.size ≤ maxLen) (h : sv o l m = false ∨ dfB o l m s = false) :
    Calls Try.prog 35 #[.agg #[.int .i64 o, .int .i64 l, .int .i64 m], .string s] w (RetO w (fun a0 c0 => .tuple #[.agg #[.int .i64 0, .int .i64 0, .int .i64 0, .slice a0 ([] : List Pr).length c0, .int .i64 0, .int .i64 0], .bool false]) []) := by
  cases hs : sv o l m
  · exact specStartWith_nos o l m s w hs
  · exact specStartWith_of o l m s w hs _ _ _ _ _ _ _ fun W => specLearnKnown_no o l m none 0 [] 0 (-1) s W (rd_none W) hm (.inr (h.resolve_left (fun e => by rw [hs] at e; cases e)))

/-- the trimmed part teaches the same -/
theorem lrn_trim {o l m : Int} {s : ByteArray} (hs : sv o l m = true) (hd : dfB o l m s = true) {N : Nat} (hN : ned0 l m s = N) (hNs : N ≤ s.size) : lrn0 l m (s.extract 0 N) = lrn0 l m s := by
  obtain ⟨⟨r, h1⟩, h2, _⟩ := lrn_pre hs hd hNs
  have h3 := h2.2 (by omega)
  have e := congrArg List.length h1
  rw [List.length_append] at e
  have : r = [] := List.eq_nil_of_length_eq_zero (by omega)
  rw [h1, this, List.append_nil]

theorem lrn_few0 {o l m base : Int} : ∀ (f : Nat) (ps : List Pr) (last : Int) (d : List UInt8), Tx o l m base ps last d → d.length ≤ f → (lrn l m f ps last d).1.length ≤ ps.length + d.length
  | f, ps, last, [], _, _ => by rw [lrn_nil]; simp
  | 0, _, _, _ :: _, _, h => by simp at h
  | f + 1, ps, last, x :: d, hT, h1 => by
    obtain ⟨n, c, hn, hc, hT'⟩ := hT.step (by simp)
    rw [lrn_step (by simp) hn hc]
    have h2 := hn.1
    have h3 := hn.2.1
    have ih := lrn_few0 f _ _ _ hT' (by rw [List.length_drop]; omega)
    have ha : (aftP l m ps last c).length ≤ ps.length + 1 := by unfold aftP; split <;> simp
    rw [List.length_drop] at ih
    omega

theorem lrn_few {o l m : Int} {s : ByteArray} (hs : sv o l m = true) (hd : dfB o l m s = true) : (lrn0 l m s).length ≤ s.size := by
  have := lrn_few0 s.size [] (-1) s.data.toList ⟨kv_start hs, by rw [bstr_bytes]; exact hd⟩ (by rw [bytes_len]; omega)
  rw [bytes_len] at this
  simpa [lrn0] using this

theorem lrn_empty (l m : Int) : lrn0 l m ⟨#[]⟩ = [] := by
  unfold lrn0
  rw [show (⟨#[]⟩ : ByteArray).data.toList = [] from rfl, lrn_nil]

theorem dfB_empty {o l m : Int} (hs : sv o l m = true) : dfB o l m ⟨#[]⟩ = true := by
  unfold dfB litB
  rw [hs]
  simp
  show (0 : Int) ≤ 2000
  omega

set_option maxRecDepth 100000 in
set_option maxHeartbeats 4000000 in
theorem lawStartWith2_any (a : Option Addr) (cap : Nat) (bs : List UInt8) (w : World) (hr : Rd encB w a cap bs) :
    Calls Try.prog 8 #[.slice a bs.length cap] w (fun e w' => e = .returned (.bool true) ∧ Below w.heap.size w w') := by
  have g1 := hr.1
  have g2 := hr.2.1
  by_cases h1 : bs.length ≤ 1048576
  case neg =>
    go_enter Try.func8, Try.ntmps8
    go_wp2
    go_ret
    exact ⟨rfl, (by repeat (first | exact Below.refl _ _ | refine below_plus ?_ (by first | omega | (simp <;> omega)) _ | refine Below.alloc ?_ (by first | omega | (simp <;> omega)) _ | refine below_patch ?_ (by omega) _ | refine Below.drew ?_))⟩
  go_enter Try.func8, Try.ntmps8
  go_wp2_with fail
  refine (DrawStartWith_any a cap bs _ (by repeat (first | exact hr | apply rd_seq | apply Rd.plus | apply Rd.alloc | apply Rd.drew | apply Rd.drewN | refine rd_patch ?_ _ _ (by intro A hA; first | (cases hA; show _ ≠ _; omega) | (have := hal A hA; omega))))).mono ?_
  rintro e w' ⟨o, l, m, s, rfl, hs3, x1, rfl⟩
  have hm : s.size ≤ maxLen := by unfold maxLen; omega
  by_cases hbad : sv o l m = false ∨ dfB o l m s = false
  · have hdf : dfB o l m s = false := by
      rcases hbad with h | h
      · unfold dfB; rw [h]; rfl
      · exact h
    have HDF := Lib.hid hdf
    have HBD := Lib.hid hbad
    clear hdf hbad
    go_wp2_with fail
    refine (implStartWith_bad o l m s _ hm HBD.out).mono ?_
    rintro e w' ⟨pa, pc, rfl, hown, x2, rfl⟩
    (try simp only [plus_plus] at hown)
    have HR2 := Lib.hid hown.rd
    clear hown
    go_wp2_with fail
    refine (specStartWith_bad o l m s _ hm HBD.out).mono ?_
    rintro e w' ⟨pa3, pc3, rfl, hown, x3, rfl⟩
    (try simp only [plus_plus] at hown)
    have HR3 := Lib.hid hown.rd
    clear hown
    go_wp2_with fail
    refine (soKnown_yes 0 0 0 pa pa3 pc pc3 [] 0 0 _ (by (try unfold RdP); repeat (first | (with_reducible exact HR2.out) | (with_reducible apply rd_seq) | (with_reducible apply Rd.plus) | (with_reducible apply Rd.alloc) | (with_reducible apply Rd.drew) | (with_reducible apply Rd.drewN))) (by (try unfold RdP); repeat (first | (with_reducible exact HR3.out) | (with_reducible apply rd_seq) | (with_reducible apply Rd.plus) | (with_reducible apply Rd.alloc) | (with_reducible apply Rd.drew) | (with_reducible apply Rd.drewN)))).mono ?_
    rintro e w' ⟨rfl, x4, rfl⟩
    go_wp2_with fail
    refine (DataFits_any o l m s _ hm).mono ?_
    rintro e w' ⟨rfl, x5, rfl⟩
    rw [HDF.out]
    go_wp2_with fail
    refine (soKnown_yes 0 0 0 pa pa3 pc pc3 [] 0 0 _ (by (try unfold RdP); repeat (first | (with_reducible exact HR2.out) | (with_reducible apply rd_seq) | (with_reducible apply Rd.plus) | (with_reducible apply Rd.alloc) | (with_reducible apply Rd.drew) | (with_reducible apply Rd.drewN))) (by (try unfold RdP); repeat (first | (with_reducible exact HR3.out) | (with_reducible apply rd_seq) | (with_reducible apply Rd.plus) | (with_reducible apply Rd.alloc) | (with_reducible apply Rd.drew) | (with_reducible apply Rd.drewN)))).mono ?_
    rintro e w' ⟨rfl, x6, rfl⟩
    go_wp2_with fail
    refine (DataFits_any o l m s _ hm).mono ?_
    rintro e w' ⟨rfl, x7, rfl⟩
    rw [HDF.out]
    go_wp2_with fail
    go_ret
    exact ⟨rfl, (by repeat (first | exact Below.refl _ _ | refine below_plus ?_ (by first | omega | (simp <;> omega)) _ | refine Below.alloc ?_ (by first | omega | (simp <;> omega)) _ | refine below_patch ?_ (by omega) _ | refine Below.drew ?_))⟩
  have hs : sv o l m = true := by
    cases hk : sv o l m
    · exact absurd (.inl hk) hbad
    · rfl
  have hd : dfB o l m s = true := by
    cases hd : dfB o l m s
    · exact absurd (.inr hd) hbad
    · rfl
  clear hbad
  obtain ⟨_, _, n0, n1, _, _⟩ := lrn_pre hs hd (n := 0) (by omega)
  obtain ⟨N, hN⟩ : ∃ N : Nat, ned0 l m s = N := ⟨(ned0 l m s).toNat, by omega⟩
  have hNs : N ≤ s.size := by omega
  obtain ⟨_, _, _, _, hd2, hz2⟩ := lrn_pre hs hd hNs
  have hlt := lrn_trim hs hd hN hNs
  have hfew := lrn_few hs hd
  obtain ⟨d, hdd⟩ : ∃ d, s.extract 0 N = d := ⟨_, rfl⟩
  rw [hdd] at hd2 hz2 hlt
  have hmd : d.size ≤ maxLen := by omega
  obtain ⟨P, hP⟩ : ∃ P, lrn0 l m s = P := ⟨_, rfl⟩
  rw [hP] at hlt hfew
  have HT1 := Lib.hid (fun (W : World) => implTrimDict_yes o l m s W hm hs hd N hN hNs)
  rw [hdd] at HT1
  have HS1 := Lib.hid (fun (W : World) => implStartWith_yes0 o l m s W hs hd hm P hP)
  have HS2 := Lib.hid (fun (W : World) => specStartWith_yes0 o l m s W hs hd hm P hP)
  have HS3 := Lib.hid (fun (W : World) => implStartWith_yes0 o l m d W hs hd2 hmd P hlt)
  have HS4 := Lib.hid (fun (W : World) => implStartWith_yes0 o l m ⟨#[]⟩ W hs (dfB_empty hs) (by show 0 ≤ maxLen; omega) [] (lrn_empty l m))
  have hlk := lrn_kv s.size [] (-1) s.data.toList (kv_start hs) (by rw [bstr_bytes]; exact hd)
  have hPe : (lrn l m s.size [] (-1) s.data.toList).1 = P := hP
  rw [hPe] at hlk
  have HKV := Lib.hid (show KV o l m P ((P.length : Nat) : Int) (-1) from ⟨hlk.s, hlk.len, hlk.ok, by omega, by omega, .inl ⟨rfl, rfl⟩⟩)
  clear hlk hPe
  have HAF := Lib.hid (fun (W : World) (pa : Option Addr) (pc : Nat) (h : RdP W pa pc P) => implAfter_clear o l m pa pc P P.length (-1) W h HKV.out)
  rw [List.take_length] at HAF
  have HDF := Lib.hid hd
  have HP9 := Lib.hid hP
  clear hN hdd hd hd2 n0 n1 hP hlt
  go_wp2_with fail
  refine (HS1.out _).mono ?_
  rintro e w' ⟨pa, pc, rfl, hown, x2, rfl⟩
  (try simp only [plus_plus] at hown)
  have HR2 := Lib.hid hown.rd
  clear hown
  go_wp2_with fail
  refine (HS2.out _).mono ?_
  rintro e w' ⟨pa3, pc3, rfl, hown, x3, rfl⟩
  (try simp only [plus_plus] at hown)
  have HR3 := Lib.hid hown.rd
  clear hown
  go_wp2_with fail
  refine (soKnown_yes o l m pa pa3 pc pc3 P P.length (-1) _ (by (try unfold RdP); repeat (first | (with_reducible exact HR2.out) | (with_reducible apply rd_seq) | (with_reducible apply Rd.plus) | (with_reducible apply Rd.alloc) | (with_reducible apply Rd.drew) | (with_reducible apply Rd.drewN))) (by (try unfold RdP); repeat (first | (with_reducible exact HR3.out) | (with_reducible apply rd_seq) | (with_reducible apply Rd.plus) | (with_reducible apply Rd.alloc) | (with_reducible apply Rd.drew) | (with_reducible apply Rd.drewN)))).mono ?_
  rintro e w' ⟨rfl, x4, rfl⟩
  go_wp2_with fail
  refine (DataFits_any o l m s _ hm).mono ?_
  rintro e w' ⟨rfl, x5, rfl⟩
  rw [HDF.out]
  go_wp2_with fail
  refine (HS4.out _).mono ?_
  rintro e w' ⟨pa6, pc6, rfl, hown, x6, rfl⟩
  (try simp only [plus_plus] at hown)
  have HR6 := Lib.hid hown.rd
  clear hown
  go_wp2_with fail
  refine (implStart_yes o l m _ hs).mono ?_
  rintro e w' ⟨rfl, x7, rfl⟩
  go_wp2_with fail
  refine wp_region_pt 9 (fun w' => ∃ y, w' = plus _ y) (Plan.quiet 0 (Plan.quiet 1 (Plan.two 2 (Plan.two 3 (Plan.quiet 4 (Plan.quiet 5 (Plan.quiet 6 (Plan.one 7 (Plan.one 8 (Plan.one 9 Plan.done)))))) 7 (Plan.one 3 (Plan.quiet 4 (Plan.quiet 5 (Plan.quiet 6 (Plan.one 8 (Plan.one 9 Plan.done))))))) 7 (Plan.one 2 (Plan.one 3 (Plan.quiet 4 (Plan.quiet 5 (Plan.quiet 6 (Plan.one 8 (Plan.one 9 Plan.done)))))))))) (by kernel_rfl) (by kernel_rfl) (⟨_, drew_is_plus _⟩) ?_
  refine wpPt_val rfl rfl ?_
  apply Exists.intro
  refine ⟨fun w' hS => ?_, ?_⟩
  focus (obtain ⟨y3, rfl⟩ := hS; simp [go_sem, ↓IntWalk.iteOmega] <;> first | done | exact rfl | (rw [IntWalk.i64_in _ (by omega)]; exact rfl) | trace_state)
  refine wpPt_val rfl rfl ?_
  apply Exists.intro
  refine ⟨fun w' hS => ?_, ?_⟩
  focus (obtain ⟨y3, rfl⟩ := hS; simp [go_sem, ↓IntWalk.iteOmega] <;> first | done | exact rfl | (rw [IntWalk.i64_in _ (by omega)]; exact rfl) | trace_state)
  refine wpPt_two rfl rfl rfl rfl (fun K hK => ?_) (fun K hK => ?_)
  go_simp
  refine (ClearCode_yes _ _ _ hs _).mono ?_
  rintro e w' ⟨rfl, x8, rfl⟩
  refine hK _ _ (fun hkn => (by repeat (first | exact More.refl _ | (with_reducible apply more_seq) | (with_reducible apply more_draw) | apply More.plus | apply More.alloc | apply More.drew))) ?_
  clear hK K
  refine wpPt_two rfl rfl rfl rfl (fun K hK => ?_) (fun K hK => ?_)
  go_simp
  refine (HAF.out _ pa pc (by (try unfold RdP); repeat (first | (with_reducible exact HR2.out) | (with_reducible apply rd_seq) | (with_reducible apply Rd.plus) | (with_reducible apply Rd.alloc) | (with_reducible apply Rd.drew) | (with_reducible apply Rd.drewN)))).mono ?_
  rintro e w' ⟨pa9, pc9, rfl, hown, x9, rfl⟩
  (try simp only [plus_plus] at hown)
  have HO9 := Lib.hid hown
  clear hown
  refine hK _ _ (fun hkn => (by repeat (first | exact More.refl _ | (with_reducible apply more_seq) | (with_reducible apply more_draw) | apply More.plus | apply More.alloc | apply More.drew))) ?_
  clear hK K
  refine wpPt_val rfl rfl ?_
  apply Exists.intro
  refine ⟨fun w' hS => ?_, ?_⟩
  focus (obtain ⟨y3, rfl⟩ := hS; simp [go_sem, ↓IntWalk.iteOmega] <;> first | done | exact rfl | (rw [IntWalk.i64_in _ (by omega)]; exact rfl) | trace_state)
  refine wpPt_val rfl rfl ?_
  apply Exists.intro
  refine ⟨fun w' hS => ?_, ?_⟩
  focus (obtain ⟨y3, rfl⟩ := hS; simp [go_sem, ↓IntWalk.iteOmega] <;> first | done | exact rfl | (rw [IntWalk.i64_in _ (by omega)]; exact rfl) | trace_state)
  refine wpPt_val rfl rfl ?_
  apply Exists.intro
  refine ⟨fun w' hS => ?_, ?_⟩
  focus (obtain ⟨y3, rfl⟩ := hS; simp [go_sem, ↓IntWalk.iteOmega] <;> first | done | exact rfl | (rw [IntWalk.i64_in _ (by omega)]; exact rfl) | trace_state)
  refine wpPt_one rfl rfl (fun K hK => ?_)
  go_simp
  refine hK _ _ (fun hkn => (by repeat (first | exact More.refl _ | (with_reducible apply more_seq) | (with_reducible apply more_draw) | apply More.plus | apply More.alloc | apply More.drew))) ?_
  clear hK K
  refine wpPt_one rfl rfl (fun K hK => ?_)
  go_simp
  refine hK _ _ (fun hkn => (by repeat (first | exact More.refl _ | (with_reducible apply more_seq) | (with_reducible apply more_draw) | apply More.plus | apply More.alloc | apply More.drew))) ?_
  clear hK K
  refine wpPt_one rfl rfl (fun K hK => ?_)
  go_simp
  refine hK _ _ (fun hkn => absurd hkn (by decide)) ?_
  clear hK K
  refine NoPanic.normal ?_
  rotate_left
  go_simp
  refine hK _ _ (fun hkn => (by repeat (first | exact More.refl _ | (with_reducible apply more_seq) | (with_reducible apply more_draw) | apply More.plus | apply More.alloc | apply More.drew))) ?_
  clear hK K
  refine wpPt_one rfl rfl (fun K hK => ?_)
  go_simp
  refine (HAF.out _ pa pc (by (try unfold RdP); repeat (first | (with_reducible exact HR2.out) | (with_reducible apply rd_seq) | (with_reducible apply Rd.plus) | (with_reducible apply Rd.alloc) | (with_reducible apply Rd.drew) | (with_reducible apply Rd.drewN)))).mono ?_
  rintro e w' ⟨pa9, pc9, rfl, hown, x9, rfl⟩
  (try simp only [plus_plus] at hown)
  have HO9 := Lib.hid hown
  clear hown
  refine hK _ _ (fun hkn => (by repeat (first | exact More.refl _ | (with_reducible apply more_seq) | (with_reducible apply more_draw) | apply More.plus | apply More.alloc | apply More.drew))) ?_
  clear hK K
  refine wpPt_val rfl rfl ?_
  apply Exists.intro
  refine ⟨fun w' hS => ?_, ?_⟩
  focus (obtain ⟨y3, rfl⟩ := hS; simp [go_sem, ↓IntWalk.iteOmega] <;> first | done | exact rfl | (rw [IntWalk.i64_in _ (by omega)]; exact rfl) | trace_state)
  refine wpPt_val rfl rfl ?_
  apply Exists.intro
  refine ⟨fun w' hS => ?_, ?_⟩
  focus (obtain ⟨y3, rfl⟩ := hS; simp [go_sem, ↓IntWalk.iteOmega] <;> first | done | exact rfl | (rw [IntWalk.i64_in _ (by omega)]; exact rfl) | trace_state)
  refine wpPt_val rfl rfl ?_
  apply Exists.intro
  refine ⟨fun w' hS => ?_, ?_⟩
  focus (obtain ⟨y3, rfl⟩ := hS; simp [go_sem, ↓IntWalk.iteOmega] <;> first | done | exact rfl | (rw [IntWalk.i64_in _ (by omega)]; exact rfl) | trace_state)
  refine wpPt_one rfl rfl (fun K hK => ?_)
  go_simp
  refine hK _ _ (fun hkn => (by repeat (first | exact More.refl _ | (with_reducible apply more_seq) | (with_reducible apply more_draw) | apply More.plus | apply More.alloc | apply More.drew))) ?_
  clear hK K
  refine wpPt_one rfl rfl (fun K hK => ?_)
  go_simp
  refine hK _ _ (fun hkn => absurd hkn (by decide)) ?_
  clear hK K
  refine NoPanic.normal ?_
  rotate_left
  go_simp
  refine hK _ _ (fun hkn => (by repeat (first | exact More.refl _ | (with_reducible apply more_seq) | (with_reducible apply more_draw) | apply More.plus | apply More.alloc | apply More.drew))) ?_
  clear hK K
  refine wpPt_one rfl rfl (fun K hK => ?_)
  go_simp
  refine (ClearCode_yes _ _ _ hs _).mono ?_
  rintro e w' ⟨rfl, x8, rfl⟩
  refine hK _ _ (fun hkn => (by repeat (first | exact More.refl _ | (with_reducible apply more_seq) | (with_reducible apply more_draw) | apply More.plus | apply More.alloc | apply More.drew))) ?_
  clear hK K
  refine wpPt_one rfl rfl (fun K hK => ?_)
  go_simp
  refine (HAF.out _ pa pc (by (try unfold RdP); repeat (first | (with_reducible exact HR2.out) | (with_reducible apply rd_seq) | (with_reducible apply Rd.plus) | (with_reducible apply Rd.alloc) | (with_reducible apply Rd.drew) | (with_reducible apply Rd.drewN)))).mono ?_
  rintro e w' ⟨pa9, pc9, rfl, hown, x9, rfl⟩
  (try simp only [plus_plus] at hown)
  have HO9 := Lib.hid hown
  clear hown
  refine hK _ _ (fun hkn => (by repeat (first | exact More.refl _ | (with_reducible apply more_seq) | (with_reducible apply more_draw) | apply More.plus | apply More.alloc | apply More.drew))) ?_
  clear hK K
  refine wpPt_val rfl rfl ?_
  apply Exists.intro
  refine ⟨fun w' hS => ?_, ?_⟩
  focus (obtain ⟨y3, rfl⟩ := hS; simp [go_sem, ↓IntWalk.iteOmega] <;> first | done | exact rfl | (rw [IntWalk.i64_in _ (by omega)]; exact rfl) | trace_state)
  refine wpPt_val rfl rfl ?_
  apply Exists.intro
  refine ⟨fun w' hS => ?_, ?_⟩
  focus (obtain ⟨y3, rfl⟩ := hS; simp [go_sem, ↓IntWalk.iteOmega] <;> first | done | exact rfl | (rw [IntWalk.i64_in _ (by omega)]; exact rfl) | trace_state)
  refine wpPt_val rfl rfl ?_
  apply Exists.intro
  refine ⟨fun w' hS => ?_, ?_⟩
  focus (obtain ⟨y3, rfl⟩ := hS; simp [go_sem, ↓IntWalk.iteOmega] <;> first | done | exact rfl | (rw [IntWalk.i64_in _ (by omega)]; exact rfl) | trace_state)
  refine wpPt_one rfl rfl (fun K hK => ?_)
  go_simp
  refine hK _ _ (fun hkn => (by repeat (first | exact More.refl _ | (with_reducible apply more_seq) | (with_reducible apply more_draw) | apply More.plus | apply More.alloc | apply More.drew))) ?_
  clear hK K
  refine wpPt_one rfl rfl (fun K hK => ?_)
  go_simp
  refine hK _ _ (fun hkn => absurd hkn (by decide)) ?_
  clear hK K
  refine NoPanic.normal ?_
  all_goals
    go_wp2_with fail
    refine (HT1.out _).mono ?_
    rintro e w' ⟨rfl, x10, rfl⟩
    go_wp2_with fail
    refine (HS3.out _).mono ?_
    rintro e w' ⟨pa11, pc11, rfl, hown, x11, rfl⟩
    (try simp only [plus_plus] at hown)
    have HR11 := Lib.hid hown.rd
    clear hown
    go_wp2_with fail
    refine (soKnown_yes o l m pa6 none pc6 0 [] 0 (-1) _ (by (try unfold RdP); repeat (first | (with_reducible exact HR6.out) | (with_reducible apply rd_seq) | (with_reducible apply Rd.plus) | (with_reducible apply Rd.alloc) | (with_reducible apply Rd.drew) | (with_reducible apply Rd.drewN))) (rd_none _)).mono ?_
    rintro e w' ⟨rfl, x12, rfl⟩
    go_wp2_with fail
    refine (soKnown_yes o l m pa9 pa pc9 pc P P.length (-1) _ (by (try unfold RdP); repeat (first | (with_reducible exact HO9.out.rd) | (with_reducible exact (own_swap HO9.out (by simp; done) (by simp <;> omega)).rd) | (with_reducible apply rd_seq) | (with_reducible apply Rd.plus) | (with_reducible apply Rd.alloc) | (with_reducible apply Rd.drew))) (by (try unfold RdP); repeat (first | (with_reducible exact HR2.out) | (with_reducible apply rd_seq) | (with_reducible apply Rd.plus) | (with_reducible apply Rd.alloc) | (with_reducible apply Rd.drew) | (with_reducible apply Rd.drewN)))).mono ?_
    rintro e w' ⟨rfl, x13, rfl⟩
    go_wp2_with fail
    refine (soKnown_yes o l m pa11 pa pc11 pc P P.length (-1) _ (by (try unfold RdP); repeat (first | (with_reducible exact HR11.out) | (with_reducible apply rd_seq) | (with_reducible apply Rd.plus) | (with_reducible apply Rd.alloc) | (with_reducible apply Rd.drew) | (with_reducible apply Rd.drewN))) (by (try unfold RdP); repeat (first | (with_reducible exact HR2.out) | (with_reducible apply rd_seq) | (with_reducible apply Rd.plus) | (with_reducible apply Rd.alloc) | (with_reducible apply Rd.drew) | (with_reducible apply Rd.drewN)))).mono ?_
    rintro e w' ⟨rfl, x14, rfl⟩
    go_wp2_with fail
    go_ret
    exact ⟨rfl, (by repeat (first | exact Below.refl _ _ | refine below_plus ?_ (by first | omega | (simp <;> omega)) _ | refine Below.alloc ?_ (by first | omega | (simp <;> omega)) _ | refine below_patch ?_ (by omega) _ | refine Below.drew ?_))⟩

end Go.Proofs.Ytlihhlihcjncoaa
