/- The walk of spec.UnpackCodes: the codes of a stream, how it ends, how many of its bytes are used. -/
import Derived.Test.YtibfkfinghcpaaaIrs
namespace Go.Proofs.Ytibfkfinghcpaaa
open Go.RowKit
set_option linter.unusedVariables false
set_option linter.unusedSimpArgs false

/-- what UnpackCodes leaves -/
def RetUn (w : World) (xs : List Int) (en u : Int) (e : Ending) (w' : World) : Prop :=
  ∃ a c, e = .returned (.tuple #[.slice a xs.length c, .int .i64 en, .int .i64 u]) ∧ Own encI 3 w' a c xs w.heap.size ∧ ∃ x, w' = plus w x

/-- how many bytes are used -/
def usedV (n : Nat) (R : Rg) : Int := if R.e = 1 then (n : Int) else ((R.p : Int) + 7) / 8

/-- the state of the loop -/
def USt2 (o l m : Int) (b : Nat) (bits : List UInt8) (R : Rg) (w0 : World) (wa : Option Addr) (wn wc : Nat) (p dn : Nat) (wr : World) : Prop :=
  ∃ (ps : List Pr) (last : Int) (pa : Option Addr) (pc : Nat) (C : List Int) (D : List UInt8) (f : Nat), wn = C.length ∧ dn = D.length ∧ T3q wr w0.heap.size o l m ps (b : Int) last pa pc wa wc C none 0 [] ∧ KV o l m ps (b : Int) last ∧
    C.length < 3100 ∧ D.length ≤ 2000 ∧ p ≤ bits.length ∧ bits.length - p < f ∧ rdc o l m b 0 0 bits f ps last p C D = R ∧ Below w0.heap.size w0 wr

set_option maxRecDepth 100000 in
set_option maxHeartbeats 4000000 in
theorem specUnpackCodes_yes (o l m : Int) (a : Option Addr) (cap : Nat) (ps : List Pr) (b : Nat) (last : Int) (s : ByteArray) (w : World) (hr : RdP w a cap ps) (hk : kvb o l m ps (b : Int) last = true) (hsz : s.size ≤ 4000) (R : Rg)
    (hR : rdc o l m b 0 0 (unpL o s.data.toList) (8 * s.size + 1) ps last 0 [] [] = R) :
    Calls Try.prog 15 #[.agg #[.int .i64 o, .int .i64 l, .int .i64 m, .slice a ps.length cap, .int .i64 b, .int .i64 last], .string s] w (RetUn w R.C R.e (usedV s.size R)) := by
  have hkv := kvb_iff.1 hk
  have hs := hkv.s
  obtain ⟨ho, l1, l2, m1, m2⟩ := sv_iff.1 hs
  have l0 : 0 ≤ l := by omega
  have l10 : l ≤ 10 := by omega
  have HV := Lib.hid hkv
  have HRP := Lib.hid hr
  obtain ⟨i0, hi, iz0, iz1, iz2⟩ := info_parts infoInt
  obtain ⟨bits, hbits⟩ : ∃ x, unpL o s.data.toList = x := ⟨_, rfl⟩
  have hbl : bits.length = 8 * s.size := by rw [← hbits, unpL_len, bytes_len]
  have hbv : BV bits := by
    rw [← hbits]
    intro x hx
    obtain ⟨y, _, hy⟩ := List.mem_flatMap.1 hx
    exact bitsL_bv o _ _ x hy
  rw [hbits] at hR
  obtain ⟨z, hz⟩ : ∃ z, bstr bits = z := ⟨_, rfl⟩
  have hzb : z.data.toList = bits := by rw [← hz, bytes_bstr]
  have hzs : z.size = 8 * s.size := by rw [← hz, bstr_size]; exact hbl
  have HBV := Lib.hid hbv
  have HZB := Lib.hid hzb
  have HRR := Lib.hid hR
  have HBL := Lib.hid hbl
  have HZ := Lib.hid (show bstr (unpL o s.data.toList) = z by rw [hbits]; exact hz)
  clear hkv hr hbits hbv hz hzb hR hbl
  go_enter Try.func15, Try.ntmps15
  go_wp2_with (first | (go_at_call 63; refine (specKnownValid_any _ _ _ _ _ _ _ _ _ (by repeat (first | exact HRP.out | apply rd_seq | apply Rd.plus | apply Rd.alloc | apply Rd.drew | apply Rd.drewN | refine rd_patch ?_ _ _ (by intro A hA; first | (cases hA; show _ ≠ _; omega) | (have := hal A hA; omega))))).mono ?_; rintro e w' ⟨rfl, xc, rfl⟩) | (go_at_call 64; refine (l1Unpack_any o s _ ho hsz).mono ?_; rintro e w' ⟨rfl, xc, rfl⟩; rw [HZ.out]) | fail)
  go_loopw [7, 8, 9] (fun p q t wr => ∃ (wa : Option Addr) (wn wc pp dn : Nat), p = .slice wa wn wc ∧ q = .int .i64 pp ∧ t = .int .i64 dn ∧ USt2 o l m b bits R w wa wn wc pp dn wr) (fun _ q _ _ => 8 * s.size + 1 - (intOf q).toNat)
  case atStart =>
    refine ⟨_, 0, 0, 0, 0, rfl, rfl, rfl, ps, last, a, cap, [], [], 8 * s.size + 1, rfl, rfl, ⟨?_, (by repeat (first | exact HRP.out | apply rd_seq | apply Rd.plus | apply Rd.alloc | apply Rd.drew | apply Rd.drewN | refine rd_patch ?_ _ _ (by intro A hA; first | (cases hA; show _ ≠ _; omega) | (have := hal A hA; omega)))), ?_, .inl ⟨rfl, rfl, rfl⟩, ?_, fun X hX Y hY => by simp at hY, .inr fun X hX => by simp at hX⟩, HV.out, by simp, by simp, by omega, by rw [HBL.out]; omega, HRR.out, (by repeat (first | exact Below.refl _ _ | refine below_plus ?_ (by first | omega | (simp <;> omega)) _ | refine Below.alloc ?_ (by first | omega | (simp <;> omega)) _ | refine below_patch ?_ (by omega) _ | refine Below.drew ?_))⟩
    · exact blk_plus (blk_alloc (push_new _ _ _ rfl) _) _
    · exact (Own.newAt (by simp) (by omega) rfl (fun j u hj => by simp [flat] at hj) (by simp) (by omega)).plus _
    · rcases rdp_lt HRP.out with h | h
      · exact .inl h
      · exact .inr fun X hX Y hY e => by cases hX; have := h Y hY; simp at e; omega
  case round =>
    obtain ⟨wa, wn, wc, p, dn, rfl, rfl, rfl, ps', last', pa', pc', C, D, f, rfl, rfl, htq, hkv, hcl, hdl, hpl, hf, hrd, hbl⟩ := hrel
    have HT := Lib.hid htq
    have HK := Lib.hid hkv
    have HRD := Lib.hid hrd
    have HBLW := Lib.hid hbl
    have hlim := hkv.lim
    obtain ⟨_, _, _, _, t1, t2, t3, t4⟩ := hlim.bds
    have hlen' := kv_len (kvb_iff.2 hkv)
    have hb1' := hkv.b1
    have hlast := hlim.last
    have HLM := Lib.hid hlim
    obtain ⟨wd1, wd2⟩ := wd_ten hlim
    obtain ⟨n, hn⟩ : ∃ n : Nat, wd l m ps'.length last' = n := ⟨(wd l m ps'.length last').toNat, by omega⟩
    have HN := Lib.hid hn
    have hn2 : (wd l m ps'.length last').toNat = n := by omega
    have HN2 := Lib.hid hn2
    rw [hn] at wd1 wd2
    have hB := htq.B_lt
    have rk := cell_of htq.blk
    have fk := free_of htq.blk
    have hpz : p ≤ z.size := by have := HBL.out; omega
    clear htq hkv hrd hbl hlim hn hn2
    rcases dec (p + n ≤ z.size) with ⟨hlt, v1⟩ | ⟨hlt, v1⟩
    · obtain ⟨t, ht⟩ : ∃ t, z.extract p (p + n) = t := ⟨_, rfl⟩
      have htb : t.data.toList = (bits.drop p).take n := by rw [← ht, ← HZB.out]; simp
      have hts : t.size = n := by rw [← bytes_len, htb, List.length_take, List.length_drop]; have := HBL.out; omega
      have HTS := Lib.hid hts
      have HTV := Lib.hid (show BV t.data.toList by intro x hx; rw [htb] at hx; exact HBV.out x (List.mem_of_mem_drop (List.mem_of_mem_take hx)))
      obtain ⟨c, hc⟩ : ∃ c, numL o t.data.toList = c := ⟨_, rfl⟩
      have HTC := Lib.hid hc
      have HNC := Lib.hid (show numL o ((bits.drop p).take n) = c by rw [← htb]; exact hc)
      have hcb := numL_bd o t.data.toList (by rw [bytes_len]; omega)
      rw [hc] at hcb
      have HX := Lib.hid ht
      have hsl := fun (W : World) => run_slice_string (P := Try.prog) W 9 z .i64 .i64 (p : Int) ((p : Int) + n) Try.underlying9 (by omega) (by omega) (by omega)
      simp only [show ((p : Int)).toNat = p by omega, show ((p : Int) + n).toNat = p + n by omega, HX.out] at hsl
      have v2 : decide ((p : Int) + n ≤ (z.size : Int)) = true := by simp; omega
      have hw9 : IntKind.i64.wrap ((p : Int) + n) = (p : Int) + n := IntWalk.i64_in _ (by omega)
      have HNS := Lib.hid (show ¬ bits.length - p < n by have := HBL.out; omega)
      obtain ⟨f, rfl⟩ : ∃ f', f = f' + 1 := ⟨f - 1, by omega⟩
      clear ht htb hts hc
      by_cases he : c = two l + 1
      · have v3 : (c == two l + 1) = true := by simp [he]
        have HR1 := Lib.hid (show R = ⟨ps', last', C ++ [two l + 1], D, 0, p + n⟩ by rw [← HRD.out, rdc_end HN2.out HNS.out (by rw [← he]; exact HNC.out) (can_end t1)])
        go_wp2_with (go_at_call 65; refine (l2Width_any _ _ _ _ _ _ _ _ _ HLM.out (by omega)).mono ?_; rintro e w' ⟨rfl, xc, rfl⟩; rw [HN.out])
        refine wp_region_pt 11 (fun w' => w'.heap[w.heap.size]? = some (.cells #[.int .i64 o, .int .i64 l, .int .i64 m, .slice pa' ps'.length pc', .int .i64 b, .int .i64 last'] 27 (0, 0))) (Plan.quiet 0 (Plan.quiet 1 (Plan.quiet 2 (Plan.quiet 3 (Plan.quiet 4 (Plan.quiet 5 (Plan.quiet 6 (Plan.one 7 (Plan.quiet 8 (Plan.quiet 9 (Plan.one 10 (Plan.one 11 Plan.done)))))))))))) (by kernel_rfl) (by kernel_rfl) (blk_drew (blk_plus HT.out.blk _)) ?_
        refine wpPt_val rfl rfl ?_
        apply Exists.intro
        refine ⟨fun w' hS => ?_, ?_⟩
        focus (have rS := cell_of hS; simp [go_sem, ↓IntWalk.iteOmega, rS, hw9, hsl] <;> first | done | exact rfl | (rw [IntWalk.i64_in _ (by omega)]; exact rfl) | trace_state)
        refine wpPt_val rfl rfl ?_
        apply Exists.intro
        refine ⟨fun w' hS => ?_, ?_⟩
        focus (have rS := cell_of hS; simp [go_sem, ↓IntWalk.iteOmega, rS, hw9, hsl] <;> first | done | exact rfl | (rw [IntWalk.i64_in _ (by omega)]; exact rfl) | trace_state)
        refine wpPt_val rfl rfl ?_
        apply Exists.intro
        refine ⟨fun w' hS => ?_, ?_⟩
        focus (have rS := cell_of hS; simp [go_sem, ↓IntWalk.iteOmega, rS, hw9, hsl] <;> first | done | exact rfl | (rw [IntWalk.i64_in _ (by omega)]; exact rfl) | trace_state)
        refine wpPt_val rfl rfl ?_
        apply Exists.intro
        refine ⟨fun w' hS => ?_, ?_⟩
        focus (have rS := cell_of hS; simp [go_sem, ↓IntWalk.iteOmega, rS, hw9, hsl] <;> first | done | exact rfl | (rw [IntWalk.i64_in _ (by omega)]; exact rfl) | trace_state)
        refine wpPt_val rfl rfl ?_
        apply Exists.intro
        refine ⟨fun w' hS => ?_, ?_⟩
        focus (have rS := cell_of hS; simp [go_sem, ↓IntWalk.iteOmega, rS, hw9, hsl] <;> first | done | exact rfl | (rw [IntWalk.i64_in _ (by omega)]; exact rfl) | trace_state)
        refine wpPt_val rfl rfl ?_
        apply Exists.intro
        refine ⟨fun w' hS => ?_, ?_⟩
        focus (have rS := cell_of hS; simp [go_sem, ↓IntWalk.iteOmega, rS, hw9, hsl] <;> first | done | exact rfl | (rw [IntWalk.i64_in _ (by omega)]; exact rfl) | trace_state)
        refine wpPt_val rfl rfl ?_
        apply Exists.intro
        refine ⟨fun w' hS => ?_, ?_⟩
        focus (have rS := cell_of hS; simp [go_sem, ↓IntWalk.iteOmega, rS, hw9, hsl] <;> first | done | exact rfl | (rw [IntWalk.i64_in _ (by omega)]; exact rfl) | trace_state)
        refine wpPt_one rfl rfl (fun K hK => ?_)
        go_simp
        refine (l2Width_any _ _ _ _ _ _ _ _ _ HLM.out (by omega)).mono ?_
        rintro e w' ⟨rfl, x8, rfl⟩
        rw [HN.out]
        refine hK _ _ (fun hkn => (by repeat (first | (with_reducible exact HT.out.blk) | (with_reducible apply blk_seq) | (with_reducible apply blk_draw) | (with_reducible apply blk_plus) | (with_reducible apply blk_alloc) | (with_reducible apply blk_drew) | (with_reducible refine blk_patch ?_ (by omega)) | exact HT.out.blk))) ?_
        clear hK K
        refine wpPt_val rfl rfl ?_
        apply Exists.intro
        refine ⟨fun w' hS => ?_, ?_⟩
        focus (have rS := cell_of hS; simp [go_sem, ↓IntWalk.iteOmega, rS, hw9, hsl] <;> first | done | exact rfl | (rw [IntWalk.i64_in _ (by omega)]; exact rfl) | trace_state)
        refine wpPt_val rfl rfl ?_
        apply Exists.intro
        refine ⟨fun w' hS => ?_, ?_⟩
        focus (have rS := cell_of hS; simp [go_sem, ↓IntWalk.iteOmega, rS, hw9, hsl] <;> first | done | exact rfl | (rw [IntWalk.i64_in _ (by omega)]; exact rfl) | trace_state)
        refine wpPt_one rfl rfl (fun K hK => ?_)
        go_simp
        clear hw9
        refine (l1Number_any o t _ ho (by have := HTS.out; omega) HTV.out).mono ?_
        rintro e w' ⟨rfl, x9, rfl⟩
        rw [HTC.out]
        refine hK _ _ (fun hkn => (by repeat (first | (with_reducible exact HT.out.blk) | (with_reducible apply blk_seq) | (with_reducible apply blk_draw) | (with_reducible apply blk_plus) | (with_reducible apply blk_alloc) | (with_reducible apply blk_drew) | (with_reducible refine blk_patch ?_ (by omega)) | exact HT.out.blk))) ?_
        clear hK K
        refine wpPt_one rfl rfl (fun K hK => ?_)
        go_simp
        refine hK _ _ (fun hkn => absurd hkn (by decide)) ?_
        clear hK K
        refine NoPanic.normal ?_
        go_wp2_with (first | (go_at_call 65; refine (l2Width_any _ _ _ _ _ _ _ _ _ HLM.out (by omega)).mono ?_; rintro e w' ⟨rfl, xc, rfl⟩; rw [HN.out]) | (go_at_call 67; refine (l1End_any _ _ _ l0 l10 _).mono ?_; rintro e w' ⟨rfl, xc, rfl⟩) | (at_builtin; refine wpList_append_at encI _ _ _ _ i0 _ 8 rfl rfl Try.underlying30 hi iz0 iz1 iz2 rfl (by decide) C wa wc (w.heap.size + 1) (by repeat (first | (with_reducible exact HT.out.ow) | (with_reducible apply own_seq) | (with_reducible apply own_draw) | (with_reducible apply Own.plus) | (with_reducible apply Own.alloc) | (with_reducible apply Own.drew) | (with_reducible apply Own.drewN))) rfl [two l + 1] _ 0 1 (new_cells encI (two l + 1) _ _ (by first | omega | rfl | (simp <;> omega) | (simp only [List.length_cons, List.length_nil, plus_size, World.size_alloc]; omega))) rfl (by first | omega | rfl | (simp <;> omega) | (simp only [List.length_cons, List.length_nil, plus_size, World.size_alloc]; omega)) (by first | omega | rfl | (simp <;> omega) | (simp only [List.length_cons, List.length_nil, plus_size, World.size_alloc]; omega)) (by simp <;> omega) ?_; intro A6 c6 w6 hw6 hg6 hx6; have HT6 := Lib.hid (T3q.grewI (o := o) (l := l) (m := m) (ps := ps') (base := (b : Int)) (last := last') (pa := pa') (pc := pc') (W := C) (da := none) (dc := 0) (D := []) (by repeat (first | (with_reducible exact HT.out) | (with_reducible apply t3q_seq) | (with_reducible apply T3q.plus) | (with_reducible apply T3q.alloc) | (with_reducible apply T3q.drew))) hw6 hg6 hx6); have hbl6 := hg6.below (B := w.heap.size + 1) (by simp <;> omega) (fun X hX => own_lo HT.out.ow X hX); have HB6 := Lib.hid (HBLW.out.trans (Below.trans (b := _) (by repeat (first | exact Below.refl _ _ | refine below_plus ?_ (by first | omega | (simp <;> omega)) _ | refine Below.alloc ?_ (by first | omega | (simp <;> omega)) _ | refine below_patch ?_ (by omega) _ | refine Below.drew ?_)) (hbl6.mono (by omega)))); have z6 := hg6.size; simp at z6; have r6 := cell_of HT6.out.blk; have f6 := free_of HT6.out.blk; have s6 := fun v => setCell_patch HT6.out.blk 0 v; have hB6 := HT6.out.B_lt; clear hw6 hg6 hx6 hbl6))
        refine bodyPost_ret (v := .tuple #[.slice A6 (C ++ [two l + 1]).length c6, .int .i64 0, .int .i64 (((p : Int) + n + 7) / 8)]) (by simp [results, Try.results15, go_sem, ↓IntWalk.iteOmega]) rfl ?_
        rw [HR1.out]
        exact ⟨A6, c6, by simp [usedV], HT6.out.ow.lower (by omega), below_more (Below.trans (b := _) HB6.out (by repeat (first | exact Below.refl _ _ | refine below_plus ?_ (by first | omega | (simp <;> omega)) _ | refine Below.alloc ?_ (by first | omega | (simp <;> omega)) _ | refine below_patch ?_ (by omega) _ | refine Below.drew ?_)))⟩
      · have v3 : (c == two l + 1) = false := by simp [he]
        by_cases hcl : c = two l
        · have v4 : (c != two l) = false := by simp [hcl]
          have v6 : decide (2000 < D.length) = false := by simp; omega
          have HRC := Lib.hid (rdc_clear (o := o) (b := b) (sz := 0) (ct := 0) (f := f) (C := C) (D := D) HN2.out HNS.out (by rw [← hcl]; exact HNC.out) (can_clear t1))
          by_cases hct : C.length + 1 = 3100
          · have v5 : ((C.length : Int) + 1 == 3100) = true := by simp; omega
            have HR1 := Lib.hid (show R = ⟨ps'.take b, -1, C ++ [two l], D, 3, p + n⟩ by rw [← HRD.out, HRC.out, if_pos (by omega)])
            clear hct
            go_wp2_with (go_at_call 65; refine (l2Width_any _ _ _ _ _ _ _ _ _ HLM.out (by omega)).mono ?_; rintro e w' ⟨rfl, xc, rfl⟩; rw [HN.out])
            refine wp_region_pt 11 (fun w' => w'.heap[w.heap.size]? = some (.cells #[.int .i64 o, .int .i64 l, .int .i64 m, .slice pa' ps'.length pc', .int .i64 b, .int .i64 last'] 27 (0, 0))) (Plan.quiet 0 (Plan.quiet 1 (Plan.quiet 2 (Plan.quiet 3 (Plan.quiet 4 (Plan.quiet 5 (Plan.quiet 6 (Plan.one 7 (Plan.quiet 8 (Plan.quiet 9 (Plan.one 10 (Plan.one 11 Plan.done)))))))))))) (by kernel_rfl) (by kernel_rfl) (blk_drew (blk_plus HT.out.blk _)) ?_
            refine wpPt_val rfl rfl ?_
            apply Exists.intro
            refine ⟨fun w' hS => ?_, ?_⟩
            focus (have rS := cell_of hS; simp [go_sem, ↓IntWalk.iteOmega, rS, hw9, hsl] <;> first | done | exact rfl | (rw [IntWalk.i64_in _ (by omega)]; exact rfl) | trace_state)
            refine wpPt_val rfl rfl ?_
            apply Exists.intro
            refine ⟨fun w' hS => ?_, ?_⟩
            focus (have rS := cell_of hS; simp [go_sem, ↓IntWalk.iteOmega, rS, hw9, hsl] <;> first | done | exact rfl | (rw [IntWalk.i64_in _ (by omega)]; exact rfl) | trace_state)
            refine wpPt_val rfl rfl ?_
            apply Exists.intro
            refine ⟨fun w' hS => ?_, ?_⟩
            focus (have rS := cell_of hS; simp [go_sem, ↓IntWalk.iteOmega, rS, hw9, hsl] <;> first | done | exact rfl | (rw [IntWalk.i64_in _ (by omega)]; exact rfl) | trace_state)
            refine wpPt_val rfl rfl ?_
            apply Exists.intro
            refine ⟨fun w' hS => ?_, ?_⟩
            focus (have rS := cell_of hS; simp [go_sem, ↓IntWalk.iteOmega, rS, hw9, hsl] <;> first | done | exact rfl | (rw [IntWalk.i64_in _ (by omega)]; exact rfl) | trace_state)
            refine wpPt_val rfl rfl ?_
            apply Exists.intro
            refine ⟨fun w' hS => ?_, ?_⟩
            focus (have rS := cell_of hS; simp [go_sem, ↓IntWalk.iteOmega, rS, hw9, hsl] <;> first | done | exact rfl | (rw [IntWalk.i64_in _ (by omega)]; exact rfl) | trace_state)
            refine wpPt_val rfl rfl ?_
            apply Exists.intro
            refine ⟨fun w' hS => ?_, ?_⟩
            focus (have rS := cell_of hS; simp [go_sem, ↓IntWalk.iteOmega, rS, hw9, hsl] <;> first | done | exact rfl | (rw [IntWalk.i64_in _ (by omega)]; exact rfl) | trace_state)
            refine wpPt_val rfl rfl ?_
            apply Exists.intro
            refine ⟨fun w' hS => ?_, ?_⟩
            focus (have rS := cell_of hS; simp [go_sem, ↓IntWalk.iteOmega, rS, hw9, hsl] <;> first | done | exact rfl | (rw [IntWalk.i64_in _ (by omega)]; exact rfl) | trace_state)
            refine wpPt_one rfl rfl (fun K hK => ?_)
            go_simp
            refine (l2Width_any _ _ _ _ _ _ _ _ _ HLM.out (by omega)).mono ?_
            rintro e w' ⟨rfl, x8, rfl⟩
            rw [HN.out]
            refine hK _ _ (fun hkn => (by repeat (first | (with_reducible exact HT.out.blk) | (with_reducible apply blk_seq) | (with_reducible apply blk_draw) | (with_reducible apply blk_plus) | (with_reducible apply blk_alloc) | (with_reducible apply blk_drew) | (with_reducible refine blk_patch ?_ (by omega)) | exact HT.out.blk))) ?_
            clear hK K
            refine wpPt_val rfl rfl ?_
            apply Exists.intro
            refine ⟨fun w' hS => ?_, ?_⟩
            focus (have rS := cell_of hS; simp [go_sem, ↓IntWalk.iteOmega, rS, hw9, hsl] <;> first | done | exact rfl | (rw [IntWalk.i64_in _ (by omega)]; exact rfl) | trace_state)
            refine wpPt_val rfl rfl ?_
            apply Exists.intro
            refine ⟨fun w' hS => ?_, ?_⟩
            focus (have rS := cell_of hS; simp [go_sem, ↓IntWalk.iteOmega, rS, hw9, hsl] <;> first | done | exact rfl | (rw [IntWalk.i64_in _ (by omega)]; exact rfl) | trace_state)
            refine wpPt_one rfl rfl (fun K hK => ?_)
            go_simp
            clear hw9
            refine (l1Number_any o t _ ho (by have := HTS.out; omega) HTV.out).mono ?_
            rintro e w' ⟨rfl, x9, rfl⟩
            rw [HTC.out]
            refine hK _ _ (fun hkn => (by repeat (first | (with_reducible exact HT.out.blk) | (with_reducible apply blk_seq) | (with_reducible apply blk_draw) | (with_reducible apply blk_plus) | (with_reducible apply blk_alloc) | (with_reducible apply blk_drew) | (with_reducible refine blk_patch ?_ (by omega)) | exact HT.out.blk))) ?_
            clear hK K
            refine wpPt_one rfl rfl (fun K hK => ?_)
            go_simp
            refine hK _ _ (fun hkn => absurd hkn (by decide)) ?_
            clear hK K
            refine NoPanic.normal ?_
            go_wp2_with (first | (go_at_call 65; refine (l2Width_any _ _ _ _ _ _ _ _ _ HLM.out (by omega)).mono ?_; rintro e w' ⟨rfl, xc, rfl⟩; rw [HN.out]) | (go_at_call 67; refine (l1End_any _ _ _ l0 l10 _).mono ?_; rintro e w' ⟨rfl, xc, rfl⟩) | (go_at_call 68; refine (l1Clear_any _ _ _ l0 l10 _).mono ?_; rintro e w' ⟨rfl, xc, rfl⟩) | (go_at_call 71; refine (l2Step_clear o l m pa' pc' ps' b last' _ (by repeat (first | exact HT6.out.rp | apply rd_seq | apply Rd.plus | apply Rd.alloc | apply Rd.drew | apply Rd.drewN | refine rd_patch ?_ _ _ (by intro A hA; first | (cases hA; show _ ≠ _; omega) | (have := hal A hA; omega)))) hs (by omega) hlen').mono ?_; rintro e w' ⟨A8, c8, rfl, hown8, x8, rfl⟩; (try simp only [plus_plus] at hown8); have HO8 := Lib.hid (hown8.lower (lo' := w6.heap.size) (by simp <;> omega)); clear hown8) | (at_builtin; refine wpList_append_at encI _ _ _ _ i0 _ 8 rfl rfl Try.underlying30 hi iz0 iz1 iz2 rfl (by decide) C wa wc (w.heap.size + 1) (by repeat (first | (with_reducible exact HT.out.ow) | (with_reducible apply own_seq) | (with_reducible apply own_draw) | (with_reducible apply Own.plus) | (with_reducible apply Own.alloc) | (with_reducible apply Own.drew) | (with_reducible apply Own.drewN))) rfl [two l] _ 0 1 (new_cells encI (two l) _ _ (by first | omega | rfl | (simp <;> omega) | (simp only [List.length_cons, List.length_nil, plus_size, World.size_alloc]; omega))) rfl (by first | omega | rfl | (simp <;> omega) | (simp only [List.length_cons, List.length_nil, plus_size, World.size_alloc]; omega)) (by first | omega | rfl | (simp <;> omega) | (simp only [List.length_cons, List.length_nil, plus_size, World.size_alloc]; omega)) (by simp <;> omega) ?_; intro A6 c6 w6 hw6 hg6 hx6; have HT6 := Lib.hid (T3q.grewI (o := o) (l := l) (m := m) (ps := ps') (base := (b : Int)) (last := last') (pa := pa') (pc := pc') (W := C) (da := none) (dc := 0) (D := []) (by repeat (first | (with_reducible exact HT.out) | (with_reducible apply t3q_seq) | (with_reducible apply T3q.plus) | (with_reducible apply T3q.alloc) | (with_reducible apply T3q.drew))) hw6 hg6 hx6); have hbl6 := hg6.below (B := w.heap.size + 1) (by simp <;> omega) (fun X hX => own_lo HT.out.ow X hX); have HB6 := Lib.hid (HBLW.out.trans (Below.trans (b := _) (by repeat (first | exact Below.refl _ _ | refine below_plus ?_ (by first | omega | (simp <;> omega)) _ | refine Below.alloc ?_ (by first | omega | (simp <;> omega)) _ | refine below_patch ?_ (by omega) _ | refine Below.drew ?_)) (hbl6.mono (by omega)))); have z6 := hg6.size; simp at z6; have r6 := cell_of HT6.out.blk; have f6 := free_of HT6.out.blk; have s6 := fun v => setCell_patch HT6.out.blk 0 v; have hB6 := HT6.out.B_lt; clear hw6 hg6 hx6 hbl6))
            refine bodyPost_ret (v := .tuple #[.slice A6 (C ++ [two l]).length c6, .int .i64 3, .int .i64 (((p : Int) + n + 7) / 8)]) (by simp [results, Try.results15, go_sem, ↓IntWalk.iteOmega]) rfl ?_
            rw [HR1.out]
            exact ⟨A6, c6, by simp [usedV], ((own_turn HT6.out.ow).plus _).lower (by omega), below_more (below_plus (below_patch HB6.out (Nat.le_refl _) _) (by simp; omega) _)⟩
          · have v5 : ((C.length : Int) + 1 == 3100) = false := by simp; omega
            have HR1 := Lib.hid (show rdc o l m b 0 0 bits f (ps'.take b) (-1) (p + n) (C ++ [two l]) D = R by rw [← HRD.out, HRC.out, if_neg (by omega)])
            have HCT := Lib.hid (show C.length + 1 < 3100 by omega)
            clear hct
            go_wp2_with (go_at_call 65; refine (l2Width_any _ _ _ _ _ _ _ _ _ HLM.out (by omega)).mono ?_; rintro e w' ⟨rfl, xc, rfl⟩; rw [HN.out])
            refine wp_region_pt 11 (fun w' => w'.heap[w.heap.size]? = some (.cells #[.int .i64 o, .int .i64 l, .int .i64 m, .slice pa' ps'.length pc', .int .i64 b, .int .i64 last'] 27 (0, 0))) (Plan.quiet 0 (Plan.quiet 1 (Plan.quiet 2 (Plan.quiet 3 (Plan.quiet 4 (Plan.quiet 5 (Plan.quiet 6 (Plan.one 7 (Plan.quiet 8 (Plan.quiet 9 (Plan.one 10 (Plan.one 11 Plan.done)))))))))))) (by kernel_rfl) (by kernel_rfl) (blk_drew (blk_plus HT.out.blk _)) ?_
            refine wpPt_val rfl rfl ?_
            apply Exists.intro
            refine ⟨fun w' hS => ?_, ?_⟩
            focus (have rS := cell_of hS; simp [go_sem, ↓IntWalk.iteOmega, rS, hw9, hsl] <;> first | done | exact rfl | (rw [IntWalk.i64_in _ (by omega)]; exact rfl) | trace_state)
            refine wpPt_val rfl rfl ?_
            apply Exists.intro
            refine ⟨fun w' hS => ?_, ?_⟩
            focus (have rS := cell_of hS; simp [go_sem, ↓IntWalk.iteOmega, rS, hw9, hsl] <;> first | done | exact rfl | (rw [IntWalk.i64_in _ (by omega)]; exact rfl) | trace_state)
            refine wpPt_val rfl rfl ?_
            apply Exists.intro
            refine ⟨fun w' hS => ?_, ?_⟩
            focus (have rS := cell_of hS; simp [go_sem, ↓IntWalk.iteOmega, rS, hw9, hsl] <;> first | done | exact rfl | (rw [IntWalk.i64_in _ (by omega)]; exact rfl) | trace_state)
            refine wpPt_val rfl rfl ?_
            apply Exists.intro
            refine ⟨fun w' hS => ?_, ?_⟩
            focus (have rS := cell_of hS; simp [go_sem, ↓IntWalk.iteOmega, rS, hw9, hsl] <;> first | done | exact rfl | (rw [IntWalk.i64_in _ (by omega)]; exact rfl) | trace_state)
            refine wpPt_val rfl rfl ?_
            apply Exists.intro
            refine ⟨fun w' hS => ?_, ?_⟩
            focus (have rS := cell_of hS; simp [go_sem, ↓IntWalk.iteOmega, rS, hw9, hsl] <;> first | done | exact rfl | (rw [IntWalk.i64_in _ (by omega)]; exact rfl) | trace_state)
            refine wpPt_val rfl rfl ?_
            apply Exists.intro
            refine ⟨fun w' hS => ?_, ?_⟩
            focus (have rS := cell_of hS; simp [go_sem, ↓IntWalk.iteOmega, rS, hw9, hsl] <;> first | done | exact rfl | (rw [IntWalk.i64_in _ (by omega)]; exact rfl) | trace_state)
            refine wpPt_val rfl rfl ?_
            apply Exists.intro
            refine ⟨fun w' hS => ?_, ?_⟩
            focus (have rS := cell_of hS; simp [go_sem, ↓IntWalk.iteOmega, rS, hw9, hsl] <;> first | done | exact rfl | (rw [IntWalk.i64_in _ (by omega)]; exact rfl) | trace_state)
            refine wpPt_one rfl rfl (fun K hK => ?_)
            go_simp
            refine (l2Width_any _ _ _ _ _ _ _ _ _ HLM.out (by omega)).mono ?_
            rintro e w' ⟨rfl, x8, rfl⟩
            rw [HN.out]
            refine hK _ _ (fun hkn => (by repeat (first | (with_reducible exact HT.out.blk) | (with_reducible apply blk_seq) | (with_reducible apply blk_draw) | (with_reducible apply blk_plus) | (with_reducible apply blk_alloc) | (with_reducible apply blk_drew) | (with_reducible refine blk_patch ?_ (by omega)) | exact HT.out.blk))) ?_
            clear hK K
            refine wpPt_val rfl rfl ?_
            apply Exists.intro
            refine ⟨fun w' hS => ?_, ?_⟩
            focus (have rS := cell_of hS; simp [go_sem, ↓IntWalk.iteOmega, rS, hw9, hsl] <;> first | done | exact rfl | (rw [IntWalk.i64_in _ (by omega)]; exact rfl) | trace_state)
            refine wpPt_val rfl rfl ?_
            apply Exists.intro
            refine ⟨fun w' hS => ?_, ?_⟩
            focus (have rS := cell_of hS; simp [go_sem, ↓IntWalk.iteOmega, rS, hw9, hsl] <;> first | done | exact rfl | (rw [IntWalk.i64_in _ (by omega)]; exact rfl) | trace_state)
            refine wpPt_one rfl rfl (fun K hK => ?_)
            go_simp
            clear hw9
            refine (l1Number_any o t _ ho (by have := HTS.out; omega) HTV.out).mono ?_
            rintro e w' ⟨rfl, x9, rfl⟩
            rw [HTC.out]
            refine hK _ _ (fun hkn => (by repeat (first | (with_reducible exact HT.out.blk) | (with_reducible apply blk_seq) | (with_reducible apply blk_draw) | (with_reducible apply blk_plus) | (with_reducible apply blk_alloc) | (with_reducible apply blk_drew) | (with_reducible refine blk_patch ?_ (by omega)) | exact HT.out.blk))) ?_
            clear hK K
            refine wpPt_one rfl rfl (fun K hK => ?_)
            go_simp
            refine hK _ _ (fun hkn => absurd hkn (by decide)) ?_
            clear hK K
            refine NoPanic.normal ?_
            go_wp2_with (first | (go_at_call 65; refine (l2Width_any _ _ _ _ _ _ _ _ _ HLM.out (by omega)).mono ?_; rintro e w' ⟨rfl, xc, rfl⟩; rw [HN.out]) | (go_at_call 67; refine (l1End_any _ _ _ l0 l10 _).mono ?_; rintro e w' ⟨rfl, xc, rfl⟩) | (go_at_call 68; refine (l1Clear_any _ _ _ l0 l10 _).mono ?_; rintro e w' ⟨rfl, xc, rfl⟩) | (go_at_call 71; refine (l2Step_clear o l m pa' pc' ps' b last' _ (by repeat (first | exact HT6.out.rp | apply rd_seq | apply Rd.plus | apply Rd.alloc | apply Rd.drew | apply Rd.drewN | refine rd_patch ?_ _ _ (by intro A hA; first | (cases hA; show _ ≠ _; omega) | (have := hal A hA; omega)))) hs (by omega) hlen').mono ?_; rintro e w' ⟨A8, c8, rfl, hown8, x8, rfl⟩; (try simp only [plus_plus] at hown8); have HO8 := Lib.hid (hown8.lower (lo' := w6.heap.size) (by simp <;> omega)); clear hown8) | (at_builtin; refine wpList_append_at encI _ _ _ _ i0 _ 8 rfl rfl Try.underlying30 hi iz0 iz1 iz2 rfl (by decide) C wa wc (w.heap.size + 1) (by repeat (first | (with_reducible exact HT.out.ow) | (with_reducible apply own_seq) | (with_reducible apply own_draw) | (with_reducible apply Own.plus) | (with_reducible apply Own.alloc) | (with_reducible apply Own.drew) | (with_reducible apply Own.drewN))) rfl [two l] _ 0 1 (new_cells encI (two l) _ _ (by first | omega | rfl | (simp <;> omega) | (simp only [List.length_cons, List.length_nil, plus_size, World.size_alloc]; omega))) rfl (by first | omega | rfl | (simp <;> omega) | (simp only [List.length_cons, List.length_nil, plus_size, World.size_alloc]; omega)) (by first | omega | rfl | (simp <;> omega) | (simp only [List.length_cons, List.length_nil, plus_size, World.size_alloc]; omega)) (by simp <;> omega) ?_; intro A6 c6 w6 hw6 hg6 hx6; have HT6 := Lib.hid (T3q.grewI (o := o) (l := l) (m := m) (ps := ps') (base := (b : Int)) (last := last') (pa := pa') (pc := pc') (W := C) (da := none) (dc := 0) (D := []) (by repeat (first | (with_reducible exact HT.out) | (with_reducible apply t3q_seq) | (with_reducible apply T3q.plus) | (with_reducible apply T3q.alloc) | (with_reducible apply T3q.drew))) hw6 hg6 hx6); have hbl6 := hg6.below (B := w.heap.size + 1) (by simp <;> omega) (fun X hX => own_lo HT.out.ow X hX); have HB6 := Lib.hid (HBLW.out.trans (Below.trans (b := _) (by repeat (first | exact Below.refl _ _ | refine below_plus ?_ (by first | omega | (simp <;> omega)) _ | refine Below.alloc ?_ (by first | omega | (simp <;> omega)) _ | refine below_patch ?_ (by omega) _ | refine Below.drew ?_)) (hbl6.mono (by omega)))); have z6 := hg6.size; simp at z6; have r6 := cell_of HT6.out.blk; have f6 := free_of HT6.out.blk; have s6 := fun v => setCell_patch HT6.out.blk 0 v; have hB6 := HT6.out.B_lt; clear hw6 hg6 hx6 hbl6))
            have HTN := Lib.hid (T3q.put (last' := -1) HT6.out HO8.out)
            rw [List.length_take] at HTN
            go_roundw
            case rel => exact ⟨A6, _, c6, p + n, D.length, rfl, by go_num, rfl, ps'.take b, -1, A8, c8, C ++ [two l], D, f, by simp, rfl, HTN.out, by simpa using HK.out.cleared, by have := HCT.out; simp; omega, hdl, by have := HBL.out; omega, by have := HBL.out; omega, HR1.out, below_plus (below_patch HB6.out (Nat.le_refl _) _) (by simp; omega) _⟩
            case measure => simp [intOf]; omega
        · have v4 : (c != two l) = true := by simp [hcl]
          cases hfo : folB l m ps'.length last' c
          · have HR1 := Lib.hid (show R = ⟨ps', last', C, D, 2, p + n⟩ by
              rw [← HRD.out, rdc_wrong HN2.out HNS.out HNC.out]
              cases hcb2 : canB l m ps'.length last' c
              · rfl
              · rw [folB_iff.2 (can_okc t1 hcb2 hcl he)] at hfo; cases hfo)
            go_wp2_with (go_at_call 65; refine (l2Width_any _ _ _ _ _ _ _ _ _ HLM.out (by omega)).mono ?_; rintro e w' ⟨rfl, xc, rfl⟩; rw [HN.out])
            refine wp_region_pt 11 (fun w' => w'.heap[w.heap.size]? = some (.cells #[.int .i64 o, .int .i64 l, .int .i64 m, .slice pa' ps'.length pc', .int .i64 b, .int .i64 last'] 27 (0, 0))) (Plan.quiet 0 (Plan.quiet 1 (Plan.quiet 2 (Plan.quiet 3 (Plan.quiet 4 (Plan.quiet 5 (Plan.quiet 6 (Plan.one 7 (Plan.quiet 8 (Plan.quiet 9 (Plan.one 10 (Plan.one 11 Plan.done)))))))))))) (by kernel_rfl) (by kernel_rfl) (blk_drew (blk_plus HT.out.blk _)) ?_
            refine wpPt_val rfl rfl ?_
            apply Exists.intro
            refine ⟨fun w' hS => ?_, ?_⟩
            focus (have rS := cell_of hS; simp [go_sem, ↓IntWalk.iteOmega, rS, hw9, hsl] <;> first | done | exact rfl | (rw [IntWalk.i64_in _ (by omega)]; exact rfl) | trace_state)
            refine wpPt_val rfl rfl ?_
            apply Exists.intro
            refine ⟨fun w' hS => ?_, ?_⟩
            focus (have rS := cell_of hS; simp [go_sem, ↓IntWalk.iteOmega, rS, hw9, hsl] <;> first | done | exact rfl | (rw [IntWalk.i64_in _ (by omega)]; exact rfl) | trace_state)
            refine wpPt_val rfl rfl ?_
            apply Exists.intro
            refine ⟨fun w' hS => ?_, ?_⟩
            focus (have rS := cell_of hS; simp [go_sem, ↓IntWalk.iteOmega, rS, hw9, hsl] <;> first | done | exact rfl | (rw [IntWalk.i64_in _ (by omega)]; exact rfl) | trace_state)
            refine wpPt_val rfl rfl ?_
            apply Exists.intro
            refine ⟨fun w' hS => ?_, ?_⟩
            focus (have rS := cell_of hS; simp [go_sem, ↓IntWalk.iteOmega, rS, hw9, hsl] <;> first | done | exact rfl | (rw [IntWalk.i64_in _ (by omega)]; exact rfl) | trace_state)
            refine wpPt_val rfl rfl ?_
            apply Exists.intro
            refine ⟨fun w' hS => ?_, ?_⟩
            focus (have rS := cell_of hS; simp [go_sem, ↓IntWalk.iteOmega, rS, hw9, hsl] <;> first | done | exact rfl | (rw [IntWalk.i64_in _ (by omega)]; exact rfl) | trace_state)
            refine wpPt_val rfl rfl ?_
            apply Exists.intro
            refine ⟨fun w' hS => ?_, ?_⟩
            focus (have rS := cell_of hS; simp [go_sem, ↓IntWalk.iteOmega, rS, hw9, hsl] <;> first | done | exact rfl | (rw [IntWalk.i64_in _ (by omega)]; exact rfl) | trace_state)
            refine wpPt_val rfl rfl ?_
            apply Exists.intro
            refine ⟨fun w' hS => ?_, ?_⟩
            focus (have rS := cell_of hS; simp [go_sem, ↓IntWalk.iteOmega, rS, hw9, hsl] <;> first | done | exact rfl | (rw [IntWalk.i64_in _ (by omega)]; exact rfl) | trace_state)
            refine wpPt_one rfl rfl (fun K hK => ?_)
            go_simp
            refine (l2Width_any _ _ _ _ _ _ _ _ _ HLM.out (by omega)).mono ?_
            rintro e w' ⟨rfl, x8, rfl⟩
            rw [HN.out]
            refine hK _ _ (fun hkn => (by repeat (first | (with_reducible exact HT.out.blk) | (with_reducible apply blk_seq) | (with_reducible apply blk_draw) | (with_reducible apply blk_plus) | (with_reducible apply blk_alloc) | (with_reducible apply blk_drew) | (with_reducible refine blk_patch ?_ (by omega)) | exact HT.out.blk))) ?_
            clear hK K
            refine wpPt_val rfl rfl ?_
            apply Exists.intro
            refine ⟨fun w' hS => ?_, ?_⟩
            focus (have rS := cell_of hS; simp [go_sem, ↓IntWalk.iteOmega, rS, hw9, hsl] <;> first | done | exact rfl | (rw [IntWalk.i64_in _ (by omega)]; exact rfl) | trace_state)
            refine wpPt_val rfl rfl ?_
            apply Exists.intro
            refine ⟨fun w' hS => ?_, ?_⟩
            focus (have rS := cell_of hS; simp [go_sem, ↓IntWalk.iteOmega, rS, hw9, hsl] <;> first | done | exact rfl | (rw [IntWalk.i64_in _ (by omega)]; exact rfl) | trace_state)
            refine wpPt_one rfl rfl (fun K hK => ?_)
            go_simp
            clear hw9
            refine (l1Number_any o t _ ho (by have := HTS.out; omega) HTV.out).mono ?_
            rintro e w' ⟨rfl, x9, rfl⟩
            rw [HTC.out]
            refine hK _ _ (fun hkn => (by repeat (first | (with_reducible exact HT.out.blk) | (with_reducible apply blk_seq) | (with_reducible apply blk_draw) | (with_reducible apply blk_plus) | (with_reducible apply blk_alloc) | (with_reducible apply blk_drew) | (with_reducible refine blk_patch ?_ (by omega)) | exact HT.out.blk))) ?_
            clear hK K
            refine wpPt_one rfl rfl (fun K hK => ?_)
            go_simp
            refine hK _ _ (fun hkn => absurd hkn (by decide)) ?_
            clear hK K
            refine NoPanic.normal ?_
            go_wp2_with (first | (go_at_call 65; refine (l2Width_any _ _ _ _ _ _ _ _ _ HLM.out (by omega)).mono ?_; rintro e w' ⟨rfl, xc, rfl⟩; rw [HN.out]) | (go_at_call 67; refine (l1End_any _ _ _ l0 l10 _).mono ?_; rintro e w' ⟨rfl, xc, rfl⟩) | (go_at_call 68; refine (l1Clear_any _ _ _ l0 l10 _).mono ?_; rintro e w' ⟨rfl, xc, rfl⟩) | (go_at_call 69; refine (l2Follows_any _ _ _ _ _ _ _ _ _ _ hs (by omega) hlast).mono ?_; rintro e w' ⟨rfl, xc, rfl⟩; rw [hfo]) | (go_at_call 70; refine (l2Any_any o l m pa' pc' ps' b last' c _ (by repeat (first | exact HT.out.rp | apply rd_seq | apply Rd.plus | apply Rd.alloc | apply Rd.drew | apply Rd.drewN | refine rd_patch ?_ _ _ (by intro A hA; first | (cases hA; show _ ≠ _; omega) | (have := hal A hA; omega)))) HK.out HOK.out).mono ?_; rintro e w' ⟨rfl, xc, rfl⟩; rw [HY2.out]) | (at_builtin; refine wpList_append_at encI _ _ _ _ i0 _ 8 rfl rfl Try.underlying30 hi iz0 iz1 iz2 rfl (by decide) C wa wc (w.heap.size + 1) (by repeat (first | (with_reducible exact HT.out.ow) | (with_reducible apply own_seq) | (with_reducible apply own_draw) | (with_reducible apply Own.plus) | (with_reducible apply Own.alloc) | (with_reducible apply Own.drew) | (with_reducible apply Own.drewN))) rfl [c] _ 0 1 (new_cells encI c _ _ (by first | omega | rfl | (simp <;> omega) | (simp only [List.length_cons, List.length_nil, plus_size, World.size_alloc]; omega))) rfl (by first | omega | rfl | (simp <;> omega) | (simp only [List.length_cons, List.length_nil, plus_size, World.size_alloc]; omega)) (by first | omega | rfl | (simp <;> omega) | (simp only [List.length_cons, List.length_nil, plus_size, World.size_alloc]; omega)) (by simp <;> omega) ?_; intro A6 c6 w6 hw6 hg6 hx6; have HT6 := Lib.hid (T3q.grewI (o := o) (l := l) (m := m) (ps := ps') (base := (b : Int)) (last := last') (pa := pa') (pc := pc') (W := C) (da := none) (dc := 0) (D := []) (by repeat (first | (with_reducible exact HT.out) | (with_reducible apply t3q_seq) | (with_reducible apply T3q.plus) | (with_reducible apply T3q.alloc) | (with_reducible apply T3q.drew))) hw6 hg6 hx6); have hbl6 := hg6.below (B := w.heap.size + 1) (by simp <;> omega) (fun X hX => own_lo HT.out.ow X hX); have HB6 := Lib.hid (HBLW.out.trans (Below.trans (b := _) (by repeat (first | exact Below.refl _ _ | refine below_plus ?_ (by first | omega | (simp <;> omega)) _ | refine Below.alloc ?_ (by first | omega | (simp <;> omega)) _ | refine below_patch ?_ (by omega) _ | refine Below.drew ?_)) (hbl6.mono (by omega)))); have z6 := hg6.size; simp at z6; have r6 := cell_of HT6.out.blk; have f6 := free_of HT6.out.blk; have s6 := fun v => setCell_patch HT6.out.blk 0 v; have hB6 := HT6.out.B_lt; clear hw6 hg6 hx6 hbl6))
            refine bodyPost_ret (v := .tuple #[.slice wa C.length wc, .int .i64 2, .int .i64 (((p : Int) + n + 7) / 8)]) (by simp [results, Try.results15, go_sem, ↓IntWalk.iteOmega]) rfl ?_
            rw [HR1.out]
            exact ⟨wa, wc, by simp [usedV], (HT.out.ow.plus _).lower (by omega), below_more (Below.trans (b := _) HBLW.out (by repeat (first | exact Below.refl _ _ | refine below_plus ?_ (by first | omega | (simp <;> omega)) _ | refine Below.alloc ?_ (by first | omega | (simp <;> omega)) _ | refine below_patch ?_ (by omega) _ | refine Below.drew ?_)))⟩
          · have HOK := Lib.hid (folB_iff.1 hfo)
            have hal := any_bd HK.out HOK.out
            obtain ⟨y2, hy2⟩ : ∃ y2, bstr (anyW l ps' last' c) = y2 := ⟨_, rfl⟩
            have hyl : y2.size = (anyW l ps' last' c).length := by rw [← hy2, bstr_size]
            have zl : y2.size ≤ 2003 := by rw [hyl]; exact hal
            have HY2 := Lib.hid hy2
            have HYL := Lib.hid hyl
            clear hy2 hyl
            by_cases hlg : 2000 < D.length + y2.size
            · have v6 : decide (2000 < (D.length : Int) + y2.size) = true := by simp; omega
              have HR1 := Lib.hid (show R = ⟨ps', last', C, D, 3, p + n⟩ by rw [← HRD.out, rdc_long HN2.out HNS.out HNC.out (okc_can t1 HOK.out) he hcl (by rw [← HYL.out]; omega)])
              go_wp2_with (go_at_call 65; refine (l2Width_any _ _ _ _ _ _ _ _ _ HLM.out (by omega)).mono ?_; rintro e w' ⟨rfl, xc, rfl⟩; rw [HN.out])
              refine wp_region_pt 11 (fun w' => w'.heap[w.heap.size]? = some (.cells #[.int .i64 o, .int .i64 l, .int .i64 m, .slice pa' ps'.length pc', .int .i64 b, .int .i64 last'] 27 (0, 0))) (Plan.quiet 0 (Plan.quiet 1 (Plan.quiet 2 (Plan.quiet 3 (Plan.quiet 4 (Plan.quiet 5 (Plan.quiet 6 (Plan.one 7 (Plan.quiet 8 (Plan.quiet 9 (Plan.one 10 (Plan.one 11 Plan.done)))))))))))) (by kernel_rfl) (by kernel_rfl) (blk_drew (blk_plus HT.out.blk _)) ?_
              refine wpPt_val rfl rfl ?_
              apply Exists.intro
              refine ⟨fun w' hS => ?_, ?_⟩
              focus (have rS := cell_of hS; simp [go_sem, ↓IntWalk.iteOmega, rS, hw9, hsl] <;> first | done | exact rfl | (rw [IntWalk.i64_in _ (by omega)]; exact rfl) | trace_state)
              refine wpPt_val rfl rfl ?_
              apply Exists.intro
              refine ⟨fun w' hS => ?_, ?_⟩
              focus (have rS := cell_of hS; simp [go_sem, ↓IntWalk.iteOmega, rS, hw9, hsl] <;> first | done | exact rfl | (rw [IntWalk.i64_in _ (by omega)]; exact rfl) | trace_state)
              refine wpPt_val rfl rfl ?_
              apply Exists.intro
              refine ⟨fun w' hS => ?_, ?_⟩
              focus (have rS := cell_of hS; simp [go_sem, ↓IntWalk.iteOmega, rS, hw9, hsl] <;> first | done | exact rfl | (rw [IntWalk.i64_in _ (by omega)]; exact rfl) | trace_state)
              refine wpPt_val rfl rfl ?_
              apply Exists.intro
              refine ⟨fun w' hS => ?_, ?_⟩
              focus (have rS := cell_of hS; simp [go_sem, ↓IntWalk.iteOmega, rS, hw9, hsl] <;> first | done | exact rfl | (rw [IntWalk.i64_in _ (by omega)]; exact rfl) | trace_state)
              refine wpPt_val rfl rfl ?_
              apply Exists.intro
              refine ⟨fun w' hS => ?_, ?_⟩
              focus (have rS := cell_of hS; simp [go_sem, ↓IntWalk.iteOmega, rS, hw9, hsl] <;> first | done | exact rfl | (rw [IntWalk.i64_in _ (by omega)]; exact rfl) | trace_state)
              refine wpPt_val rfl rfl ?_
              apply Exists.intro
              refine ⟨fun w' hS => ?_, ?_⟩
              focus (have rS := cell_of hS; simp [go_sem, ↓IntWalk.iteOmega, rS, hw9, hsl] <;> first | done | exact rfl | (rw [IntWalk.i64_in _ (by omega)]; exact rfl) | trace_state)
              refine wpPt_val rfl rfl ?_
              apply Exists.intro
              refine ⟨fun w' hS => ?_, ?_⟩
              focus (have rS := cell_of hS; simp [go_sem, ↓IntWalk.iteOmega, rS, hw9, hsl] <;> first | done | exact rfl | (rw [IntWalk.i64_in _ (by omega)]; exact rfl) | trace_state)
              refine wpPt_one rfl rfl (fun K hK => ?_)
              go_simp
              refine (l2Width_any _ _ _ _ _ _ _ _ _ HLM.out (by omega)).mono ?_
              rintro e w' ⟨rfl, x8, rfl⟩
              rw [HN.out]
              refine hK _ _ (fun hkn => (by repeat (first | (with_reducible exact HT.out.blk) | (with_reducible apply blk_seq) | (with_reducible apply blk_draw) | (with_reducible apply blk_plus) | (with_reducible apply blk_alloc) | (with_reducible apply blk_drew) | (with_reducible refine blk_patch ?_ (by omega)) | exact HT.out.blk))) ?_
              clear hK K
              refine wpPt_val rfl rfl ?_
              apply Exists.intro
              refine ⟨fun w' hS => ?_, ?_⟩
              focus (have rS := cell_of hS; simp [go_sem, ↓IntWalk.iteOmega, rS, hw9, hsl] <;> first | done | exact rfl | (rw [IntWalk.i64_in _ (by omega)]; exact rfl) | trace_state)
              refine wpPt_val rfl rfl ?_
              apply Exists.intro
              refine ⟨fun w' hS => ?_, ?_⟩
              focus (have rS := cell_of hS; simp [go_sem, ↓IntWalk.iteOmega, rS, hw9, hsl] <;> first | done | exact rfl | (rw [IntWalk.i64_in _ (by omega)]; exact rfl) | trace_state)
              refine wpPt_one rfl rfl (fun K hK => ?_)
              go_simp
              clear hw9
              refine (l1Number_any o t _ ho (by have := HTS.out; omega) HTV.out).mono ?_
              rintro e w' ⟨rfl, x9, rfl⟩
              rw [HTC.out]
              refine hK _ _ (fun hkn => (by repeat (first | (with_reducible exact HT.out.blk) | (with_reducible apply blk_seq) | (with_reducible apply blk_draw) | (with_reducible apply blk_plus) | (with_reducible apply blk_alloc) | (with_reducible apply blk_drew) | (with_reducible refine blk_patch ?_ (by omega)) | exact HT.out.blk))) ?_
              clear hK K
              refine wpPt_one rfl rfl (fun K hK => ?_)
              go_simp
              refine hK _ _ (fun hkn => absurd hkn (by decide)) ?_
              clear hK K
              refine NoPanic.normal ?_
              go_wp2_with (first | (go_at_call 65; refine (l2Width_any _ _ _ _ _ _ _ _ _ HLM.out (by omega)).mono ?_; rintro e w' ⟨rfl, xc, rfl⟩; rw [HN.out]) | (go_at_call 67; refine (l1End_any _ _ _ l0 l10 _).mono ?_; rintro e w' ⟨rfl, xc, rfl⟩) | (go_at_call 68; refine (l1Clear_any _ _ _ l0 l10 _).mono ?_; rintro e w' ⟨rfl, xc, rfl⟩) | (go_at_call 69; refine (l2Follows_any _ _ _ _ _ _ _ _ _ _ hs (by omega) hlast).mono ?_; rintro e w' ⟨rfl, xc, rfl⟩; rw [hfo]) | (go_at_call 70; refine (l2Any_any o l m pa' pc' ps' b last' c _ (by repeat (first | exact HT.out.rp | apply rd_seq | apply Rd.plus | apply Rd.alloc | apply Rd.drew | apply Rd.drewN | refine rd_patch ?_ _ _ (by intro A hA; first | (cases hA; show _ ≠ _; omega) | (have := hal A hA; omega)))) HK.out HOK.out).mono ?_; rintro e w' ⟨rfl, xc, rfl⟩; rw [HY2.out]) | (at_builtin; refine wpList_append_at encI _ _ _ _ i0 _ 8 rfl rfl Try.underlying30 hi iz0 iz1 iz2 rfl (by decide) C wa wc (w.heap.size + 1) (by repeat (first | (with_reducible exact HT.out.ow) | (with_reducible apply own_seq) | (with_reducible apply own_draw) | (with_reducible apply Own.plus) | (with_reducible apply Own.alloc) | (with_reducible apply Own.drew) | (with_reducible apply Own.drewN))) rfl [c] _ 0 1 (new_cells encI c _ _ (by first | omega | rfl | (simp <;> omega) | (simp only [List.length_cons, List.length_nil, plus_size, World.size_alloc]; omega))) rfl (by first | omega | rfl | (simp <;> omega) | (simp only [List.length_cons, List.length_nil, plus_size, World.size_alloc]; omega)) (by first | omega | rfl | (simp <;> omega) | (simp only [List.length_cons, List.length_nil, plus_size, World.size_alloc]; omega)) (by simp <;> omega) ?_; intro A6 c6 w6 hw6 hg6 hx6; have HT6 := Lib.hid (T3q.grewI (o := o) (l := l) (m := m) (ps := ps') (base := (b : Int)) (last := last') (pa := pa') (pc := pc') (W := C) (da := none) (dc := 0) (D := []) (by repeat (first | (with_reducible exact HT.out) | (with_reducible apply t3q_seq) | (with_reducible apply T3q.plus) | (with_reducible apply T3q.alloc) | (with_reducible apply T3q.drew))) hw6 hg6 hx6); have hbl6 := hg6.below (B := w.heap.size + 1) (by simp <;> omega) (fun X hX => own_lo HT.out.ow X hX); have HB6 := Lib.hid (HBLW.out.trans (Below.trans (b := _) (by repeat (first | exact Below.refl _ _ | refine below_plus ?_ (by first | omega | (simp <;> omega)) _ | refine Below.alloc ?_ (by first | omega | (simp <;> omega)) _ | refine below_patch ?_ (by omega) _ | refine Below.drew ?_)) (hbl6.mono (by omega)))); have z6 := hg6.size; simp at z6; have r6 := cell_of HT6.out.blk; have f6 := free_of HT6.out.blk; have s6 := fun v => setCell_patch HT6.out.blk 0 v; have hB6 := HT6.out.B_lt; clear hw6 hg6 hx6 hbl6))
              refine bodyPost_ret (v := .tuple #[.slice wa C.length wc, .int .i64 3, .int .i64 (((p : Int) + n + 7) / 8)]) (by simp [results, Try.results15, go_sem, ↓IntWalk.iteOmega]) rfl ?_
              rw [HR1.out]
              exact ⟨wa, wc, by simp [usedV], (HT.out.ow.plus _).lower (by omega), below_more (Below.trans (b := _) HBLW.out (by repeat (first | exact Below.refl _ _ | refine below_plus ?_ (by first | omega | (simp <;> omega)) _ | refine Below.alloc ?_ (by first | omega | (simp <;> omega)) _ | refine below_patch ?_ (by omega) _ | refine Below.drew ?_)))⟩
            · have v6 : decide (2000 < (D.length : Int) + y2.size) = false := by simp; omega
              have HRC := Lib.hid (rdc_word (o := o) (b := b) (sz := 0) (ct := 0) (f := f) (C := C) (D := D) HN2.out HNS.out HNC.out (okc_can t1 HOK.out) he hcl (by rw [← HYL.out]; omega))
              by_cases hct : C.length + 1 = 3100
              · have v5 : ((C.length : Int) + 1 == 3100) = true := by simp; omega
                have HR1 := Lib.hid (show R = ⟨aftP l m ps' last' c, c, C ++ [c], D ++ anyW l ps' last' c, 3, p + n⟩ by rw [← HRD.out, HRC.out, if_pos (by omega)])
                clear hct
                go_wp2_with (go_at_call 65; refine (l2Width_any _ _ _ _ _ _ _ _ _ HLM.out (by omega)).mono ?_; rintro e w' ⟨rfl, xc, rfl⟩; rw [HN.out])
                refine wp_region_pt 11 (fun w' => w'.heap[w.heap.size]? = some (.cells #[.int .i64 o, .int .i64 l, .int .i64 m, .slice pa' ps'.length pc', .int .i64 b, .int .i64 last'] 27 (0, 0))) (Plan.quiet 0 (Plan.quiet 1 (Plan.quiet 2 (Plan.quiet 3 (Plan.quiet 4 (Plan.quiet 5 (Plan.quiet 6 (Plan.one 7 (Plan.quiet 8 (Plan.quiet 9 (Plan.one 10 (Plan.one 11 Plan.done)))))))))))) (by kernel_rfl) (by kernel_rfl) (blk_drew (blk_plus HT.out.blk _)) ?_
                refine wpPt_val rfl rfl ?_
                apply Exists.intro
                refine ⟨fun w' hS => ?_, ?_⟩
                focus (have rS := cell_of hS; simp [go_sem, ↓IntWalk.iteOmega, rS, hw9, hsl] <;> first | done | exact rfl | (rw [IntWalk.i64_in _ (by omega)]; exact rfl) | trace_state)
                refine wpPt_val rfl rfl ?_
                apply Exists.intro
                refine ⟨fun w' hS => ?_, ?_⟩
                focus (have rS := cell_of hS; simp [go_sem, ↓IntWalk.iteOmega, rS, hw9, hsl] <;> first | done | exact rfl | (rw [IntWalk.i64_in _ (by omega)]; exact rfl) | trace_state)
                refine wpPt_val rfl rfl ?_
                apply Exists.intro
                refine ⟨fun w' hS => ?_, ?_⟩
                focus (have rS := cell_of hS; simp [go_sem, ↓IntWalk.iteOmega, rS, hw9, hsl] <;> first | done | exact rfl | (rw [IntWalk.i64_in _ (by omega)]; exact rfl) | trace_state)
                refine wpPt_val rfl rfl ?_
                apply Exists.intro
                refine ⟨fun w' hS => ?_, ?_⟩
                focus (have rS := cell_of hS; simp [go_sem, ↓IntWalk.iteOmega, rS, hw9, hsl] <;> first | done | exact rfl | (rw [IntWalk.i64_in _ (by omega)]; exact rfl) | trace_state)
                refine wpPt_val rfl rfl ?_
                apply Exists.intro
                refine ⟨fun w' hS => ?_, ?_⟩
                focus (have rS := cell_of hS; simp [go_sem, ↓IntWalk.iteOmega, rS, hw9, hsl] <;> first | done | exact rfl | (rw [IntWalk.i64_in _ (by omega)]; exact rfl) | trace_state)
                refine wpPt_val rfl rfl ?_
                apply Exists.intro
                refine ⟨fun w' hS => ?_, ?_⟩
                focus (have rS := cell_of hS; simp [go_sem, ↓IntWalk.iteOmega, rS, hw9, hsl] <;> first | done | exact rfl | (rw [IntWalk.i64_in _ (by omega)]; exact rfl) | trace_state)
                refine wpPt_val rfl rfl ?_
                apply Exists.intro
                refine ⟨fun w' hS => ?_, ?_⟩
                focus (have rS := cell_of hS; simp [go_sem, ↓IntWalk.iteOmega, rS, hw9, hsl] <;> first | done | exact rfl | (rw [IntWalk.i64_in _ (by omega)]; exact rfl) | trace_state)
                refine wpPt_one rfl rfl (fun K hK => ?_)
                go_simp
                refine (l2Width_any _ _ _ _ _ _ _ _ _ HLM.out (by omega)).mono ?_
                rintro e w' ⟨rfl, x8, rfl⟩
                rw [HN.out]
                refine hK _ _ (fun hkn => (by repeat (first | (with_reducible exact HT.out.blk) | (with_reducible apply blk_seq) | (with_reducible apply blk_draw) | (with_reducible apply blk_plus) | (with_reducible apply blk_alloc) | (with_reducible apply blk_drew) | (with_reducible refine blk_patch ?_ (by omega)) | exact HT.out.blk))) ?_
                clear hK K
                refine wpPt_val rfl rfl ?_
                apply Exists.intro
                refine ⟨fun w' hS => ?_, ?_⟩
                focus (have rS := cell_of hS; simp [go_sem, ↓IntWalk.iteOmega, rS, hw9, hsl] <;> first | done | exact rfl | (rw [IntWalk.i64_in _ (by omega)]; exact rfl) | trace_state)
                refine wpPt_val rfl rfl ?_
                apply Exists.intro
                refine ⟨fun w' hS => ?_, ?_⟩
                focus (have rS := cell_of hS; simp [go_sem, ↓IntWalk.iteOmega, rS, hw9, hsl] <;> first | done | exact rfl | (rw [IntWalk.i64_in _ (by omega)]; exact rfl) | trace_state)
                refine wpPt_one rfl rfl (fun K hK => ?_)
                go_simp
                clear hw9
                refine (l1Number_any o t _ ho (by have := HTS.out; omega) HTV.out).mono ?_
                rintro e w' ⟨rfl, x9, rfl⟩
                rw [HTC.out]
                refine hK _ _ (fun hkn => (by repeat (first | (with_reducible exact HT.out.blk) | (with_reducible apply blk_seq) | (with_reducible apply blk_draw) | (with_reducible apply blk_plus) | (with_reducible apply blk_alloc) | (with_reducible apply blk_drew) | (with_reducible refine blk_patch ?_ (by omega)) | exact HT.out.blk))) ?_
                clear hK K
                refine wpPt_one rfl rfl (fun K hK => ?_)
                go_simp
                refine hK _ _ (fun hkn => absurd hkn (by decide)) ?_
                clear hK K
                refine NoPanic.normal ?_
                go_wp2_with (first | (go_at_call 65; refine (l2Width_any _ _ _ _ _ _ _ _ _ HLM.out (by omega)).mono ?_; rintro e w' ⟨rfl, xc, rfl⟩; rw [HN.out]) | (go_at_call 67; refine (l1End_any _ _ _ l0 l10 _).mono ?_; rintro e w' ⟨rfl, xc, rfl⟩) | (go_at_call 68; refine (l1Clear_any _ _ _ l0 l10 _).mono ?_; rintro e w' ⟨rfl, xc, rfl⟩) | (go_at_call 69; refine (l2Follows_any _ _ _ _ _ _ _ _ _ _ hs (by omega) hlast).mono ?_; rintro e w' ⟨rfl, xc, rfl⟩; rw [hfo]) | (go_at_call 70; refine (l2Any_any o l m pa' pc' ps' b last' c _ (by repeat (first | exact HT.out.rp | apply rd_seq | apply Rd.plus | apply Rd.alloc | apply Rd.drew | apply Rd.drewN | refine rd_patch ?_ _ _ (by intro A hA; first | (cases hA; show _ ≠ _; omega) | (have := hal A hA; omega)))) HK.out HOK.out).mono ?_; rintro e w' ⟨rfl, xc, rfl⟩; rw [HY2.out]) | (go_at_call 71; refine (l2Step_code o l m pa' pc' ps' b last' c _ (by repeat (first | exact HT6.out.rp | apply rd_seq | apply Rd.plus | apply Rd.alloc | apply Rd.drew | apply Rd.drewN | refine rd_patch ?_ _ _ (by intro A hA; first | (cases hA; show _ ≠ _; omega) | (have := hal A hA; omega)))) HK.out HOK.out hcl).mono ?_; rintro e w' ⟨A8, c8, rfl, hown8, x8, rfl⟩; (try simp only [plus_plus] at hown8); have HO8 := Lib.hid (hown8.lower (lo' := w6.heap.size) (by simp <;> omega)); clear hown8) | (at_builtin; refine wpList_append_at encI _ _ _ _ i0 _ 8 rfl rfl Try.underlying30 hi iz0 iz1 iz2 rfl (by decide) C wa wc (w.heap.size + 1) (by repeat (first | (with_reducible exact HT.out.ow) | (with_reducible apply own_seq) | (with_reducible apply own_draw) | (with_reducible apply Own.plus) | (with_reducible apply Own.alloc) | (with_reducible apply Own.drew) | (with_reducible apply Own.drewN))) rfl [c] _ 0 1 (new_cells encI c _ _ (by first | omega | rfl | (simp <;> omega) | (simp only [List.length_cons, List.length_nil, plus_size, World.size_alloc]; omega))) rfl (by first | omega | rfl | (simp <;> omega) | (simp only [List.length_cons, List.length_nil, plus_size, World.size_alloc]; omega)) (by first | omega | rfl | (simp <;> omega) | (simp only [List.length_cons, List.length_nil, plus_size, World.size_alloc]; omega)) (by simp <;> omega) ?_; intro A6 c6 w6 hw6 hg6 hx6; have HT6 := Lib.hid (T3q.grewI (o := o) (l := l) (m := m) (ps := ps') (base := (b : Int)) (last := last') (pa := pa') (pc := pc') (W := C) (da := none) (dc := 0) (D := []) (by repeat (first | (with_reducible exact HT.out) | (with_reducible apply t3q_seq) | (with_reducible apply T3q.plus) | (with_reducible apply T3q.alloc) | (with_reducible apply T3q.drew))) hw6 hg6 hx6); have hbl6 := hg6.below (B := w.heap.size + 1) (by simp <;> omega) (fun X hX => own_lo HT.out.ow X hX); have HB6 := Lib.hid (HBLW.out.trans (Below.trans (b := _) (by repeat (first | exact Below.refl _ _ | refine below_plus ?_ (by first | omega | (simp <;> omega)) _ | refine Below.alloc ?_ (by first | omega | (simp <;> omega)) _ | refine below_patch ?_ (by omega) _ | refine Below.drew ?_)) (hbl6.mono (by omega)))); have z6 := hg6.size; simp at z6; have r6 := cell_of HT6.out.blk; have f6 := free_of HT6.out.blk; have s6 := fun v => setCell_patch HT6.out.blk 0 v; have hB6 := HT6.out.B_lt; clear hw6 hg6 hx6 hbl6))
                refine bodyPost_ret (v := .tuple #[.slice A6 (C ++ [c]).length c6, .int .i64 3, .int .i64 (((p : Int) + n + 7) / 8)]) (by simp [results, Try.results15, go_sem, ↓IntWalk.iteOmega]) rfl ?_
                rw [HR1.out]
                exact ⟨A6, c6, by simp [usedV], ((own_turn HT6.out.ow).plus _).lower (by omega), below_more (below_plus (below_patch HB6.out (Nat.le_refl _) _) (by simp; omega) _)⟩
              · have v5 : ((C.length : Int) + 1 == 3100) = false := by simp; omega
                have HR1 := Lib.hid (show rdc o l m b 0 0 bits f (aftP l m ps' last' c) c (p + n) (C ++ [c]) (D ++ anyW l ps' last' c) = R by rw [← HRD.out, HRC.out, if_neg (by omega)])
                have HCT := Lib.hid (show C.length + 1 < 3100 by omega)
                clear hct
                go_wp2_with (go_at_call 65; refine (l2Width_any _ _ _ _ _ _ _ _ _ HLM.out (by omega)).mono ?_; rintro e w' ⟨rfl, xc, rfl⟩; rw [HN.out])
                refine wp_region_pt 11 (fun w' => w'.heap[w.heap.size]? = some (.cells #[.int .i64 o, .int .i64 l, .int .i64 m, .slice pa' ps'.length pc', .int .i64 b, .int .i64 last'] 27 (0, 0))) (Plan.quiet 0 (Plan.quiet 1 (Plan.quiet 2 (Plan.quiet 3 (Plan.quiet 4 (Plan.quiet 5 (Plan.quiet 6 (Plan.one 7 (Plan.quiet 8 (Plan.quiet 9 (Plan.one 10 (Plan.one 11 Plan.done)))))))))))) (by kernel_rfl) (by kernel_rfl) (blk_drew (blk_plus HT.out.blk _)) ?_
                refine wpPt_val rfl rfl ?_
                apply Exists.intro
                refine ⟨fun w' hS => ?_, ?_⟩
                focus (have rS := cell_of hS; simp [go_sem, ↓IntWalk.iteOmega, rS, hw9, hsl] <;> first | done | exact rfl | (rw [IntWalk.i64_in _ (by omega)]; exact rfl) | trace_state)
                refine wpPt_val rfl rfl ?_
                apply Exists.intro
                refine ⟨fun w' hS => ?_, ?_⟩
                focus (have rS := cell_of hS; simp [go_sem, ↓IntWalk.iteOmega, rS, hw9, hsl] <;> first | done | exact rfl | (rw [IntWalk.i64_in _ (by omega)]; exact rfl) | trace_state)
                refine wpPt_val rfl rfl ?_
                apply Exists.intro
                refine ⟨fun w' hS => ?_, ?_⟩
                focus (have rS := cell_of hS; simp [go_sem, ↓IntWalk.iteOmega, rS, hw9, hsl] <;> first | done | exact rfl | (rw [IntWalk.i64_in _ (by omega)]; exact rfl) | trace_state)
                refine wpPt_val rfl rfl ?_
                apply Exists.intro
                refine ⟨fun w' hS => ?_, ?_⟩
                focus (have rS := cell_of hS; simp [go_sem, ↓IntWalk.iteOmega, rS, hw9, hsl] <;> first | done | exact rfl | (rw [IntWalk.i64_in _ (by omega)]; exact rfl) | trace_state)
                refine wpPt_val rfl rfl ?_
                apply Exists.intro
                refine ⟨fun w' hS => ?_, ?_⟩
                focus (have rS := cell_of hS; simp [go_sem, ↓IntWalk.iteOmega, rS, hw9, hsl] <;> first | done | exact rfl | (rw [IntWalk.i64_in _ (by omega)]; exact rfl) | trace_state)
                refine wpPt_val rfl rfl ?_
                apply Exists.intro
                refine ⟨fun w' hS => ?_, ?_⟩
                focus (have rS := cell_of hS; simp [go_sem, ↓IntWalk.iteOmega, rS, hw9, hsl] <;> first | done | exact rfl | (rw [IntWalk.i64_in _ (by omega)]; exact rfl) | trace_state)
                refine wpPt_val rfl rfl ?_
                apply Exists.intro
                refine ⟨fun w' hS => ?_, ?_⟩
                focus (have rS := cell_of hS; simp [go_sem, ↓IntWalk.iteOmega, rS, hw9, hsl] <;> first | done | exact rfl | (rw [IntWalk.i64_in _ (by omega)]; exact rfl) | trace_state)
                refine wpPt_one rfl rfl (fun K hK => ?_)
                go_simp
                refine (l2Width_any _ _ _ _ _ _ _ _ _ HLM.out (by omega)).mono ?_
                rintro e w' ⟨rfl, x8, rfl⟩
                rw [HN.out]
                refine hK _ _ (fun hkn => (by repeat (first | (with_reducible exact HT.out.blk) | (with_reducible apply blk_seq) | (with_reducible apply blk_draw) | (with_reducible apply blk_plus) | (with_reducible apply blk_alloc) | (with_reducible apply blk_drew) | (with_reducible refine blk_patch ?_ (by omega)) | exact HT.out.blk))) ?_
                clear hK K
                refine wpPt_val rfl rfl ?_
                apply Exists.intro
                refine ⟨fun w' hS => ?_, ?_⟩
                focus (have rS := cell_of hS; simp [go_sem, ↓IntWalk.iteOmega, rS, hw9, hsl] <;> first | done | exact rfl | (rw [IntWalk.i64_in _ (by omega)]; exact rfl) | trace_state)
                refine wpPt_val rfl rfl ?_
                apply Exists.intro
                refine ⟨fun w' hS => ?_, ?_⟩
                focus (have rS := cell_of hS; simp [go_sem, ↓IntWalk.iteOmega, rS, hw9, hsl] <;> first | done | exact rfl | (rw [IntWalk.i64_in _ (by omega)]; exact rfl) | trace_state)
                refine wpPt_one rfl rfl (fun K hK => ?_)
                go_simp
                clear hw9
                refine (l1Number_any o t _ ho (by have := HTS.out; omega) HTV.out).mono ?_
                rintro e w' ⟨rfl, x9, rfl⟩
                rw [HTC.out]
                refine hK _ _ (fun hkn => (by repeat (first | (with_reducible exact HT.out.blk) | (with_reducible apply blk_seq) | (with_reducible apply blk_draw) | (with_reducible apply blk_plus) | (with_reducible apply blk_alloc) | (with_reducible apply blk_drew) | (with_reducible refine blk_patch ?_ (by omega)) | exact HT.out.blk))) ?_
                clear hK K
                refine wpPt_one rfl rfl (fun K hK => ?_)
                go_simp
                refine hK _ _ (fun hkn => absurd hkn (by decide)) ?_
                clear hK K
                refine NoPanic.normal ?_
                go_wp2_with (first | (go_at_call 65; refine (l2Width_any _ _ _ _ _ _ _ _ _ HLM.out (by omega)).mono ?_; rintro e w' ⟨rfl, xc, rfl⟩; rw [HN.out]) | (go_at_call 67; refine (l1End_any _ _ _ l0 l10 _).mono ?_; rintro e w' ⟨rfl, xc, rfl⟩) | (go_at_call 68; refine (l1Clear_any _ _ _ l0 l10 _).mono ?_; rintro e w' ⟨rfl, xc, rfl⟩) | (go_at_call 69; refine (l2Follows_any _ _ _ _ _ _ _ _ _ _ hs (by omega) hlast).mono ?_; rintro e w' ⟨rfl, xc, rfl⟩; rw [hfo]) | (go_at_call 70; refine (l2Any_any o l m pa' pc' ps' b last' c _ (by repeat (first | exact HT.out.rp | apply rd_seq | apply Rd.plus | apply Rd.alloc | apply Rd.drew | apply Rd.drewN | refine rd_patch ?_ _ _ (by intro A hA; first | (cases hA; show _ ≠ _; omega) | (have := hal A hA; omega)))) HK.out HOK.out).mono ?_; rintro e w' ⟨rfl, xc, rfl⟩; rw [HY2.out]) | (go_at_call 71; refine (l2Step_code o l m pa' pc' ps' b last' c _ (by repeat (first | exact HT6.out.rp | apply rd_seq | apply Rd.plus | apply Rd.alloc | apply Rd.drew | apply Rd.drewN | refine rd_patch ?_ _ _ (by intro A hA; first | (cases hA; show _ ≠ _; omega) | (have := hal A hA; omega)))) HK.out HOK.out hcl).mono ?_; rintro e w' ⟨A8, c8, rfl, hown8, x8, rfl⟩; (try simp only [plus_plus] at hown8); have HO8 := Lib.hid (hown8.lower (lo' := w6.heap.size) (by simp <;> omega)); clear hown8) | (at_builtin; refine wpList_append_at encI _ _ _ _ i0 _ 8 rfl rfl Try.underlying30 hi iz0 iz1 iz2 rfl (by decide) C wa wc (w.heap.size + 1) (by repeat (first | (with_reducible exact HT.out.ow) | (with_reducible apply own_seq) | (with_reducible apply own_draw) | (with_reducible apply Own.plus) | (with_reducible apply Own.alloc) | (with_reducible apply Own.drew) | (with_reducible apply Own.drewN))) rfl [c] _ 0 1 (new_cells encI c _ _ (by first | omega | rfl | (simp <;> omega) | (simp only [List.length_cons, List.length_nil, plus_size, World.size_alloc]; omega))) rfl (by first | omega | rfl | (simp <;> omega) | (simp only [List.length_cons, List.length_nil, plus_size, World.size_alloc]; omega)) (by first | omega | rfl | (simp <;> omega) | (simp only [List.length_cons, List.length_nil, plus_size, World.size_alloc]; omega)) (by simp <;> omega) ?_; intro A6 c6 w6 hw6 hg6 hx6; have HT6 := Lib.hid (T3q.grewI (o := o) (l := l) (m := m) (ps := ps') (base := (b : Int)) (last := last') (pa := pa') (pc := pc') (W := C) (da := none) (dc := 0) (D := []) (by repeat (first | (with_reducible exact HT.out) | (with_reducible apply t3q_seq) | (with_reducible apply T3q.plus) | (with_reducible apply T3q.alloc) | (with_reducible apply T3q.drew))) hw6 hg6 hx6); have hbl6 := hg6.below (B := w.heap.size + 1) (by simp <;> omega) (fun X hX => own_lo HT.out.ow X hX); have HB6 := Lib.hid (HBLW.out.trans (Below.trans (b := _) (by repeat (first | exact Below.refl _ _ | refine below_plus ?_ (by first | omega | (simp <;> omega)) _ | refine Below.alloc ?_ (by first | omega | (simp <;> omega)) _ | refine below_patch ?_ (by omega) _ | refine Below.drew ?_)) (hbl6.mono (by omega)))); have z6 := hg6.size; simp at z6; have r6 := cell_of HT6.out.blk; have f6 := free_of HT6.out.blk; have s6 := fun v => setCell_patch HT6.out.blk 0 v; have hB6 := HT6.out.B_lt; clear hw6 hg6 hx6 hbl6))
                have HTN := Lib.hid (T3q.put (last' := c) HT6.out HO8.out)
                go_roundw
                case rel => exact ⟨A6, _, c6, p + n, D.length + y2.size, rfl, by go_num, by go_num, aftP l m ps' last' c, c, A8, c8, C ++ [c], D ++ anyW l ps' last' c, f, by simp, by rw [List.length_append, ← HYL.out], HTN.out, HK.out.after HOK.out, by have := HCT.out; simp; omega, by rw [List.length_append, ← HYL.out]; omega, by have := HBL.out; omega, by have := HBL.out; omega, HR1.out, below_plus (below_patch HB6.out (Nat.le_refl _) _) (by simp; omega) _⟩
                case measure => simp [intOf]; omega
    · have HR1 := Lib.hid (show R = ⟨ps', last', C, D, 1, p⟩ by rw [← HRD.out]; exact rdc_short HN2.out (by have := HBL.out; omega))
      have v2 : decide ((p : Int) + n ≤ (z.size : Int)) = false := by simp; omega
      go_wp2_with (go_at_call 65; refine (l2Width_any _ _ _ _ _ _ _ _ _ HLM.out (by omega)).mono ?_; rintro e w' ⟨rfl, xc, rfl⟩; rw [HN.out])
      refine bodyPost_ret (v := .tuple #[.slice wa C.length wc, .int .i64 1, .int .i64 (s.size)]) (by simp [results, Try.results15, go_sem, ↓IntWalk.iteOmega]) rfl ?_
      rw [HR1.out]
      exact ⟨wa, wc, by simp [usedV], (HT.out.ow.plus _).lower (by omega), below_more (Below.trans (b := _) HBLW.out (by repeat (first | exact Below.refl _ _ | refine below_plus ?_ (by first | omega | (simp <;> omega)) _ | refine Below.alloc ?_ (by first | omega | (simp <;> omega)) _ | refine below_patch ?_ (by omega) _ | refine Below.drew ?_)))⟩

end Go.Proofs.Ytibfkfinghcpaaa
