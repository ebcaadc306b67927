/- The walk of impl.readCodes: what has been read from bits. -/
import Derived.Test.YtmddcbebaijjkaaGreatDoorGb1
namespace Go.Proofs.YtmddcbebaijjkaaGreatDoor
open Go.RowKit
set_option linter.unusedVariables false
set_option linter.unusedSimpArgs false

/-- the state of the loop -/
def RSt (o l m : Int) (b sz ct : Nat) (bits : List UInt8) (R : Rg) (w0 : World) (a : Option Addr) (n0 cap : Nat) (last0 : Int) (B : Nat) (wr : World) : Prop :=
  ∃ (ps : List Pr) (last : Int) (pa : Option Addr) (pc : Nat) (ca : Option Addr) (cc : Nat) (C : List Int) (da : Option Addr) (dc : Nat) (D : List UInt8) (p f : Nat), T4r wr B (w0.heap.size + 2) o l m ps (b : Int) last pa pc ca cc C da dc D 1 (p : Int) ∧ KV o l m ps (b : Int) last ∧
    wr.heap[w0.heap.size]? = some (.cells #[.int .i64 o, .int .i64 l, .int .i64 m, .slice a n0 cap, .int .i64 b, .int .i64 last0] 26 (0, 0)) ∧
    wr.heap[w0.heap.size + 1]? = some (.cells #[.int .i64 0, .int .i64 0, .int .i64 0, .slice none 0 0, .int .i64 0, .int .i64 0, .slice none 0 0, .slice none 0 0, .int .i64 0, .int .i64 0] 71 (0, 0)) ∧
    ct + C.length < 3100 ∧ sz + D.length ≤ 2000 ∧ p ≤ bits.length ∧ bits.length - p < f ∧ rdc o l m b sz ct bits f ps last p C D = R ∧ Below w0.heap.size w0 wr

theorem ret_t4 {w w' : World} {B : Nat} {o l m : Int} {ps : List Pr} {base last : Int} {pa : Option Addr} {pc : Nat} {ca : Option Addr} {cc : Nat} {C : List Int} {da : Option Addr} {dc : Nat} {D : List UInt8} {e p : Int} {q : Nat} (h : T4r w' B (w.heap.size + 2) o l m ps base last pa pc ca cc C da dc D e p) (hb : Below w.heap.size w w') (hq : p = (q : Int)) :
    RetRg w o l m base ⟨ps, last, C, D, e, q⟩ (.returned (.agg #[.int .i64 o, .int .i64 l, .int .i64 m, .slice pa ps.length pc, .int .i64 base, .int .i64 last, .slice ca C.length cc, .slice da D.length dc, .int .i64 e, .int .i64 p])) w' :=
  ⟨pa, pc, ca, cc, da, dc, by rw [hq], h.op.lower (by omega), h.oc.lower (by omega), h.od.lower (by omega), below_more hb⟩

/-- another block below has turned -/
theorem T4r.res {w : World} {B lo n : Nat} {o l m : Int} {ps : List Pr} {base last : Int} {pa : Option Addr} {pc : Nat} {ca : Option Addr} {cc : Nat} {C : List Int} {da : Option Addr} {dc : Nat} {D : List UInt8} {e p : Int}
    (h : T4r w B lo o l m ps base last pa pc ca cc C da dc D e p) (hn : n < lo) (hB : n ≠ B) (Z : Obj) : T4r (patch w n Z) B lo o l m ps base last pa pc ca cc C da dc D e p :=
  ⟨by rw [patch_other _ _ _ (fun e => hB e.symm)]; exact h.blk, own_patch h.op fun X hX e => by have := own_lo h.op X hX; omega, own_patch h.oc fun X hX e => by have := own_lo h.oc X hX; omega, own_patch h.od fun X hX e => by have := own_lo h.od X hX; omega, h.cp, h.cd, h.dp, h.bp, h.bc, h.bd⟩

set_option maxRecDepth 100000 in
set_option maxHeartbeats 20000000 in
theorem readCodes_any (o l m : Int) (a : Option Addr) (cap : Nat) (ps : List Pr) (b : Nat) (last : Int) (s : ByteArray) (sz ct : Nat) (w : World) (hr : RdP w a cap ps) (hk : kvb o l m ps (b : Int) last = true) (hss : s.size ≤ 100000) (hsz : sz ≤ 2000) (hct : ct < 3100) (R : Rg)
    (hR : rdc o l m b sz ct s.data.toList (s.size + 1) ps last 0 [] [] = R) :
    Calls Tryz.prog 46 #[.agg #[.int .i64 o, .int .i64 l, .int .i64 m, .slice a ps.length cap, .int .i64 b, .int .i64 last], .string s, .int .i64 sz, .int .i64 ct] w (RetRg w o l m b R) := by
  have hkv := kvb_iff.1 hk
  have hs := hkv.s
  have hlen := kv_len hk
  obtain ⟨ho, l1, l2, m1, m2⟩ := sv_iff.1 hs
  have l0 : 0 ≤ l := by omega
  have l10 : l ≤ 10 := by omega
  have HV := Lib.hid hkv
  have HRP := Lib.hid hr
  obtain ⟨i0, hi, iz0, iz1, iz2⟩ := info_parts infoInt
  obtain ⟨j0, hj, jz0, jz1, jz2⟩ := info_parts infoByte
  obtain ⟨bits, hbits⟩ : ∃ x, s.data.toList = x := ⟨_, rfl⟩
  have hbl : bits.length = s.size := by rw [← hbits, bytes_len]
  rw [hbits] at hR
  have HZB := Lib.hid hbits
  have HRR := Lib.hid hR
  have HBL := Lib.hid hbl
  clear hkv hr hbits hR hbl
  go_enter Tryz.func46, Tryz.ntmps46
  go_wp2_with (go_at_call 44; refine (copyKnown_any _ _ _ _ _ ps _ _ _ (by repeat (first | exact HRP.out | apply rd_seq | apply Rd.plus | apply Rd.alloc | apply Rd.drew | apply Rd.drewN | refine rd_patch ?_ _ _ (by intro A hA; first | (cases hA; show _ ≠ _; omega) | (have := hal A hA; omega)))) (by omega)).mono ?_; rintro e w' ⟨pa, pc, rfl, hown, x1, rfl⟩; (try simp only [plus_plus] at hown); have HO := Lib.hid hown; clear hown)
  go_wp2_with fail
  refine wp_region_pt 7 (fun w' => ∃ y, w' = plus _ y) (Plan.quiet 0 (Plan.quiet 1 (Plan.quiet 3 (Plan.quiet 4 (Plan.one 2 (Plan.one 5 (Plan.quiet 6 (Plan.one 7 Plan.done)))))))) (by kernel_rfl) (by kernel_rfl) (⟨_, drew_is_plus _⟩) ?_
  refine wpPt_val rfl rfl ?_
  apply Exists.intro
  refine ⟨fun w' hS => ?_, ?_⟩
  focus (obtain ⟨y3, rfl⟩ := hS; simp [go_sem, ↓IntWalk.iteOmega] <;> first | done | exact rfl | (rw [IntWalk.i64_in _ (by omega)]; exact rfl) | trace_state)
  refine wpPt_val rfl rfl ?_
  apply Exists.intro
  refine ⟨fun w' hS => ?_, ?_⟩
  focus (obtain ⟨y3, rfl⟩ := hS; simp [go_sem, ↓IntWalk.iteOmega] <;> first | done | exact rfl | (rw [IntWalk.i64_in _ (by omega)]; exact rfl) | trace_state)
  refine wpPt_val rfl rfl ?_
  apply Exists.intro
  refine ⟨fun w' hS => ?_, ?_⟩
  focus (obtain ⟨y3, rfl⟩ := hS; simp [go_sem, ↓IntWalk.iteOmega] <;> first | done | exact rfl | (rw [IntWalk.i64_in _ (by omega)]; exact rfl) | trace_state)
  refine wpPt_val rfl rfl ?_
  apply Exists.intro
  refine ⟨fun w' hS => ?_, ?_⟩
  focus (obtain ⟨y3, rfl⟩ := hS; simp [go_sem, ↓IntWalk.iteOmega] <;> first | done | exact rfl | (rw [IntWalk.i64_in _ (by omega)]; exact rfl) | trace_state)
  refine wpPt_one rfl rfl (fun K hK => ?_)
  go_simp
  refine (ClearCode_yes _ _ _ hs _).mono ?_
  rintro e w' ⟨rfl, x2, rfl⟩
  refine hK _ _ (fun hkn => (by repeat (first | exact More.refl _ | (with_reducible apply more_seq) | (with_reducible apply more_draw) | apply More.plus | apply More.alloc | apply More.drew))) ?_
  clear hK K
  refine wpPt_one rfl rfl (fun K hK => ?_)
  go_simp
  refine (EndCode_yes _ _ _ hs _).mono ?_
  rintro e w' ⟨rfl, x3, rfl⟩
  refine hK _ _ (fun hkn => (by repeat (first | exact More.refl _ | (with_reducible apply more_seq) | (with_reducible apply more_draw) | apply More.plus | apply More.alloc | apply More.drew))) ?_
  clear hK K
  refine wpPt_val rfl rfl ?_
  apply Exists.intro
  refine ⟨fun w' hS => ?_, ?_⟩
  focus (obtain ⟨y3, rfl⟩ := hS; simp [go_sem, ↓IntWalk.iteOmega] <;> first | done | exact rfl | (rw [IntWalk.i64_in _ (by omega)]; exact rfl) | trace_state)
  refine wpPt_one rfl rfl (fun K hK => ?_)
  go_simp
  refine hK _ _ (fun hkn => absurd hkn (by decide)) ?_
  clear hK K
  refine NoPanic.normal ?_
  go_wp2_with fail
  generalize hBe : w.heap.size + 1 + 1 + x1.n = B
  go_loopw [12] (fun q wr => RSt o l m b sz ct bits R w a ps.length cap last B wr) (fun _ wr => s.size + 1 - (posAt wr B).toNat)
  case atStart =>
    refine ⟨ps, last, pa, pc, none, 0, [], none, 0, [], 0, s.size + 1, ⟨?_, ?_, .inl ⟨rfl, rfl, rfl⟩, .inl ⟨rfl, rfl, rfl⟩, fun X hX => by simp at hX, fun X hX => by simp at hX, fun X hX => by simp at hX, ?_, fun X hX => by simp at hX, fun X hX => by simp at hX⟩, HV.out, ?_, ?_, by simpa using hct, by simpa using hsz, by omega, by rw [HBL.out]; omega, HRR.out, ?_⟩
    · exact blk_plus (push_new _ _ _ (by simp; omega)) _
    · exact ((HO.out.alloc _).plus _).lower (by simp)
    · intro X hX e
      have := (own_lt HO.out X hX).2
      simp at this
      omega
    · exact blk_plus (blk_alloc (blk_plus (blk_alloc (push_new _ _ _ rfl) _) _) _) _
    · exact blk_plus (blk_alloc (blk_plus (push_new _ _ _ (by simp)) _) _) _
    · exact (by repeat (first | exact Below.refl _ _ | refine below_plus ?_ (by first | omega | (simp <;> omega)) _ | refine Below.alloc ?_ (by first | omega | (simp <;> omega)) _ | refine below_patch ?_ (by omega) _ | refine Below.drew ?_))
  case round =>
    obtain ⟨ps', last', pa', pc', ca, cc, C, da, dc, D, p, f, htq, hkv, hkb, hres, hcl, hdl, hpl, hf, hrd, hbl⟩ := hrel
    have HT := Lib.hid htq
    have HK := Lib.hid hkv
    have HKB := Lib.hid hkb
    have HRS := Lib.hid hres
    have HRD := Lib.hid hrd
    have HBLW := Lib.hid hbl
    have HPO := Lib.hid htq.pos
    have hlim := hkv.lim
    obtain ⟨_, _, _, _, t1, t2, t3, t4⟩ := hlim.bds
    have hlen' := kv_len (kvb_iff.2 hkv)
    have hb1' := hkv.b1
    have hlast := hlim.last
    have hbm : min b ps'.length = b := Nat.min_eq_left (by omega)
    have HLM := Lib.hid hlim
    obtain ⟨wd1, wd2⟩ := wd_ten hlim
    obtain ⟨n, hn⟩ : ∃ n : Nat, wd l m ps'.length last' = n := ⟨(wd l m ps'.length last').toNat, by omega⟩
    have HN := Lib.hid hn
    have hn2 : (wd l m ps'.length last').toNat = n := by omega
    have HN2 := Lib.hid hn2
    rw [hn] at wd1 wd2
    have hB := htq.B_lt
    have hNB : w.heap.size + 2 ≤ B := by omega
    have hNB1 : w.heap.size + 1 < wr.heap.size := by omega
    have rk := cell_of htq.blk
    have fk := free_of htq.blk
    have sk := fun i v => setCell_patch htq.blk i v
    have rb := cell_of hkb
    have fr := free_of hres
    have rr := cell_of hres
    have ur := fun i v => setCell_patch hres i v
    have hpz : p ≤ s.size := by have := HBL.out; omega
    have hpc := htq.op.rd.1
    have hpc2 := htq.op.rd.2.1
    clear htq hkv hrd hbl hlim hn hn2 hkb hres hBe
    rcases dec ((s.size : Int) - p < n) with ⟨hlt, v1⟩ | ⟨hlt, v1⟩
    · have HR1 := Lib.hid (show R = ⟨ps', last', C, D, 1, p⟩ by rw [← HRD.out]; exact rdc_short HN2.out (by have := HBL.out; omega))
      go_wp2_with (go_at_call 58; refine (width_any _ _ _ _ _ _ _ _ _ HLM.out (by omega)).mono ?_; rintro e w' ⟨rfl, xc, rfl⟩; rw [HN.out])
      refine bodyPost_ret (v := .agg #[.int .i64 o, .int .i64 l, .int .i64 m, .slice pa' (ps').length pc', .int .i64 b, .int .i64 (last'), .slice ca (C).length cc, .slice da (D).length dc, .int .i64 1, .int .i64 (p)]) (by simp [results, Tryz.results46, go_sem, ↓IntWalk.iteOmega, hNB1, hbm]) rfl ?_
      rw [HR1.out]
      exact ret_t4 (((HT.out.res (n := w.heap.size + 1) (by omega) (by omega) _)).plus _) (below_plus (below_patch HBLW.out (by omega) _) (by simp; omega) _) rfl
    · obtain ⟨t, ht⟩ : ∃ t, s.extract p (p + n) = t := ⟨_, rfl⟩
      have htb : t.data.toList = (bits.drop p).take n := by rw [← ht, ← HZB.out]; simp
      have hts : t.size = n := by rw [← bytes_len, htb, List.length_take, List.length_drop]; have := HBL.out; omega
      have HTS := Lib.hid hts
      obtain ⟨c, hc⟩ : ∃ c, numL o t.data.toList = c := ⟨_, rfl⟩
      have HTC := Lib.hid hc
      have HNC := Lib.hid (show numL o ((bits.drop p).take n) = c by rw [← htb]; exact hc)
      have hcb := numL_bd o t.data.toList (by rw [bytes_len]; omega)
      rw [hc] at hcb
      have HX := Lib.hid ht
      have hsl := fun (W : World) => run_slice_string (P := Tryz.prog) W 9 s .i64 .i64 (p : Int) ((p : Int) + n) Tryz.underlying9 (by omega) (by omega) (by omega)
      simp only [show ((p : Int)).toNat = p by omega, show ((p : Int) + n).toNat = p + n by omega, HX.out] at hsl
      have hw9 : IntKind.i64.wrap ((p : Int) + n) = (p : Int) + n := IntWalk.i64_in _ (by omega)
      have HNS := Lib.hid (show ¬ bits.length - p < n by have := HBL.out; omega)
      obtain ⟨f, rfl⟩ : ∃ f', f = f' + 1 := ⟨f - 1, by omega⟩
      have HT1 := Lib.hid (HT.out.turn 1 ((p : Int) + n))
      have HB1 := Lib.hid (below_patch (b := B) HBLW.out (by omega) (.cells #[.int .i64 o, .int .i64 l, .int .i64 m, .slice pa' ps'.length pc', .int .i64 b, .int .i64 last', .slice ca C.length cc, .slice da D.length dc, .int .i64 1, .int .i64 ((p : Int) + n)] 71))
      clear ht htb hts hc
      cases hcan : canB l m ps'.length last' c
      · have HR1 := Lib.hid (show R = ⟨ps', last', C, D, 2, p + n⟩ by rw [← HRD.out, rdc_wrong HN2.out HNS.out HNC.out hcan])
        go_wp2_with (go_at_call 58; refine (width_any _ _ _ _ _ _ _ _ _ HLM.out (by omega)).mono ?_; rintro e w' ⟨rfl, xc, rfl⟩; rw [HN.out])
        refine wp_region_pt 12 (fun w' => w'.heap[B]? = some (.cells #[.int .i64 o, .int .i64 l, .int .i64 m, .slice pa' ps'.length pc', .int .i64 b, .int .i64 last', .slice ca C.length cc, .slice da D.length dc, .int .i64 1, .int .i64 p] 71 (0, 0)) ∧ w'.heap[w.heap.size]? = some (.cells #[.int .i64 o, .int .i64 l, .int .i64 m, .slice a ps.length cap, .int .i64 b, .int .i64 last] 26 (0, 0))) (Plan.quiet 0 (Plan.quiet 1 (Plan.quiet 2 (Plan.quiet 3 (Plan.quiet 4 (Plan.quiet 5 (Plan.quiet 6 (Plan.quiet 7 (Plan.quiet 8 (Plan.quiet 9 (Plan.quiet 10 (Plan.one 11 (Plan.one 12 Plan.done))))))))))))) (by kernel_rfl) (by kernel_rfl) (⟨blk_drew (blk_plus HT.out.blk _), blk_drew (blk_plus HKB.out _)⟩) ?_
        refine wpPt_val rfl rfl ?_
        apply Exists.intro
        refine ⟨fun w' hS => ?_, ?_⟩
        focus (have rS := cell_of hS.1; have rT := cell_of hS.2; simp [go_sem, ↓IntWalk.iteOmega, rS, rT, hw9, hsl] <;> first | done | exact rfl | (rw [IntWalk.i64_in _ (by omega)]; exact rfl) | trace_state)
        refine wpPt_val rfl rfl ?_
        apply Exists.intro
        refine ⟨fun w' hS => ?_, ?_⟩
        focus (have rS := cell_of hS.1; have rT := cell_of hS.2; simp [go_sem, ↓IntWalk.iteOmega, rS, rT, hw9, hsl] <;> first | done | exact rfl | (rw [IntWalk.i64_in _ (by omega)]; exact rfl) | trace_state)
        refine wpPt_val rfl rfl ?_
        apply Exists.intro
        refine ⟨fun w' hS => ?_, ?_⟩
        focus (have rS := cell_of hS.1; have rT := cell_of hS.2; simp [go_sem, ↓IntWalk.iteOmega, rS, rT, hw9, hsl] <;> first | done | exact rfl | (rw [IntWalk.i64_in _ (by omega)]; exact rfl) | trace_state)
        refine wpPt_val rfl rfl ?_
        apply Exists.intro
        refine ⟨fun w' hS => ?_, ?_⟩
        focus (have rS := cell_of hS.1; have rT := cell_of hS.2; simp [go_sem, ↓IntWalk.iteOmega, rS, rT, hw9, hsl] <;> first | done | exact rfl | (rw [IntWalk.i64_in _ (by omega)]; exact rfl) | trace_state)
        refine wpPt_val rfl rfl ?_
        apply Exists.intro
        refine ⟨fun w' hS => ?_, ?_⟩
        focus (have rS := cell_of hS.1; have rT := cell_of hS.2; simp [go_sem, ↓IntWalk.iteOmega, rS, rT, hw9, hsl] <;> first | done | exact rfl | (rw [IntWalk.i64_in _ (by omega)]; exact rfl) | trace_state)
        refine wpPt_val rfl rfl ?_
        apply Exists.intro
        refine ⟨fun w' hS => ?_, ?_⟩
        focus (have rS := cell_of hS.1; have rT := cell_of hS.2; simp [go_sem, ↓IntWalk.iteOmega, rS, rT, hw9, hsl] <;> first | done | exact rfl | (rw [IntWalk.i64_in _ (by omega)]; exact rfl) | trace_state)
        refine wpPt_val rfl rfl ?_
        apply Exists.intro
        refine ⟨fun w' hS => ?_, ?_⟩
        focus (have rS := cell_of hS.1; have rT := cell_of hS.2; simp [go_sem, ↓IntWalk.iteOmega, rS, rT, hw9, hsl] <;> first | done | exact rfl | (rw [IntWalk.i64_in _ (by omega)]; exact rfl) | trace_state)
        refine wpPt_val rfl rfl ?_
        apply Exists.intro
        refine ⟨fun w' hS => ?_, ?_⟩
        focus (have rS := cell_of hS.1; have rT := cell_of hS.2; simp [go_sem, ↓IntWalk.iteOmega, rS, rT, hw9, hsl] <;> first | done | exact rfl | (rw [IntWalk.i64_in _ (by omega)]; exact rfl) | trace_state)
        refine wpPt_val rfl rfl ?_
        apply Exists.intro
        refine ⟨fun w' hS => ?_, ?_⟩
        focus (have rS := cell_of hS.1; have rT := cell_of hS.2; simp [go_sem, ↓IntWalk.iteOmega, rS, rT, hw9, hsl] <;> first | done | exact rfl | (rw [IntWalk.i64_in _ (by omega)]; exact rfl) | trace_state)
        refine wpPt_val rfl rfl ?_
        apply Exists.intro
        refine ⟨fun w' hS => ?_, ?_⟩
        focus (have rS := cell_of hS.1; have rT := cell_of hS.2; simp [go_sem, ↓IntWalk.iteOmega, rS, rT, hw9, hsl] <;> first | done | exact rfl | (rw [IntWalk.i64_in _ (by omega)]; exact rfl) | trace_state)
        refine wpPt_val rfl rfl ?_
        apply Exists.intro
        refine ⟨fun w' hS => ?_, ?_⟩
        focus (have rS := cell_of hS.1; have rT := cell_of hS.2; simp [go_sem, ↓IntWalk.iteOmega, rS, rT, hw9, hsl] <;> first | done | exact rfl | (rw [IntWalk.i64_in _ (by omega)]; exact rfl) | trace_state)
        refine wpPt_one rfl rfl (fun K hK => ?_)
        go_simp
        clear hw9
        refine (bitsNumber_any o t _ (by have := HTS.out; omega)).mono ?_
        rintro e w' ⟨rfl, x9, rfl⟩
        rw [HTC.out]
        refine hK _ _ (fun hkn => ⟨(by repeat (first | (with_reducible exact HT.out.blk) | (with_reducible apply blk_seq) | (with_reducible apply blk_draw) | (with_reducible apply blk_plus) | (with_reducible apply blk_alloc) | (with_reducible apply blk_drew) | (with_reducible refine blk_patch ?_ (by omega)) | exact HT.out.blk)), (by repeat (first | (with_reducible exact HKB.out) | (with_reducible apply blk_seq) | (with_reducible apply blk_draw) | (with_reducible apply blk_plus) | (with_reducible apply blk_alloc) | (with_reducible apply blk_drew) | (with_reducible refine blk_patch ?_ (by omega)) | exact HKB.out))⟩) ?_
        clear hK K
        refine wpPt_one rfl rfl (fun K hK => ?_)
        go_simp
        refine hK _ _ (fun hkn => absurd hkn (by decide)) ?_
        clear hK K
        refine NoPanic.normal ?_
        go_wp2_with (go_at_call 89; refine (canFollow_any _ _ _ _ _ _ _ _ _ _ hs (by omega)).mono ?_; rintro e w' ⟨rfl, xf, rfl⟩)
        refine bodyPost_ret (v := .agg #[.int .i64 o, .int .i64 l, .int .i64 m, .slice pa' (ps').length pc', .int .i64 b, .int .i64 (last'), .slice ca (C).length cc, .slice da (D).length dc, .int .i64 2, .int .i64 ((p : Int) + n)]) (by simp [results, Tryz.results46, go_sem, ↓IntWalk.iteOmega, hNB1, hbm]) rfl ?_
        rw [HR1.out]
        exact ret_t4 (((HT.out.turn 2 ((p : Int) + n)).low (n := w.heap.size + 1) (by omega) (by omega) _).plus _) (below_plus (below_patch (below_patch HBLW.out (by omega) _) (by omega) _) (by simp; omega) _) (by simp)
      · by_cases he : c = two l + 1
        · subst he
          have HR1 := Lib.hid (show R = ⟨ps', last', C ++ [two l + 1], D, 0, p + n⟩ by rw [← HRD.out, rdc_end HN2.out HNS.out HNC.out (can_end t1)])
          have HRS1 := Lib.hid (show (patch wr B (.cells #[.int .i64 o, .int .i64 l, .int .i64 m, .slice pa' ps'.length pc', .int .i64 b, .int .i64 last', .slice ca C.length cc, .slice da D.length dc, .int .i64 1, .int .i64 ((p : Int) + n)] 71)).heap[w.heap.size + 1]? = _ from blk_patch HRS.out (by omega))
          have HKB1 := Lib.hid (show (patch wr B (.cells #[.int .i64 o, .int .i64 l, .int .i64 m, .slice pa' ps'.length pc', .int .i64 b, .int .i64 last', .slice ca C.length cc, .slice da D.length dc, .int .i64 1, .int .i64 ((p : Int) + n)] 71)).heap[w.heap.size]? = _ from blk_patch HKB.out (by omega))
          have HBk1 := HB1
          go_wp2_with (go_at_call 58; refine (width_any _ _ _ _ _ _ _ _ _ HLM.out (by omega)).mono ?_; rintro e w' ⟨rfl, xc, rfl⟩; rw [HN.out])
          refine wp_region_pt 12 (fun w' => w'.heap[B]? = some (.cells #[.int .i64 o, .int .i64 l, .int .i64 m, .slice pa' ps'.length pc', .int .i64 b, .int .i64 last', .slice ca C.length cc, .slice da D.length dc, .int .i64 1, .int .i64 p] 71 (0, 0)) ∧ w'.heap[w.heap.size]? = some (.cells #[.int .i64 o, .int .i64 l, .int .i64 m, .slice a ps.length cap, .int .i64 b, .int .i64 last] 26 (0, 0))) (Plan.quiet 0 (Plan.quiet 1 (Plan.quiet 2 (Plan.quiet 3 (Plan.quiet 4 (Plan.quiet 5 (Plan.quiet 6 (Plan.quiet 7 (Plan.quiet 8 (Plan.quiet 9 (Plan.quiet 10 (Plan.one 11 (Plan.one 12 Plan.done))))))))))))) (by kernel_rfl) (by kernel_rfl) (⟨blk_drew (blk_plus HT.out.blk _), blk_drew (blk_plus HKB.out _)⟩) ?_
          refine wpPt_val rfl rfl ?_
          apply Exists.intro
          refine ⟨fun w' hS => ?_, ?_⟩
          focus (have rS := cell_of hS.1; have rT := cell_of hS.2; simp [go_sem, ↓IntWalk.iteOmega, rS, rT, hw9, hsl] <;> first | done | exact rfl | (rw [IntWalk.i64_in _ (by omega)]; exact rfl) | trace_state)
          refine wpPt_val rfl rfl ?_
          apply Exists.intro
          refine ⟨fun w' hS => ?_, ?_⟩
          focus (have rS := cell_of hS.1; have rT := cell_of hS.2; simp [go_sem, ↓IntWalk.iteOmega, rS, rT, hw9, hsl] <;> first | done | exact rfl | (rw [IntWalk.i64_in _ (by omega)]; exact rfl) | trace_state)
          refine wpPt_val rfl rfl ?_
          apply Exists.intro
          refine ⟨fun w' hS => ?_, ?_⟩
          focus (have rS := cell_of hS.1; have rT := cell_of hS.2; simp [go_sem, ↓IntWalk.iteOmega, rS, rT, hw9, hsl] <;> first | done | exact rfl | (rw [IntWalk.i64_in _ (by omega)]; exact rfl) | trace_state)
          refine wpPt_val rfl rfl ?_
          apply Exists.intro
          refine ⟨fun w' hS => ?_, ?_⟩
          focus (have rS := cell_of hS.1; have rT := cell_of hS.2; simp [go_sem, ↓IntWalk.iteOmega, rS, rT, hw9, hsl] <;> first | done | exact rfl | (rw [IntWalk.i64_in _ (by omega)]; exact rfl) | trace_state)
          refine wpPt_val rfl rfl ?_
          apply Exists.intro
          refine ⟨fun w' hS => ?_, ?_⟩
          focus (have rS := cell_of hS.1; have rT := cell_of hS.2; simp [go_sem, ↓IntWalk.iteOmega, rS, rT, hw9, hsl] <;> first | done | exact rfl | (rw [IntWalk.i64_in _ (by omega)]; exact rfl) | trace_state)
          refine wpPt_val rfl rfl ?_
          apply Exists.intro
          refine ⟨fun w' hS => ?_, ?_⟩
          focus (have rS := cell_of hS.1; have rT := cell_of hS.2; simp [go_sem, ↓IntWalk.iteOmega, rS, rT, hw9, hsl] <;> first | done | exact rfl | (rw [IntWalk.i64_in _ (by omega)]; exact rfl) | trace_state)
          refine wpPt_val rfl rfl ?_
          apply Exists.intro
          refine ⟨fun w' hS => ?_, ?_⟩
          focus (have rS := cell_of hS.1; have rT := cell_of hS.2; simp [go_sem, ↓IntWalk.iteOmega, rS, rT, hw9, hsl] <;> first | done | exact rfl | (rw [IntWalk.i64_in _ (by omega)]; exact rfl) | trace_state)
          refine wpPt_val rfl rfl ?_
          apply Exists.intro
          refine ⟨fun w' hS => ?_, ?_⟩
          focus (have rS := cell_of hS.1; have rT := cell_of hS.2; simp [go_sem, ↓IntWalk.iteOmega, rS, rT, hw9, hsl] <;> first | done | exact rfl | (rw [IntWalk.i64_in _ (by omega)]; exact rfl) | trace_state)
          refine wpPt_val rfl rfl ?_
          apply Exists.intro
          refine ⟨fun w' hS => ?_, ?_⟩
          focus (have rS := cell_of hS.1; have rT := cell_of hS.2; simp [go_sem, ↓IntWalk.iteOmega, rS, rT, hw9, hsl] <;> first | done | exact rfl | (rw [IntWalk.i64_in _ (by omega)]; exact rfl) | trace_state)
          refine wpPt_val rfl rfl ?_
          apply Exists.intro
          refine ⟨fun w' hS => ?_, ?_⟩
          focus (have rS := cell_of hS.1; have rT := cell_of hS.2; simp [go_sem, ↓IntWalk.iteOmega, rS, rT, hw9, hsl] <;> first | done | exact rfl | (rw [IntWalk.i64_in _ (by omega)]; exact rfl) | trace_state)
          refine wpPt_val rfl rfl ?_
          apply Exists.intro
          refine ⟨fun w' hS => ?_, ?_⟩
          focus (have rS := cell_of hS.1; have rT := cell_of hS.2; simp [go_sem, ↓IntWalk.iteOmega, rS, rT, hw9, hsl] <;> first | done | exact rfl | (rw [IntWalk.i64_in _ (by omega)]; exact rfl) | trace_state)
          refine wpPt_one rfl rfl (fun K hK => ?_)
          go_simp
          clear hw9
          refine (bitsNumber_any o t _ (by have := HTS.out; omega)).mono ?_
          rintro e w' ⟨rfl, x9, rfl⟩
          rw [HTC.out]
          refine hK _ _ (fun hkn => ⟨(by repeat (first | (with_reducible exact HT.out.blk) | (with_reducible apply blk_seq) | (with_reducible apply blk_draw) | (with_reducible apply blk_plus) | (with_reducible apply blk_alloc) | (with_reducible apply blk_drew) | (with_reducible refine blk_patch ?_ (by omega)) | exact HT.out.blk)), (by repeat (first | (with_reducible exact HKB.out) | (with_reducible apply blk_seq) | (with_reducible apply blk_draw) | (with_reducible apply blk_plus) | (with_reducible apply blk_alloc) | (with_reducible apply blk_drew) | (with_reducible refine blk_patch ?_ (by omega)) | exact HKB.out))⟩) ?_
          clear hK K
          refine wpPt_one rfl rfl (fun K hK => ?_)
          go_simp
          refine hK _ _ (fun hkn => absurd hkn (by decide)) ?_
          clear hK K
          refine NoPanic.normal ?_
          go_wp2_with (first | (go_at_call 89; refine (canFollow_any _ _ _ _ _ _ _ _ _ _ hs (by omega)).mono ?_; rintro e w' ⟨rfl, xf, rfl⟩) | (at_builtin; refine wpList_append_at encI _ _ _ _ i0 _ 8 rfl rfl Tryz.underlying66 hi iz0 iz1 iz2 rfl (by decide) C ca cc (w.heap.size + 2) (T4r.oc (B := B) (o := o) (l := l) (m := m) (ps := ps') (base := (b : Int)) (last := last') (pa := pa') (pc := pc') (da := da) (dc := dc) (D := D) (e := 1) (p := (p : Int) + n) (by repeat (first | (with_reducible exact HT1.out) | (with_reducible apply t4_seq) | (with_reducible apply T4r.plus) | (with_reducible apply T4r.alloc) | (with_reducible apply T4r.drew)))) rfl [(two l + 1)] _ 0 1 (new_cells encI (two l + 1) _ _ (by first | omega | rfl | (simp <;> omega) | (simp only [List.length_cons, List.length_nil, plus_size, World.size_alloc]; omega))) rfl (by first | omega | rfl | (simp <;> omega) | (simp only [List.length_cons, List.length_nil, plus_size, World.size_alloc]; omega)) (by first | omega | rfl | (simp <;> omega) | (simp only [List.length_cons, List.length_nil, plus_size, World.size_alloc]; omega)) (by simp <;> omega) ?_; intro A6 c6 w6 hw6 hg6 hx6; have HT6 := (T4r.grewC (B := B) (o := o) (l := l) (m := m) (ps := ps') (base := (b : Int)) (last := last') (pa := pa') (pc := pc') (cc := cc) (C := C) (da := da) (dc := dc) (D := D) (e := 1) (p := (p : Int) + n) (by repeat (first | (with_reducible exact HT1.out) | (with_reducible apply t4_seq) | (with_reducible apply T4r.plus) | (with_reducible apply T4r.alloc) | (with_reducible apply T4r.drew))) hw6 hg6 hx6 0); simp only [List.length_append, List.length_singleton] at HT6; have hblk6 := T4r.grewC_blk (B := B) (lo := w.heap.size + 2) (o := o) (l := l) (m := m) (ps := ps') (base := (b : Int)) (last := last') (pa := pa') (pc := pc') (cc := cc) (C := C) (da := da) (dc := dc) (D := D) (e := 1) (p := (p : Int) + n) (by repeat (first | (with_reducible exact HT1.out) | (with_reducible apply t4_seq) | (with_reducible apply T4r.plus) | (with_reducible apply T4r.alloc) | (with_reducible apply T4r.drew))) hg6; have HT6 := Lib.hid HT6; have hAlo6 := fun X hX => own_lo HT.out.oc X hX; have HRS6 := Lib.hid (blk_grew hg6 (by repeat (first | (with_reducible exact HRS1.out) | (with_reducible apply blk_seq) | (with_reducible apply blk_draw) | (with_reducible apply blk_plus) | (with_reducible apply blk_alloc) | (with_reducible apply blk_drew) | (with_reducible refine blk_patch ?_ (by omega)) | exact HRS1.out)) (fun X hX e => by have := hAlo6 X hX; omega)); have HKB6 := Lib.hid (blk_grew hg6 (by repeat (first | (with_reducible exact HKB1.out) | (with_reducible apply blk_seq) | (with_reducible apply blk_draw) | (with_reducible apply blk_plus) | (with_reducible apply blk_alloc) | (with_reducible apply blk_drew) | (with_reducible refine blk_patch ?_ (by omega)) | exact HKB1.out)) (fun X hX e => by have := hAlo6 X hX; omega)); have hbl6 := hg6.below (B := w.heap.size + 2) (by simp <;> omega) hAlo6; have HB6 := Lib.hid (HBk1.out.trans (Below.trans (b := _) (by repeat (first | exact Below.refl _ _ | refine below_plus ?_ (by first | omega | (simp <;> omega)) _ | refine Below.alloc ?_ (by first | omega | (simp <;> omega)) _ | refine below_patch ?_ (by omega) _ | refine Below.drew ?_)) (hbl6.mono (by omega)))); have z6 := hg6.size; simp at z6; have r6 := cell_of hblk6; have f6 := free_of hblk6; have s6 := fun i v => setCell_patch hblk6 i v; have q6 := cell_of HRS6.out; have g6 := free_of HRS6.out; have u6 := fun i v => setCell_patch HRS6.out i v; clear hw6 hg6 hx6 hbl6 hblk6 hAlo6))
          refine bodyPost_ret (v := .agg #[.int .i64 o, .int .i64 l, .int .i64 m, .slice pa' (ps').length pc', .int .i64 b, .int .i64 (last'), .slice A6 (C ++ [two l + 1]).length c6, .slice da (D).length dc, .int .i64 0, .int .i64 ((p : Int) + n)]) (by simp [results, Tryz.results46, go_sem, ↓IntWalk.iteOmega, hNB1, hbm]) rfl ?_
          rw [HR1.out]
          exact ret_t4 (HT6.out.low (n := w.heap.size + 1) (by omega) (by omega) _) (below_patch (below_patch HB6.out (by omega) _) (by omega) _) (by simp)
        · have v3 : (c == two l + 1) = false := by simp [he]
          by_cases hcl : c = two l
          · subst hcl
            have hlt2 : (ps'.take b).length = b := by rw [List.length_take]; omega
            have HRC := Lib.hid (rdc_clear (o := o) (b := b) (sz := sz) (ct := ct) (f := f) (C := C) (D := D) HN2.out HNS.out HNC.out (can_clear t1))
            have HT2 := Lib.hid (show T4r (patch wr B (.cells #[.int .i64 o, .int .i64 l, .int .i64 m, .slice pa' b pc', .int .i64 b, .int .i64 (-1), .slice ca C.length cc, .slice da D.length dc, .int .i64 1, .int .i64 ((p : Int) + n)] 71)) B (w.heap.size + 2) o l m (ps'.take b) (b : Int) (-1) pa' pc' ca cc C da dc D 1 ((p : Int) + n) by have h9 := T4r.clear (b := b) HT1.out (by omega); rw [patch_patch] at h9; exact h9)
            have HRS2 := Lib.hid (show (patch wr B (.cells #[.int .i64 o, .int .i64 l, .int .i64 m, .slice pa' b pc', .int .i64 b, .int .i64 (-1), .slice ca C.length cc, .slice da D.length dc, .int .i64 1, .int .i64 ((p : Int) + n)] 71)).heap[w.heap.size + 1]? = _ from blk_patch HRS.out (by omega))
            have HKB2 := Lib.hid (show (patch wr B (.cells #[.int .i64 o, .int .i64 l, .int .i64 m, .slice pa' b pc', .int .i64 b, .int .i64 (-1), .slice ca C.length cc, .slice da D.length dc, .int .i64 1, .int .i64 ((p : Int) + n)] 71)).heap[w.heap.size]? = _ from blk_patch HKB.out (by omega))
            have HBk2 := Lib.hid (below_patch (b := B) HBLW.out (by omega) (.cells #[.int .i64 o, .int .i64 l, .int .i64 m, .slice pa' b pc', .int .i64 b, .int .i64 (-1), .slice ca C.length cc, .slice da D.length dc, .int .i64 1, .int .i64 ((p : Int) + n)] 71))
            by_cases hct2 : 3100 ≤ ct + (C.length + 1)
            · have v5 : decide (3100 ≤ (ct : Int) + ((C.length : Int) + 1)) = true := by simp; omega
              have HR1 := Lib.hid (show R = ⟨ps'.take b, -1, C ++ [two l], D, 3, p + n⟩ by rw [← HRD.out, HRC.out, if_pos hct2])
              go_wp2_with (go_at_call 58; refine (width_any _ _ _ _ _ _ _ _ _ HLM.out (by omega)).mono ?_; rintro e w' ⟨rfl, xc, rfl⟩; rw [HN.out])
              refine wp_region_pt 12 (fun w' => w'.heap[B]? = some (.cells #[.int .i64 o, .int .i64 l, .int .i64 m, .slice pa' ps'.length pc', .int .i64 b, .int .i64 last', .slice ca C.length cc, .slice da D.length dc, .int .i64 1, .int .i64 p] 71 (0, 0)) ∧ w'.heap[w.heap.size]? = some (.cells #[.int .i64 o, .int .i64 l, .int .i64 m, .slice a ps.length cap, .int .i64 b, .int .i64 last] 26 (0, 0))) (Plan.quiet 0 (Plan.quiet 1 (Plan.quiet 2 (Plan.quiet 3 (Plan.quiet 4 (Plan.quiet 5 (Plan.quiet 6 (Plan.quiet 7 (Plan.quiet 8 (Plan.quiet 9 (Plan.quiet 10 (Plan.one 11 (Plan.one 12 Plan.done))))))))))))) (by kernel_rfl) (by kernel_rfl) (⟨blk_drew (blk_plus HT.out.blk _), blk_drew (blk_plus HKB.out _)⟩) ?_
              refine wpPt_val rfl rfl ?_
              apply Exists.intro
              refine ⟨fun w' hS => ?_, ?_⟩
              focus (have rS := cell_of hS.1; have rT := cell_of hS.2; simp [go_sem, ↓IntWalk.iteOmega, rS, rT, hw9, hsl] <;> first | done | exact rfl | (rw [IntWalk.i64_in _ (by omega)]; exact rfl) | trace_state)
              refine wpPt_val rfl rfl ?_
              apply Exists.intro
              refine ⟨fun w' hS => ?_, ?_⟩
              focus (have rS := cell_of hS.1; have rT := cell_of hS.2; simp [go_sem, ↓IntWalk.iteOmega, rS, rT, hw9, hsl] <;> first | done | exact rfl | (rw [IntWalk.i64_in _ (by omega)]; exact rfl) | trace_state)
              refine wpPt_val rfl rfl ?_
              apply Exists.intro
              refine ⟨fun w' hS => ?_, ?_⟩
              focus (have rS := cell_of hS.1; have rT := cell_of hS.2; simp [go_sem, ↓IntWalk.iteOmega, rS, rT, hw9, hsl] <;> first | done | exact rfl | (rw [IntWalk.i64_in _ (by omega)]; exact rfl) | trace_state)
              refine wpPt_val rfl rfl ?_
              apply Exists.intro
              refine ⟨fun w' hS => ?_, ?_⟩
              focus (have rS := cell_of hS.1; have rT := cell_of hS.2; simp [go_sem, ↓IntWalk.iteOmega, rS, rT, hw9, hsl] <;> first | done | exact rfl | (rw [IntWalk.i64_in _ (by omega)]; exact rfl) | trace_state)
              refine wpPt_val rfl rfl ?_
              apply Exists.intro
              refine ⟨fun w' hS => ?_, ?_⟩
              focus (have rS := cell_of hS.1; have rT := cell_of hS.2; simp [go_sem, ↓IntWalk.iteOmega, rS, rT, hw9, hsl] <;> first | done | exact rfl | (rw [IntWalk.i64_in _ (by omega)]; exact rfl) | trace_state)
              refine wpPt_val rfl rfl ?_
              apply Exists.intro
              refine ⟨fun w' hS => ?_, ?_⟩
              focus (have rS := cell_of hS.1; have rT := cell_of hS.2; simp [go_sem, ↓IntWalk.iteOmega, rS, rT, hw9, hsl] <;> first | done | exact rfl | (rw [IntWalk.i64_in _ (by omega)]; exact rfl) | trace_state)
              refine wpPt_val rfl rfl ?_
              apply Exists.intro
              refine ⟨fun w' hS => ?_, ?_⟩
              focus (have rS := cell_of hS.1; have rT := cell_of hS.2; simp [go_sem, ↓IntWalk.iteOmega, rS, rT, hw9, hsl] <;> first | done | exact rfl | (rw [IntWalk.i64_in _ (by omega)]; exact rfl) | trace_state)
              refine wpPt_val rfl rfl ?_
              apply Exists.intro
              refine ⟨fun w' hS => ?_, ?_⟩
              focus (have rS := cell_of hS.1; have rT := cell_of hS.2; simp [go_sem, ↓IntWalk.iteOmega, rS, rT, hw9, hsl] <;> first | done | exact rfl | (rw [IntWalk.i64_in _ (by omega)]; exact rfl) | trace_state)
              refine wpPt_val rfl rfl ?_
              apply Exists.intro
              refine ⟨fun w' hS => ?_, ?_⟩
              focus (have rS := cell_of hS.1; have rT := cell_of hS.2; simp [go_sem, ↓IntWalk.iteOmega, rS, rT, hw9, hsl] <;> first | done | exact rfl | (rw [IntWalk.i64_in _ (by omega)]; exact rfl) | trace_state)
              refine wpPt_val rfl rfl ?_
              apply Exists.intro
              refine ⟨fun w' hS => ?_, ?_⟩
              focus (have rS := cell_of hS.1; have rT := cell_of hS.2; simp [go_sem, ↓IntWalk.iteOmega, rS, rT, hw9, hsl] <;> first | done | exact rfl | (rw [IntWalk.i64_in _ (by omega)]; exact rfl) | trace_state)
              refine wpPt_val rfl rfl ?_
              apply Exists.intro
              refine ⟨fun w' hS => ?_, ?_⟩
              focus (have rS := cell_of hS.1; have rT := cell_of hS.2; simp [go_sem, ↓IntWalk.iteOmega, rS, rT, hw9, hsl] <;> first | done | exact rfl | (rw [IntWalk.i64_in _ (by omega)]; exact rfl) | trace_state)
              refine wpPt_one rfl rfl (fun K hK => ?_)
              go_simp
              clear hw9
              refine (bitsNumber_any o t _ (by have := HTS.out; omega)).mono ?_
              rintro e w' ⟨rfl, x9, rfl⟩
              rw [HTC.out]
              refine hK _ _ (fun hkn => ⟨(by repeat (first | (with_reducible exact HT.out.blk) | (with_reducible apply blk_seq) | (with_reducible apply blk_draw) | (with_reducible apply blk_plus) | (with_reducible apply blk_alloc) | (with_reducible apply blk_drew) | (with_reducible refine blk_patch ?_ (by omega)) | exact HT.out.blk)), (by repeat (first | (with_reducible exact HKB.out) | (with_reducible apply blk_seq) | (with_reducible apply blk_draw) | (with_reducible apply blk_plus) | (with_reducible apply blk_alloc) | (with_reducible apply blk_drew) | (with_reducible refine blk_patch ?_ (by omega)) | exact HKB.out))⟩) ?_
              clear hK K
              refine wpPt_one rfl rfl (fun K hK => ?_)
              go_simp
              refine hK _ _ (fun hkn => absurd hkn (by decide)) ?_
              clear hK K
              refine NoPanic.normal ?_
              go_wp2_with (first | (go_at_call 89; refine (canFollow_any _ _ _ _ _ _ _ _ _ _ hs (by omega)).mono ?_; rintro e w' ⟨rfl, xf, rfl⟩) | (go_at_call 90; refine (advance_clear _ _ _ _ _ _ _ _ _ _ hs (by omega) hpc hpc2).mono ?_; rintro e w' ⟨rfl, xa, rfl⟩) | (at_builtin; refine wpList_append_at encI _ _ _ _ i0 _ 8 rfl rfl Tryz.underlying66 hi iz0 iz1 iz2 rfl (by decide) C ca cc (w.heap.size + 2) (T4r.oc (B := B) (o := o) (l := l) (m := m) (ps := (ps'.take b)) (base := (b : Int)) (last := (-1)) (pa := pa') (pc := pc') (da := da) (dc := dc) (D := D) (e := 1) (p := (p : Int) + n) (by repeat (first | (with_reducible exact HT2.out) | (with_reducible apply t4_seq) | (with_reducible apply T4r.plus) | (with_reducible apply T4r.alloc) | (with_reducible apply T4r.drew)))) rfl [(two l)] _ 0 1 (new_cells encI (two l) _ _ (by first | omega | rfl | (simp <;> omega) | (simp only [List.length_cons, List.length_nil, plus_size, World.size_alloc]; omega))) rfl (by first | omega | rfl | (simp <;> omega) | (simp only [List.length_cons, List.length_nil, plus_size, World.size_alloc]; omega)) (by first | omega | rfl | (simp <;> omega) | (simp only [List.length_cons, List.length_nil, plus_size, World.size_alloc]; omega)) (by simp <;> omega) ?_; intro A6 c6 w6 hw6 hg6 hx6; have HT6 := (T4r.grewC (B := B) (o := o) (l := l) (m := m) (ps := (ps'.take b)) (base := (b : Int)) (last := (-1)) (pa := pa') (pc := pc') (cc := cc) (C := C) (da := da) (dc := dc) (D := D) (e := 1) (p := (p : Int) + n) (by repeat (first | (with_reducible exact HT2.out) | (with_reducible apply t4_seq) | (with_reducible apply T4r.plus) | (with_reducible apply T4r.alloc) | (with_reducible apply T4r.drew))) hw6 hg6 hx6 3); simp only [List.length_append, List.length_singleton] at HT6; have hblk6 := T4r.grewC_blk (B := B) (lo := w.heap.size + 2) (o := o) (l := l) (m := m) (ps := (ps'.take b)) (base := (b : Int)) (last := (-1)) (pa := pa') (pc := pc') (cc := cc) (C := C) (da := da) (dc := dc) (D := D) (e := 1) (p := (p : Int) + n) (by repeat (first | (with_reducible exact HT2.out) | (with_reducible apply t4_seq) | (with_reducible apply T4r.plus) | (with_reducible apply T4r.alloc) | (with_reducible apply T4r.drew))) hg6; rw [hlt2] at HT6 hblk6; have HT6 := Lib.hid HT6; have hAlo6 := fun X hX => own_lo HT.out.oc X hX; have HRS6 := Lib.hid (blk_grew hg6 (by repeat (first | (with_reducible exact HRS2.out) | (with_reducible apply blk_seq) | (with_reducible apply blk_draw) | (with_reducible apply blk_plus) | (with_reducible apply blk_alloc) | (with_reducible apply blk_drew) | (with_reducible refine blk_patch ?_ (by omega)) | exact HRS2.out)) (fun X hX e => by have := hAlo6 X hX; omega)); have HKB6 := Lib.hid (blk_grew hg6 (by repeat (first | (with_reducible exact HKB2.out) | (with_reducible apply blk_seq) | (with_reducible apply blk_draw) | (with_reducible apply blk_plus) | (with_reducible apply blk_alloc) | (with_reducible apply blk_drew) | (with_reducible refine blk_patch ?_ (by omega)) | exact HKB2.out)) (fun X hX e => by have := hAlo6 X hX; omega)); have hbl6 := hg6.below (B := w.heap.size + 2) (by simp <;> omega) hAlo6; have HB6 := Lib.hid (HBk2.out.trans (Below.trans (b := _) (by repeat (first | exact Below.refl _ _ | refine below_plus ?_ (by first | omega | (simp <;> omega)) _ | refine Below.alloc ?_ (by first | omega | (simp <;> omega)) _ | refine below_patch ?_ (by omega) _ | refine Below.drew ?_)) (hbl6.mono (by omega)))); have z6 := hg6.size; simp at z6; have r6 := cell_of hblk6; have f6 := free_of hblk6; have s6 := fun i v => setCell_patch hblk6 i v; have q6 := cell_of HRS6.out; have g6 := free_of HRS6.out; have u6 := fun i v => setCell_patch HRS6.out i v; clear hw6 hg6 hx6 hbl6 hblk6 hAlo6))
              refine bodyPost_ret (v := .agg #[.int .i64 o, .int .i64 l, .int .i64 m, .slice pa' (ps'.take b).length pc', .int .i64 b, .int .i64 (-1), .slice A6 (C ++ [two l]).length c6, .slice da (D).length dc, .int .i64 3, .int .i64 ((p : Int) + n)]) (by simp [results, Tryz.results46, go_sem, ↓IntWalk.iteOmega, hNB1, hbm]) rfl ?_
              rw [HR1.out]
              exact ret_t4 (HT6.out.low (n := w.heap.size + 1) (by omega) (by omega) _) (below_patch (below_patch HB6.out (by omega) _) (by omega) _) (by simp)
            · have v5 : decide (3100 ≤ (ct : Int) + ((C.length : Int) + 1)) = false := by simp; omega
              have HR1 := Lib.hid (show rdc o l m b sz ct bits f (ps'.take b) (-1) (p + n) (C ++ [two l]) D = R by rw [← HRD.out, HRC.out, if_neg hct2])
              go_wp2_with (go_at_call 58; refine (width_any _ _ _ _ _ _ _ _ _ HLM.out (by omega)).mono ?_; rintro e w' ⟨rfl, xc, rfl⟩; rw [HN.out])
              refine wp_region_pt 12 (fun w' => w'.heap[B]? = some (.cells #[.int .i64 o, .int .i64 l, .int .i64 m, .slice pa' ps'.length pc', .int .i64 b, .int .i64 last', .slice ca C.length cc, .slice da D.length dc, .int .i64 1, .int .i64 p] 71 (0, 0)) ∧ w'.heap[w.heap.size]? = some (.cells #[.int .i64 o, .int .i64 l, .int .i64 m, .slice a ps.length cap, .int .i64 b, .int .i64 last] 26 (0, 0))) (Plan.quiet 0 (Plan.quiet 1 (Plan.quiet 2 (Plan.quiet 3 (Plan.quiet 4 (Plan.quiet 5 (Plan.quiet 6 (Plan.quiet 7 (Plan.quiet 8 (Plan.quiet 9 (Plan.quiet 10 (Plan.one 11 (Plan.one 12 Plan.done))))))))))))) (by kernel_rfl) (by kernel_rfl) (⟨blk_drew (blk_plus HT.out.blk _), blk_drew (blk_plus HKB.out _)⟩) ?_
              refine wpPt_val rfl rfl ?_
              apply Exists.intro
              refine ⟨fun w' hS => ?_, ?_⟩
              focus (have rS := cell_of hS.1; have rT := cell_of hS.2; simp [go_sem, ↓IntWalk.iteOmega, rS, rT, hw9, hsl] <;> first | done | exact rfl | (rw [IntWalk.i64_in _ (by omega)]; exact rfl) | trace_state)
              refine wpPt_val rfl rfl ?_
              apply Exists.intro
              refine ⟨fun w' hS => ?_, ?_⟩
              focus (have rS := cell_of hS.1; have rT := cell_of hS.2; simp [go_sem, ↓IntWalk.iteOmega, rS, rT, hw9, hsl] <;> first | done | exact rfl | (rw [IntWalk.i64_in _ (by omega)]; exact rfl) | trace_state)
              refine wpPt_val rfl rfl ?_
              apply Exists.intro
              refine ⟨fun w' hS => ?_, ?_⟩
              focus (have rS := cell_of hS.1; have rT := cell_of hS.2; simp [go_sem, ↓IntWalk.iteOmega, rS, rT, hw9, hsl] <;> first | done | exact rfl | (rw [IntWalk.i64_in _ (by omega)]; exact rfl) | trace_state)
              refine wpPt_val rfl rfl ?_
              apply Exists.intro
              refine ⟨fun w' hS => ?_, ?_⟩
              focus (have rS := cell_of hS.1; have rT := cell_of hS.2; simp [go_sem, ↓IntWalk.iteOmega, rS, rT, hw9, hsl] <;> first | done | exact rfl | (rw [IntWalk.i64_in _ (by omega)]; exact rfl) | trace_state)
              refine wpPt_val rfl rfl ?_
              apply Exists.intro
              refine ⟨fun w' hS => ?_, ?_⟩
              focus (have rS := cell_of hS.1; have rT := cell_of hS.2; simp [go_sem, ↓IntWalk.iteOmega, rS, rT, hw9, hsl] <;> first | done | exact rfl | (rw [IntWalk.i64_in _ (by omega)]; exact rfl) | trace_state)
              refine wpPt_val rfl rfl ?_
              apply Exists.intro
              refine ⟨fun w' hS => ?_, ?_⟩
              focus (have rS := cell_of hS.1; have rT := cell_of hS.2; simp [go_sem, ↓IntWalk.iteOmega, rS, rT, hw9, hsl] <;> first | done | exact rfl | (rw [IntWalk.i64_in _ (by omega)]; exact rfl) | trace_state)
              refine wpPt_val rfl rfl ?_
              apply Exists.intro
              refine ⟨fun w' hS => ?_, ?_⟩
              focus (have rS := cell_of hS.1; have rT := cell_of hS.2; simp [go_sem, ↓IntWalk.iteOmega, rS, rT, hw9, hsl] <;> first | done | exact rfl | (rw [IntWalk.i64_in _ (by omega)]; exact rfl) | trace_state)
              refine wpPt_val rfl rfl ?_
              apply Exists.intro
              refine ⟨fun w' hS => ?_, ?_⟩
              focus (have rS := cell_of hS.1; have rT := cell_of hS.2; simp [go_sem, ↓IntWalk.iteOmega, rS, rT, hw9, hsl] <;> first | done | exact rfl | (rw [IntWalk.i64_in _ (by omega)]; exact rfl) | trace_state)
              refine wpPt_val rfl rfl ?_
              apply Exists.intro
              refine ⟨fun w' hS => ?_, ?_⟩
              focus (have rS := cell_of hS.1; have rT := cell_of hS.2; simp [go_sem, ↓IntWalk.iteOmega, rS, rT, hw9, hsl] <;> first | done | exact rfl | (rw [IntWalk.i64_in _ (by omega)]; exact rfl) | trace_state)
              refine wpPt_val rfl rfl ?_
              apply Exists.intro
              refine ⟨fun w' hS => ?_, ?_⟩
              focus (have rS := cell_of hS.1; have rT := cell_of hS.2; simp [go_sem, ↓IntWalk.iteOmega, rS, rT, hw9, hsl] <;> first | done | exact rfl | (rw [IntWalk.i64_in _ (by omega)]; exact rfl) | trace_state)
              refine wpPt_val rfl rfl ?_
              apply Exists.intro
              refine ⟨fun w' hS => ?_, ?_⟩
              focus (have rS := cell_of hS.1; have rT := cell_of hS.2; simp [go_sem, ↓IntWalk.iteOmega, rS, rT, hw9, hsl] <;> first | done | exact rfl | (rw [IntWalk.i64_in _ (by omega)]; exact rfl) | trace_state)
              refine wpPt_one rfl rfl (fun K hK => ?_)
              go_simp
              clear hw9
              refine (bitsNumber_any o t _ (by have := HTS.out; omega)).mono ?_
              rintro e w' ⟨rfl, x9, rfl⟩
              rw [HTC.out]
              refine hK _ _ (fun hkn => ⟨(by repeat (first | (with_reducible exact HT.out.blk) | (with_reducible apply blk_seq) | (with_reducible apply blk_draw) | (with_reducible apply blk_plus) | (with_reducible apply blk_alloc) | (with_reducible apply blk_drew) | (with_reducible refine blk_patch ?_ (by omega)) | exact HT.out.blk)), (by repeat (first | (with_reducible exact HKB.out) | (with_reducible apply blk_seq) | (with_reducible apply blk_draw) | (with_reducible apply blk_plus) | (with_reducible apply blk_alloc) | (with_reducible apply blk_drew) | (with_reducible refine blk_patch ?_ (by omega)) | exact HKB.out))⟩) ?_
              clear hK K
              refine wpPt_one rfl rfl (fun K hK => ?_)
              go_simp
              refine hK _ _ (fun hkn => absurd hkn (by decide)) ?_
              clear hK K
              refine NoPanic.normal ?_
              go_wp2_with (first | (go_at_call 89; refine (canFollow_any _ _ _ _ _ _ _ _ _ _ hs (by omega)).mono ?_; rintro e w' ⟨rfl, xf, rfl⟩) | (go_at_call 90; refine (advance_clear _ _ _ _ _ _ _ _ _ _ hs (by omega) hpc hpc2).mono ?_; rintro e w' ⟨rfl, xa, rfl⟩) | (at_builtin; refine wpList_append_at encI _ _ _ _ i0 _ 8 rfl rfl Tryz.underlying66 hi iz0 iz1 iz2 rfl (by decide) C ca cc (w.heap.size + 2) (T4r.oc (B := B) (o := o) (l := l) (m := m) (ps := (ps'.take b)) (base := (b : Int)) (last := (-1)) (pa := pa') (pc := pc') (da := da) (dc := dc) (D := D) (e := 1) (p := (p : Int) + n) (by repeat (first | (with_reducible exact HT2.out) | (with_reducible apply t4_seq) | (with_reducible apply T4r.plus) | (with_reducible apply T4r.alloc) | (with_reducible apply T4r.drew)))) rfl [(two l)] _ 0 1 (new_cells encI (two l) _ _ (by first | omega | rfl | (simp <;> omega) | (simp only [List.length_cons, List.length_nil, plus_size, World.size_alloc]; omega))) rfl (by first | omega | rfl | (simp <;> omega) | (simp only [List.length_cons, List.length_nil, plus_size, World.size_alloc]; omega)) (by first | omega | rfl | (simp <;> omega) | (simp only [List.length_cons, List.length_nil, plus_size, World.size_alloc]; omega)) (by simp <;> omega) ?_; intro A6 c6 w6 hw6 hg6 hx6; have HT6 := (T4r.grewC (B := B) (o := o) (l := l) (m := m) (ps := (ps'.take b)) (base := (b : Int)) (last := (-1)) (pa := pa') (pc := pc') (cc := cc) (C := C) (da := da) (dc := dc) (D := D) (e := 1) (p := (p : Int) + n) (by repeat (first | (with_reducible exact HT2.out) | (with_reducible apply t4_seq) | (with_reducible apply T4r.plus) | (with_reducible apply T4r.alloc) | (with_reducible apply T4r.drew))) hw6 hg6 hx6 1); simp only [List.length_append, List.length_singleton] at HT6; have hblk6 := T4r.grewC_blk (B := B) (lo := w.heap.size + 2) (o := o) (l := l) (m := m) (ps := (ps'.take b)) (base := (b : Int)) (last := (-1)) (pa := pa') (pc := pc') (cc := cc) (C := C) (da := da) (dc := dc) (D := D) (e := 1) (p := (p : Int) + n) (by repeat (first | (with_reducible exact HT2.out) | (with_reducible apply t4_seq) | (with_reducible apply T4r.plus) | (with_reducible apply T4r.alloc) | (with_reducible apply T4r.drew))) hg6; rw [hlt2] at HT6 hblk6; have HT6 := Lib.hid HT6; have hAlo6 := fun X hX => own_lo HT.out.oc X hX; have HRS6 := Lib.hid (blk_grew hg6 (by repeat (first | (with_reducible exact HRS2.out) | (with_reducible apply blk_seq) | (with_reducible apply blk_draw) | (with_reducible apply blk_plus) | (with_reducible apply blk_alloc) | (with_reducible apply blk_drew) | (with_reducible refine blk_patch ?_ (by omega)) | exact HRS2.out)) (fun X hX e => by have := hAlo6 X hX; omega)); have HKB6 := Lib.hid (blk_grew hg6 (by repeat (first | (with_reducible exact HKB2.out) | (with_reducible apply blk_seq) | (with_reducible apply blk_draw) | (with_reducible apply blk_plus) | (with_reducible apply blk_alloc) | (with_reducible apply blk_drew) | (with_reducible refine blk_patch ?_ (by omega)) | exact HKB2.out)) (fun X hX e => by have := hAlo6 X hX; omega)); have hbl6 := hg6.below (B := w.heap.size + 2) (by simp <;> omega) hAlo6; have HB6 := Lib.hid (HBk2.out.trans (Below.trans (b := _) (by repeat (first | exact Below.refl _ _ | refine below_plus ?_ (by first | omega | (simp <;> omega)) _ | refine Below.alloc ?_ (by first | omega | (simp <;> omega)) _ | refine below_patch ?_ (by omega) _ | refine Below.drew ?_)) (hbl6.mono (by omega)))); have z6 := hg6.size; simp at z6; have r6 := cell_of hblk6; have f6 := free_of hblk6; have s6 := fun i v => setCell_patch hblk6 i v; have q6 := cell_of HRS6.out; have g6 := free_of HRS6.out; have u6 := fun i v => setCell_patch HRS6.out i v; clear hw6 hg6 hx6 hbl6 hblk6 hAlo6))
              go_roundw
              case rel => exact ⟨ps'.take b, -1, pa', pc', A6, c6, C ++ [two l], da, dc, D, p + n, f, by rw [Int.natCast_add]; exact HT6.out, by simpa using HK.out.cleared, blk_patch HKB6.out (by omega), blk_patch HRS6.out (by omega), by simp; omega, hdl, by have := HBL.out; omega, by have := HBL.out; omega, HR1.out, below_patch HB6.out (by omega) _⟩
              case measure => rw [HT6.out.pos, HPO.out]; omega
          · have v4 : (c == two l) = false := by simp [hcl]
            have HOK := Lib.hid (can_okc t1 hcan hcl he)
            have hpos := any_len HK.out.ok (HK.out.last.imp (fun h => h.1) id) HOK.out
            have hal := any_bd HK.out HOK.out
            have zl : (bstr (anyW l ps' last' c)).size = (anyW l ps' last' c).length := bstr_size _
            have hf0 := bstr_first hpos
            have HF := Lib.hid hf0
            have HCL := Lib.hid hcl
            have HHE := Lib.hid he
            clear hf0 he hcl
            obtain ⟨y2, hy2⟩ : ∃ y2, bstr (anyW l ps' last' c) = y2 := ⟨_, rfl⟩
            have hyb : y2.data.toList = anyW l ps' last' c := by rw [← hy2, bytes_bstr]
            rw [hy2] at zl
            have hy0 : 0 < y2.size := by omega
            have HFY := Lib.hid (show ((y2[0]'hy0).toNat : Int) = hd (anyW l ps' last' c) by subst hy2; exact HF.out)
            have HYB := Lib.hid hyb
            have HY2 := Lib.hid hy2
            clear hyb hy2
            by_cases hdd : 2000 < sz + D.length + (anyW l ps' last' c).length
            · have v5 : decide (2000 < (sz : Int) + D.length + y2.size) = true := by simp; omega
              have HR1 := Lib.hid (show R = ⟨ps', last', C, D, 3, p + n⟩ by rw [← HRD.out, rdc_long HN2.out HNS.out HNC.out hcan HHE.out HCL.out hdd])
              go_wp2_with (go_at_call 58; refine (width_any _ _ _ _ _ _ _ _ _ HLM.out (by omega)).mono ?_; rintro e w' ⟨rfl, xc, rfl⟩; rw [HN.out])
              refine wp_region_pt 12 (fun w' => w'.heap[B]? = some (.cells #[.int .i64 o, .int .i64 l, .int .i64 m, .slice pa' ps'.length pc', .int .i64 b, .int .i64 last', .slice ca C.length cc, .slice da D.length dc, .int .i64 1, .int .i64 p] 71 (0, 0)) ∧ w'.heap[w.heap.size]? = some (.cells #[.int .i64 o, .int .i64 l, .int .i64 m, .slice a ps.length cap, .int .i64 b, .int .i64 last] 26 (0, 0))) (Plan.quiet 0 (Plan.quiet 1 (Plan.quiet 2 (Plan.quiet 3 (Plan.quiet 4 (Plan.quiet 5 (Plan.quiet 6 (Plan.quiet 7 (Plan.quiet 8 (Plan.quiet 9 (Plan.quiet 10 (Plan.one 11 (Plan.one 12 Plan.done))))))))))))) (by kernel_rfl) (by kernel_rfl) (⟨blk_drew (blk_plus HT.out.blk _), blk_drew (blk_plus HKB.out _)⟩) ?_
              refine wpPt_val rfl rfl ?_
              apply Exists.intro
              refine ⟨fun w' hS => ?_, ?_⟩
              focus (have rS := cell_of hS.1; have rT := cell_of hS.2; simp [go_sem, ↓IntWalk.iteOmega, rS, rT, hw9, hsl] <;> first | done | exact rfl | (rw [IntWalk.i64_in _ (by omega)]; exact rfl) | trace_state)
              refine wpPt_val rfl rfl ?_
              apply Exists.intro
              refine ⟨fun w' hS => ?_, ?_⟩
              focus (have rS := cell_of hS.1; have rT := cell_of hS.2; simp [go_sem, ↓IntWalk.iteOmega, rS, rT, hw9, hsl] <;> first | done | exact rfl | (rw [IntWalk.i64_in _ (by omega)]; exact rfl) | trace_state)
              refine wpPt_val rfl rfl ?_
              apply Exists.intro
              refine ⟨fun w' hS => ?_, ?_⟩
              focus (have rS := cell_of hS.1; have rT := cell_of hS.2; simp [go_sem, ↓IntWalk.iteOmega, rS, rT, hw9, hsl] <;> first | done | exact rfl | (rw [IntWalk.i64_in _ (by omega)]; exact rfl) | trace_state)
              refine wpPt_val rfl rfl ?_
              apply Exists.intro
              refine ⟨fun w' hS => ?_, ?_⟩
              focus (have rS := cell_of hS.1; have rT := cell_of hS.2; simp [go_sem, ↓IntWalk.iteOmega, rS, rT, hw9, hsl] <;> first | done | exact rfl | (rw [IntWalk.i64_in _ (by omega)]; exact rfl) | trace_state)
              refine wpPt_val rfl rfl ?_
              apply Exists.intro
              refine ⟨fun w' hS => ?_, ?_⟩
              focus (have rS := cell_of hS.1; have rT := cell_of hS.2; simp [go_sem, ↓IntWalk.iteOmega, rS, rT, hw9, hsl] <;> first | done | exact rfl | (rw [IntWalk.i64_in _ (by omega)]; exact rfl) | trace_state)
              refine wpPt_val rfl rfl ?_
              apply Exists.intro
              refine ⟨fun w' hS => ?_, ?_⟩
              focus (have rS := cell_of hS.1; have rT := cell_of hS.2; simp [go_sem, ↓IntWalk.iteOmega, rS, rT, hw9, hsl] <;> first | done | exact rfl | (rw [IntWalk.i64_in _ (by omega)]; exact rfl) | trace_state)
              refine wpPt_val rfl rfl ?_
              apply Exists.intro
              refine ⟨fun w' hS => ?_, ?_⟩
              focus (have rS := cell_of hS.1; have rT := cell_of hS.2; simp [go_sem, ↓IntWalk.iteOmega, rS, rT, hw9, hsl] <;> first | done | exact rfl | (rw [IntWalk.i64_in _ (by omega)]; exact rfl) | trace_state)
              refine wpPt_val rfl rfl ?_
              apply Exists.intro
              refine ⟨fun w' hS => ?_, ?_⟩
              focus (have rS := cell_of hS.1; have rT := cell_of hS.2; simp [go_sem, ↓IntWalk.iteOmega, rS, rT, hw9, hsl] <;> first | done | exact rfl | (rw [IntWalk.i64_in _ (by omega)]; exact rfl) | trace_state)
              refine wpPt_val rfl rfl ?_
              apply Exists.intro
              refine ⟨fun w' hS => ?_, ?_⟩
              focus (have rS := cell_of hS.1; have rT := cell_of hS.2; simp [go_sem, ↓IntWalk.iteOmega, rS, rT, hw9, hsl] <;> first | done | exact rfl | (rw [IntWalk.i64_in _ (by omega)]; exact rfl) | trace_state)
              refine wpPt_val rfl rfl ?_
              apply Exists.intro
              refine ⟨fun w' hS => ?_, ?_⟩
              focus (have rS := cell_of hS.1; have rT := cell_of hS.2; simp [go_sem, ↓IntWalk.iteOmega, rS, rT, hw9, hsl] <;> first | done | exact rfl | (rw [IntWalk.i64_in _ (by omega)]; exact rfl) | trace_state)
              refine wpPt_val rfl rfl ?_
              apply Exists.intro
              refine ⟨fun w' hS => ?_, ?_⟩
              focus (have rS := cell_of hS.1; have rT := cell_of hS.2; simp [go_sem, ↓IntWalk.iteOmega, rS, rT, hw9, hsl] <;> first | done | exact rfl | (rw [IntWalk.i64_in _ (by omega)]; exact rfl) | trace_state)
              refine wpPt_one rfl rfl (fun K hK => ?_)
              go_simp
              clear hw9
              refine (bitsNumber_any o t _ (by have := HTS.out; omega)).mono ?_
              rintro e w' ⟨rfl, x9, rfl⟩
              rw [HTC.out]
              refine hK _ _ (fun hkn => ⟨(by repeat (first | (with_reducible exact HT.out.blk) | (with_reducible apply blk_seq) | (with_reducible apply blk_draw) | (with_reducible apply blk_plus) | (with_reducible apply blk_alloc) | (with_reducible apply blk_drew) | (with_reducible refine blk_patch ?_ (by omega)) | exact HT.out.blk)), (by repeat (first | (with_reducible exact HKB.out) | (with_reducible apply blk_seq) | (with_reducible apply blk_draw) | (with_reducible apply blk_plus) | (with_reducible apply blk_alloc) | (with_reducible apply blk_drew) | (with_reducible refine blk_patch ?_ (by omega)) | exact HKB.out))⟩) ?_
              clear hK K
              refine wpPt_one rfl rfl (fun K hK => ?_)
              go_simp
              refine hK _ _ (fun hkn => absurd hkn (by decide)) ?_
              clear hK K
              refine NoPanic.normal ?_
              go_wp2_with (first | (go_at_call 89; refine (canFollow_any _ _ _ _ _ _ _ _ _ _ hs (by omega)).mono ?_; rintro e w' ⟨rfl, xf, rfl⟩) | (go_at_call 91; refine (wordText_any o l m pa' pc' ps' b last' c _ (by repeat (first | exact HT1.out.op.rd | apply rd_seq | apply Rd.plus | apply Rd.alloc | apply Rd.drew | apply Rd.drewN | refine rd_patch ?_ _ _ (by intro A hA; first | (cases hA; show _ ≠ _; omega) | (have := hal A hA; omega)))) HK.out HOK.out).mono ?_; rintro e w' ⟨rfl, x7, rfl⟩; rw [HY2.out]))
              refine bodyPost_ret (v := .agg #[.int .i64 o, .int .i64 l, .int .i64 m, .slice pa' (ps').length pc', .int .i64 b, .int .i64 (last'), .slice ca (C).length cc, .slice da (D).length dc, .int .i64 3, .int .i64 ((p : Int) + n)]) (by simp [results, Tryz.results46, go_sem, ↓IntWalk.iteOmega, hNB1, hbm]) rfl ?_
              rw [HR1.out]
              exact ret_t4 (((HT.out.turn 3 ((p : Int) + n)).low (n := w.heap.size + 1) (by omega) (by omega) _).plus _) (below_plus (below_patch (below_patch HBLW.out (by omega) _) (by omega) _) (by simp; omega) _) (by simp)
            · have v5 : decide (2000 < (sz : Int) + D.length + y2.size) = false := by simp; omega
              have HRC := Lib.hid (rdc_word (o := o) (b := b) (sz := sz) (ct := ct) (f := f) (C := C) (D := D) HN2.out HNS.out HNC.out hcan HHE.out HCL.out hdd)
              have HRS1 := Lib.hid (show (patch wr B (.cells #[.int .i64 o, .int .i64 l, .int .i64 m, .slice pa' ps'.length pc', .int .i64 b, .int .i64 last', .slice ca C.length cc, .slice da D.length dc, .int .i64 1, .int .i64 ((p : Int) + n)] 71)).heap[w.heap.size + 1]? = _ from blk_patch HRS.out (by omega))
              have HKB1 := Lib.hid (show (patch wr B (.cells #[.int .i64 o, .int .i64 l, .int .i64 m, .slice pa' ps'.length pc', .int .i64 b, .int .i64 last', .slice ca C.length cc, .slice da D.length dc, .int .i64 1, .int .i64 ((p : Int) + n)] 71)).heap[w.heap.size]? = _ from blk_patch HKB.out (by omega))
              have HBk1 := HB1
              by_cases hct2 : 3100 ≤ ct + (C.length + 1)
              · have v6 : decide (3100 ≤ (ct : Int) + ((C.length : Int) + 1)) = true := by simp; omega
                have HR1 := Lib.hid (show R = ⟨aftP l m ps' last' c, c, C ++ [c], D ++ anyW l ps' last' c, 3, p + n⟩ by rw [← HRD.out, HRC.out, if_pos hct2])
                go_wp2_with (go_at_call 58; refine (width_any _ _ _ _ _ _ _ _ _ HLM.out (by omega)).mono ?_; rintro e w' ⟨rfl, xc, rfl⟩; rw [HN.out])
                refine wp_region_pt 12 (fun w' => w'.heap[B]? = some (.cells #[.int .i64 o, .int .i64 l, .int .i64 m, .slice pa' ps'.length pc', .int .i64 b, .int .i64 last', .slice ca C.length cc, .slice da D.length dc, .int .i64 1, .int .i64 p] 71 (0, 0)) ∧ w'.heap[w.heap.size]? = some (.cells #[.int .i64 o, .int .i64 l, .int .i64 m, .slice a ps.length cap, .int .i64 b, .int .i64 last] 26 (0, 0))) (Plan.quiet 0 (Plan.quiet 1 (Plan.quiet 2 (Plan.quiet 3 (Plan.quiet 4 (Plan.quiet 5 (Plan.quiet 6 (Plan.quiet 7 (Plan.quiet 8 (Plan.quiet 9 (Plan.quiet 10 (Plan.one 11 (Plan.one 12 Plan.done))))))))))))) (by kernel_rfl) (by kernel_rfl) (⟨blk_drew (blk_plus HT.out.blk _), blk_drew (blk_plus HKB.out _)⟩) ?_
                refine wpPt_val rfl rfl ?_
                apply Exists.intro
                refine ⟨fun w' hS => ?_, ?_⟩
                focus (have rS := cell_of hS.1; have rT := cell_of hS.2; simp [go_sem, ↓IntWalk.iteOmega, rS, rT, hw9, hsl] <;> first | done | exact rfl | (rw [IntWalk.i64_in _ (by omega)]; exact rfl) | trace_state)
                refine wpPt_val rfl rfl ?_
                apply Exists.intro
                refine ⟨fun w' hS => ?_, ?_⟩
                focus (have rS := cell_of hS.1; have rT := cell_of hS.2; simp [go_sem, ↓IntWalk.iteOmega, rS, rT, hw9, hsl] <;> first | done | exact rfl | (rw [IntWalk.i64_in _ (by omega)]; exact rfl) | trace_state)
                refine wpPt_val rfl rfl ?_
                apply Exists.intro
                refine ⟨fun w' hS => ?_, ?_⟩
                focus (have rS := cell_of hS.1; have rT := cell_of hS.2; simp [go_sem, ↓IntWalk.iteOmega, rS, rT, hw9, hsl] <;> first | done | exact rfl | (rw [IntWalk.i64_in _ (by omega)]; exact rfl) | trace_state)
                refine wpPt_val rfl rfl ?_
                apply Exists.intro
                refine ⟨fun w' hS => ?_, ?_⟩
                focus (have rS := cell_of hS.1; have rT := cell_of hS.2; simp [go_sem, ↓IntWalk.iteOmega, rS, rT, hw9, hsl] <;> first | done | exact rfl | (rw [IntWalk.i64_in _ (by omega)]; exact rfl) | trace_state)
                refine wpPt_val rfl rfl ?_
                apply Exists.intro
                refine ⟨fun w' hS => ?_, ?_⟩
                focus (have rS := cell_of hS.1; have rT := cell_of hS.2; simp [go_sem, ↓IntWalk.iteOmega, rS, rT, hw9, hsl] <;> first | done | exact rfl | (rw [IntWalk.i64_in _ (by omega)]; exact rfl) | trace_state)
                refine wpPt_val rfl rfl ?_
                apply Exists.intro
                refine ⟨fun w' hS => ?_, ?_⟩
                focus (have rS := cell_of hS.1; have rT := cell_of hS.2; simp [go_sem, ↓IntWalk.iteOmega, rS, rT, hw9, hsl] <;> first | done | exact rfl | (rw [IntWalk.i64_in _ (by omega)]; exact rfl) | trace_state)
                refine wpPt_val rfl rfl ?_
                apply Exists.intro
                refine ⟨fun w' hS => ?_, ?_⟩
                focus (have rS := cell_of hS.1; have rT := cell_of hS.2; simp [go_sem, ↓IntWalk.iteOmega, rS, rT, hw9, hsl] <;> first | done | exact rfl | (rw [IntWalk.i64_in _ (by omega)]; exact rfl) | trace_state)
                refine wpPt_val rfl rfl ?_
                apply Exists.intro
                refine ⟨fun w' hS => ?_, ?_⟩
                focus (have rS := cell_of hS.1; have rT := cell_of hS.2; simp [go_sem, ↓IntWalk.iteOmega, rS, rT, hw9, hsl] <;> first | done | exact rfl | (rw [IntWalk.i64_in _ (by omega)]; exact rfl) | trace_state)
                refine wpPt_val rfl rfl ?_
                apply Exists.intro
                refine ⟨fun w' hS => ?_, ?_⟩
                focus (have rS := cell_of hS.1; have rT := cell_of hS.2; simp [go_sem, ↓IntWalk.iteOmega, rS, rT, hw9, hsl] <;> first | done | exact rfl | (rw [IntWalk.i64_in _ (by omega)]; exact rfl) | trace_state)
                refine wpPt_val rfl rfl ?_
                apply Exists.intro
                refine ⟨fun w' hS => ?_, ?_⟩
                focus (have rS := cell_of hS.1; have rT := cell_of hS.2; simp [go_sem, ↓IntWalk.iteOmega, rS, rT, hw9, hsl] <;> first | done | exact rfl | (rw [IntWalk.i64_in _ (by omega)]; exact rfl) | trace_state)
                refine wpPt_val rfl rfl ?_
                apply Exists.intro
                refine ⟨fun w' hS => ?_, ?_⟩
                focus (have rS := cell_of hS.1; have rT := cell_of hS.2; simp [go_sem, ↓IntWalk.iteOmega, rS, rT, hw9, hsl] <;> first | done | exact rfl | (rw [IntWalk.i64_in _ (by omega)]; exact rfl) | trace_state)
                refine wpPt_one rfl rfl (fun K hK => ?_)
                go_simp
                clear hw9
                refine (bitsNumber_any o t _ (by have := HTS.out; omega)).mono ?_
                rintro e w' ⟨rfl, x9, rfl⟩
                rw [HTC.out]
                refine hK _ _ (fun hkn => ⟨(by repeat (first | (with_reducible exact HT.out.blk) | (with_reducible apply blk_seq) | (with_reducible apply blk_draw) | (with_reducible apply blk_plus) | (with_reducible apply blk_alloc) | (with_reducible apply blk_drew) | (with_reducible refine blk_patch ?_ (by omega)) | exact HT.out.blk)), (by repeat (first | (with_reducible exact HKB.out) | (with_reducible apply blk_seq) | (with_reducible apply blk_draw) | (with_reducible apply blk_plus) | (with_reducible apply blk_alloc) | (with_reducible apply blk_drew) | (with_reducible refine blk_patch ?_ (by omega)) | exact HKB.out))⟩) ?_
                clear hK K
                refine wpPt_one rfl rfl (fun K hK => ?_)
                go_simp
                refine hK _ _ (fun hkn => absurd hkn (by decide)) ?_
                clear hK K
                refine NoPanic.normal ?_
                go_wp2_with (first | (go_at_call 89; refine (canFollow_any _ _ _ _ _ _ _ _ _ _ hs (by omega)).mono ?_; rintro e w' ⟨rfl, xf, rfl⟩) | (go_at_call 91; refine (wordText_any o l m pa' pc' ps' b last' c _ (by repeat (first | exact HT1.out.op.rd | apply rd_seq | apply Rd.plus | apply Rd.alloc | apply Rd.drew | apply Rd.drewN | refine rd_patch ?_ _ _ (by intro A hA; first | (cases hA; show _ ≠ _; omega) | (have := hal A hA; omega)))) HK.out HOK.out).mono ?_; rintro e w' ⟨rfl, x7, rfl⟩; rw [HY2.out]) | (at_builtin; refine wpList_append_str _ _ _ _ _ j0 rfl rfl Tryz.underlying34 Tryz.underlying9 hj jz0 jz1 jz2 D da dc (w.heap.size + 2) (T4r.od (B := B) (o := o) (l := l) (m := m) (ps := ps') (base := (b : Int)) (last := last') (pa := pa') (pc := pc') (ca := ca) (cc := cc) (C := C) (e := 1) (p := (p : Int) + n) (by repeat (first | (with_reducible exact HT1.out) | (with_reducible apply t4_seq) | (with_reducible apply T4r.plus) | (with_reducible apply T4r.alloc) | (with_reducible apply T4r.drew)))) rfl _ rfl (by omega) (by simp <;> omega) ?_; intro A7 c7 w7 hw7 hg7 hx7; rw [HYB.out] at hw7 ⊢; have HT7 := (T4r.grewD (B := B) (o := o) (l := l) (m := m) (ps := ps') (base := (b : Int)) (last := last') (pa := pa') (pc := pc') (ca := ca) (cc := cc) (C := C) (dc := dc) (D := D) (e := 1) (p := (p : Int) + n) (by repeat (first | (with_reducible exact HT1.out) | (with_reducible apply t4_seq) | (with_reducible apply T4r.plus) | (with_reducible apply T4r.alloc) | (with_reducible apply T4r.drew))) hw7 hg7 hx7); have hblk7 := T4r.grewD_blk (B := B) (lo := w.heap.size + 2) (o := o) (l := l) (m := m) (ps := ps') (base := (b : Int)) (last := last') (pa := pa') (pc := pc') (ca := ca) (cc := cc) (C := C) (dc := dc) (D := D) (e := 1) (p := (p : Int) + n) (by repeat (first | (with_reducible exact HT1.out) | (with_reducible apply t4_seq) | (with_reducible apply T4r.plus) | (with_reducible apply T4r.alloc) | (with_reducible apply T4r.drew))) hg7; simp only [List.length_append] at HT7; have HT7 := Lib.hid HT7; have hAlo7 := fun X hX => own_lo HT.out.od X hX; have HRS7 := Lib.hid (blk_grew hg7 (by repeat (first | (with_reducible exact HRS1.out) | (with_reducible apply blk_seq) | (with_reducible apply blk_draw) | (with_reducible apply blk_plus) | (with_reducible apply blk_alloc) | (with_reducible apply blk_drew) | (with_reducible refine blk_patch ?_ (by omega)) | exact HRS1.out)) (fun X hX e => by have := hAlo7 X hX; omega)); have HKB7 := Lib.hid (blk_grew hg7 (by repeat (first | (with_reducible exact HKB1.out) | (with_reducible apply blk_seq) | (with_reducible apply blk_draw) | (with_reducible apply blk_plus) | (with_reducible apply blk_alloc) | (with_reducible apply blk_drew) | (with_reducible refine blk_patch ?_ (by omega)) | exact HKB1.out)) (fun X hX e => by have := hAlo7 X hX; omega)); have hbl7 := hg7.below (B := w.heap.size + 2) (by simp <;> omega) hAlo7; have HB7 := Lib.hid (HBk1.out.trans (Below.trans (b := _) (by repeat (first | exact Below.refl _ _ | refine below_plus ?_ (by first | omega | (simp <;> omega)) _ | refine Below.alloc ?_ (by first | omega | (simp <;> omega)) _ | refine below_patch ?_ (by omega) _ | refine Below.drew ?_)) (hbl7.mono (by omega)))); have z7 := hg7.size; simp at z7; have r7 := cell_of hblk7; have f7 := free_of hblk7; have s7 := fun i v => setCell_patch hblk7 i v; clear hw7 hg7 hx7 hbl7 hblk7 hAlo7))
                refine wp_region_pt 6 (fun w' => w'.heap[B]? = some (.cells #[.int .i64 o, .int .i64 l, .int .i64 m, .slice pa' ps'.length pc', .int .i64 b, .int .i64 last', .slice ca C.length cc, .slice A7 (D.length + (anyW l ps' last' c).length) c7, .int .i64 1, .int .i64 ((p : Int) + n)] 71 (0, 0))) (Plan.quiet 0 (Plan.quiet 1 (Plan.quiet 2 (Plan.quiet 3 (Plan.quiet 4 (Plan.one 5 (Plan.one 6 (Plan.one 7 Plan.done)))))))) (by kernel_rfl) (by kernel_rfl) ((by have h9 := HT7.out.blk; simp only [List.length_append] at h9; exact h9)) ?_
                refine wpPt_val rfl rfl ?_
                apply Exists.intro
                refine ⟨fun w' hS => ?_, ?_⟩
                focus (have rS := cell_of hS; simp [go_sem, ↓IntWalk.iteOmega, rS, hy0] <;> first | done | exact rfl | (rw [IntWalk.i64_in _ (by omega)]; exact rfl) | trace_state)
                refine wpPt_val rfl rfl ?_
                apply Exists.intro
                refine ⟨fun w' hS => ?_, ?_⟩
                focus (have rS := cell_of hS; simp [go_sem, ↓IntWalk.iteOmega, rS, hy0] <;> first | done | exact rfl | (rw [IntWalk.i64_in _ (by omega)]; exact rfl) | trace_state)
                refine wpPt_val rfl rfl ?_
                apply Exists.intro
                refine ⟨fun w' hS => ?_, ?_⟩
                focus (have rS := cell_of hS; simp [go_sem, ↓IntWalk.iteOmega, rS, hy0] <;> first | done | exact rfl | (rw [IntWalk.i64_in _ (by omega)]; exact rfl) | trace_state)
                refine wpPt_val rfl rfl ?_
                apply Exists.intro
                refine ⟨fun w' hS => ?_, ?_⟩
                focus (have rS := cell_of hS; simp [go_sem, ↓IntWalk.iteOmega, rS, hy0] <;> first | done | exact rfl | (rw [IntWalk.i64_in _ (by omega)]; exact rfl) | trace_state)
                refine wpPt_val rfl rfl ?_
                apply Exists.intro
                refine ⟨fun w' hS => ?_, ?_⟩
                focus (have rS := cell_of hS; simp [go_sem, ↓IntWalk.iteOmega, rS, hy0] <;> first | done | exact rfl | (rw [IntWalk.i64_in _ (by omega)]; exact rfl) | trace_state)
                refine wpPt_one rfl rfl (fun K hK => ?_)
                go_simp
                refine (advance_code o l m pa' pc' ps' b last' c _ (w.heap.size + 2) _ HT7.out.op.drew (by simp <;> omega) hs hlen' HCL.out HFY.out).mono ?_
                rintro e w8 ⟨A8, c8, rfl, hown8, hg8, hwi8⟩
                have HT8 := T4r.adv (last' := c) HT7.out.drew hown8 hg8 hwi8
                have hblk8 := T4r.adv_blk HT7.out.drew hg8
                simp only [List.length_append] at HT8 hblk8
                have HT8 := Lib.hid HT8
                have hAlo8 := fun X hX => own_lo HT.out.op X hX
                have hbl8 := hg8.below (B := w.heap.size + 2) (by simp <;> omega) hAlo8
                have HBp := below_patch (b := B) HB7.out (by omega) (.cells #[.int .i64 o, .int .i64 l, .int .i64 m, .slice pa' ps'.length pc', .int .i64 b, .int .i64 last', .slice ca C.length cc, .slice A7 (D.length + (anyW l ps' last' c).length) c7, .int .i64 1, .int .i64 ((p : Int) + n)] 71)
                have HBk8 := Lib.hid (below_patch (b := B) (HBp.trans (Below.trans (b := (patch w7 B (.cells #[.int .i64 o, .int .i64 l, .int .i64 m, .slice pa' ps'.length pc', .int .i64 b, .int .i64 last', .slice ca C.length cc, .slice A7 (D.length + (anyW l ps' last' c).length) c7, .int .i64 1, .int .i64 ((p : Int) + n)] 71)).drew) (by repeat (first | exact Below.refl _ _ | refine below_plus ?_ (by first | omega | (simp <;> omega)) _ | refine Below.alloc ?_ (by first | omega | (simp <;> omega)) _ | refine below_patch ?_ (by omega) _ | refine Below.drew ?_)) (hbl8.mono (by omega)))) (by omega) (.cells #[.int .i64 o, .int .i64 l, .int .i64 m, .slice A8 (aftP l m ps' last' c).length c8, .int .i64 b, .int .i64 c, .slice ca C.length cc, .slice A7 (D.length + (anyW l ps' last' c).length) c7, .int .i64 1, .int .i64 ((p : Int) + n)] 71))
                have HRS8 := Lib.hid (show (patch w8 B (.cells #[.int .i64 o, .int .i64 l, .int .i64 m, .slice A8 (aftP l m ps' last' c).length c8, .int .i64 b, .int .i64 c, .slice ca C.length cc, .slice A7 (D.length + (anyW l ps' last' c).length) c7, .int .i64 1, .int .i64 ((p : Int) + n)] 71)).heap[w.heap.size + 1]? = _ from blk_patch (blk_grew hg8 (blk_drew (blk_patch HRS7.out (by omega))) (fun X hX e => by have := hAlo8 X hX; omega)) (by omega))
                have HKB8 := Lib.hid (show (patch w8 B (.cells #[.int .i64 o, .int .i64 l, .int .i64 m, .slice A8 (aftP l m ps' last' c).length c8, .int .i64 b, .int .i64 c, .slice ca C.length cc, .slice A7 (D.length + (anyW l ps' last' c).length) c7, .int .i64 1, .int .i64 ((p : Int) + n)] 71)).heap[w.heap.size]? = _ from blk_patch (blk_grew hg8 (blk_drew (blk_patch HKB7.out (by omega))) (fun X hX e => by have := hAlo8 X hX; omega)) (by omega))
                have z8 := hg8.size
                simp at z8
                have f8 := free_of hblk8
                have r8 := cell_of hblk8
                have s8 := fun i v => setCell_patch hblk8 i v
                have hB8 : B < w8.heap.size := by omega
                clear hblk8 hAlo8 hbl8 HBp
                refine hK _ _ (fun hkn => (by have h9 := T4r.adv_blk HT7.out.drew hg8; simp only [List.length_append] at h9; exact h9)) ?_
                clear hK K
                refine wpPt_one rfl rfl (fun K hK => ?_)
                go_simp
                refine hK _ _ (fun hkn => absurd hkn (by decide)) ?_
                clear hK K
                refine wpPt_one rfl rfl (fun K hK => ?_)
                go_simp
                refine hK _ _ (fun hkn => absurd hkn (by decide)) ?_
                clear hK K
                refine NoPanic.normal ?_
                go_wp2_with (at_builtin; refine wpList_append_at encI _ _ _ _ i0 _ 8 rfl rfl Tryz.underlying66 hi iz0 iz1 iz2 rfl (by decide) C ca cc (w.heap.size + 2) (T4r.oc (B := B) (o := o) (l := l) (m := m) (ps := (aftP l m ps' last' c)) (base := (b : Int)) (last := c) (pa := A8) (pc := c8) (da := A7) (dc := c7) (D := (D ++ anyW l ps' last' c)) (e := 1) (p := (p : Int) + n) (by repeat (first | (with_reducible exact HT8.out) | (with_reducible apply t4_seq) | (with_reducible apply T4r.plus) | (with_reducible apply T4r.alloc) | (with_reducible apply T4r.drew)))) rfl [c] _ 0 1 (new_cells encI c _ _ (by first | omega | rfl | (simp <;> omega) | (simp only [List.length_cons, List.length_nil, plus_size, World.size_alloc]; omega))) rfl (by first | omega | rfl | (simp <;> omega) | (simp only [List.length_cons, List.length_nil, plus_size, World.size_alloc]; omega)) (by first | omega | rfl | (simp <;> omega) | (simp only [List.length_cons, List.length_nil, plus_size, World.size_alloc]; omega)) (by simp <;> omega) ?_; intro A6 c6 w6 hw6 hg6 hx6; have HT6 := (T4r.grewC (B := B) (o := o) (l := l) (m := m) (ps := (aftP l m ps' last' c)) (base := (b : Int)) (last := c) (pa := A8) (pc := c8) (cc := cc) (C := C) (da := A7) (dc := c7) (D := (D ++ anyW l ps' last' c)) (e := 1) (p := (p : Int) + n) (by repeat (first | (with_reducible exact HT8.out) | (with_reducible apply t4_seq) | (with_reducible apply T4r.plus) | (with_reducible apply T4r.alloc) | (with_reducible apply T4r.drew))) hw6 hg6 hx6 3); simp only [List.length_append, List.length_singleton] at HT6; have hblk6 := T4r.grewC_blk (B := B) (lo := w.heap.size + 2) (o := o) (l := l) (m := m) (ps := (aftP l m ps' last' c)) (base := (b : Int)) (last := c) (pa := A8) (pc := c8) (cc := cc) (C := C) (da := A7) (dc := c7) (D := (D ++ anyW l ps' last' c)) (e := 1) (p := (p : Int) + n) (by repeat (first | (with_reducible exact HT8.out) | (with_reducible apply t4_seq) | (with_reducible apply T4r.plus) | (with_reducible apply T4r.alloc) | (with_reducible apply T4r.drew))) hg6; simp only [List.length_append] at hblk6; have HT6 := Lib.hid HT6; have hAlo6 := fun X hX => own_lo HT.out.oc X hX; have HRS6 := Lib.hid (blk_grew hg6 (by repeat (first | (with_reducible exact HRS8.out) | (with_reducible apply blk_seq) | (with_reducible apply blk_draw) | (with_reducible apply blk_plus) | (with_reducible apply blk_alloc) | (with_reducible apply blk_drew) | (with_reducible refine blk_patch ?_ (by omega)) | exact HRS8.out)) (fun X hX e => by have := hAlo6 X hX; omega)); have HKB6 := Lib.hid (blk_grew hg6 (by repeat (first | (with_reducible exact HKB8.out) | (with_reducible apply blk_seq) | (with_reducible apply blk_draw) | (with_reducible apply blk_plus) | (with_reducible apply blk_alloc) | (with_reducible apply blk_drew) | (with_reducible refine blk_patch ?_ (by omega)) | exact HKB8.out)) (fun X hX e => by have := hAlo6 X hX; omega)); have hbl6 := hg6.below (B := w.heap.size + 2) (by simp <;> omega) hAlo6; have HB6 := Lib.hid (HBk8.out.trans (Below.trans (b := _) (by repeat (first | exact Below.refl _ _ | refine below_plus ?_ (by first | omega | (simp <;> omega)) _ | refine Below.alloc ?_ (by first | omega | (simp <;> omega)) _ | refine below_patch ?_ (by omega) _ | refine Below.drew ?_)) (hbl6.mono (by omega)))); have z6 := hg6.size; simp at z6; have r6 := cell_of hblk6; have f6 := free_of hblk6; have s6 := fun i v => setCell_patch hblk6 i v; have q6 := cell_of HRS6.out; have g6 := free_of HRS6.out; have u6 := fun i v => setCell_patch HRS6.out i v; clear hw6 hg6 hx6 hbl6 hblk6 hAlo6)
                refine bodyPost_ret (v := .agg #[.int .i64 o, .int .i64 l, .int .i64 m, .slice A8 (aftP l m ps' last' c).length c8, .int .i64 b, .int .i64 (c), .slice A6 (C ++ [c]).length c6, .slice A7 (D ++ anyW l ps' last' c).length c7, .int .i64 3, .int .i64 ((p : Int) + n)]) (by simp [results, Tryz.results46, go_sem, ↓IntWalk.iteOmega, hNB1, hbm]) rfl ?_
                rw [HR1.out]
                exact ret_t4 (HT6.out.low (n := w.heap.size + 1) (by omega) (by omega) _) (below_patch (below_patch HB6.out (by omega) _) (by omega) _) (by simp)
              · have v6 : decide (3100 ≤ (ct : Int) + ((C.length : Int) + 1)) = false := by simp; omega
                have HR1 := Lib.hid (show rdc o l m b sz ct bits f (aftP l m ps' last' c) c (p + n) (C ++ [c]) (D ++ anyW l ps' last' c) = R by rw [← HRD.out, HRC.out, if_neg hct2])
                go_wp2_with (go_at_call 58; refine (width_any _ _ _ _ _ _ _ _ _ HLM.out (by omega)).mono ?_; rintro e w' ⟨rfl, xc, rfl⟩; rw [HN.out])
                refine wp_region_pt 12 (fun w' => w'.heap[B]? = some (.cells #[.int .i64 o, .int .i64 l, .int .i64 m, .slice pa' ps'.length pc', .int .i64 b, .int .i64 last', .slice ca C.length cc, .slice da D.length dc, .int .i64 1, .int .i64 p] 71 (0, 0)) ∧ w'.heap[w.heap.size]? = some (.cells #[.int .i64 o, .int .i64 l, .int .i64 m, .slice a ps.length cap, .int .i64 b, .int .i64 last] 26 (0, 0))) (Plan.quiet 0 (Plan.quiet 1 (Plan.quiet 2 (Plan.quiet 3 (Plan.quiet 4 (Plan.quiet 5 (Plan.quiet 6 (Plan.quiet 7 (Plan.quiet 8 (Plan.quiet 9 (Plan.quiet 10 (Plan.one 11 (Plan.one 12 Plan.done))))))))))))) (by kernel_rfl) (by kernel_rfl) (⟨blk_drew (blk_plus HT.out.blk _), blk_drew (blk_plus HKB.out _)⟩) ?_
                refine wpPt_val rfl rfl ?_
                apply Exists.intro
                refine ⟨fun w' hS => ?_, ?_⟩
                focus (have rS := cell_of hS.1; have rT := cell_of hS.2; simp [go_sem, ↓IntWalk.iteOmega, rS, rT, hw9, hsl] <;> first | done | exact rfl | (rw [IntWalk.i64_in _ (by omega)]; exact rfl) | trace_state)
                refine wpPt_val rfl rfl ?_
                apply Exists.intro
                refine ⟨fun w' hS => ?_, ?_⟩
                focus (have rS := cell_of hS.1; have rT := cell_of hS.2; simp [go_sem, ↓IntWalk.iteOmega, rS, rT, hw9, hsl] <;> first | done | exact rfl | (rw [IntWalk.i64_in _ (by omega)]; exact rfl) | trace_state)
                refine wpPt_val rfl rfl ?_
                apply Exists.intro
                refine ⟨fun w' hS => ?_, ?_⟩
                focus (have rS := cell_of hS.1; have rT := cell_of hS.2; simp [go_sem, ↓IntWalk.iteOmega, rS, rT, hw9, hsl] <;> first | done | exact rfl | (rw [IntWalk.i64_in _ (by omega)]; exact rfl) | trace_state)
                refine wpPt_val rfl rfl ?_
                apply Exists.intro
                refine ⟨fun w' hS => ?_, ?_⟩
                focus (have rS := cell_of hS.1; have rT := cell_of hS.2; simp [go_sem, ↓IntWalk.iteOmega, rS, rT, hw9, hsl] <;> first | done | exact rfl | (rw [IntWalk.i64_in _ (by omega)]; exact rfl) | trace_state)
                refine wpPt_val rfl rfl ?_
                apply Exists.intro
                refine ⟨fun w' hS => ?_, ?_⟩
                focus (have rS := cell_of hS.1; have rT := cell_of hS.2; simp [go_sem, ↓IntWalk.iteOmega, rS, rT, hw9, hsl] <;> first | done | exact rfl | (rw [IntWalk.i64_in _ (by omega)]; exact rfl) | trace_state)
                refine wpPt_val rfl rfl ?_
                apply Exists.intro
                refine ⟨fun w' hS => ?_, ?_⟩
                focus (have rS := cell_of hS.1; have rT := cell_of hS.2; simp [go_sem, ↓IntWalk.iteOmega, rS, rT, hw9, hsl] <;> first | done | exact rfl | (rw [IntWalk.i64_in _ (by omega)]; exact rfl) | trace_state)
                refine wpPt_val rfl rfl ?_
                apply Exists.intro
                refine ⟨fun w' hS => ?_, ?_⟩
                focus (have rS := cell_of hS.1; have rT := cell_of hS.2; simp [go_sem, ↓IntWalk.iteOmega, rS, rT, hw9, hsl] <;> first | done | exact rfl | (rw [IntWalk.i64_in _ (by omega)]; exact rfl) | trace_state)
                refine wpPt_val rfl rfl ?_
                apply Exists.intro
                refine ⟨fun w' hS => ?_, ?_⟩
                focus (have rS := cell_of hS.1; have rT := cell_of hS.2; simp [go_sem, ↓IntWalk.iteOmega, rS, rT, hw9, hsl] <;> first | done | exact rfl | (rw [IntWalk.i64_in _ (by omega)]; exact rfl) | trace_state)
                refine wpPt_val rfl rfl ?_
                apply Exists.intro
                refine ⟨fun w' hS => ?_, ?_⟩
                focus (have rS := cell_of hS.1; have rT := cell_of hS.2; simp [go_sem, ↓IntWalk.iteOmega, rS, rT, hw9, hsl] <;> first | done | exact rfl | (rw [IntWalk.i64_in _ (by omega)]; exact rfl) | trace_state)
                refine wpPt_val rfl rfl ?_
                apply Exists.intro
                refine ⟨fun w' hS => ?_, ?_⟩
                focus (have rS := cell_of hS.1; have rT := cell_of hS.2; simp [go_sem, ↓IntWalk.iteOmega, rS, rT, hw9, hsl] <;> first | done | exact rfl | (rw [IntWalk.i64_in _ (by omega)]; exact rfl) | trace_state)
                refine wpPt_val rfl rfl ?_
                apply Exists.intro
                refine ⟨fun w' hS => ?_, ?_⟩
                focus (have rS := cell_of hS.1; have rT := cell_of hS.2; simp [go_sem, ↓IntWalk.iteOmega, rS, rT, hw9, hsl] <;> first | done | exact rfl | (rw [IntWalk.i64_in _ (by omega)]; exact rfl) | trace_state)
                refine wpPt_one rfl rfl (fun K hK => ?_)
                go_simp
                clear hw9
                refine (bitsNumber_any o t _ (by have := HTS.out; omega)).mono ?_
                rintro e w' ⟨rfl, x9, rfl⟩
                rw [HTC.out]
                refine hK _ _ (fun hkn => ⟨(by repeat (first | (with_reducible exact HT.out.blk) | (with_reducible apply blk_seq) | (with_reducible apply blk_draw) | (with_reducible apply blk_plus) | (with_reducible apply blk_alloc) | (with_reducible apply blk_drew) | (with_reducible refine blk_patch ?_ (by omega)) | exact HT.out.blk)), (by repeat (first | (with_reducible exact HKB.out) | (with_reducible apply blk_seq) | (with_reducible apply blk_draw) | (with_reducible apply blk_plus) | (with_reducible apply blk_alloc) | (with_reducible apply blk_drew) | (with_reducible refine blk_patch ?_ (by omega)) | exact HKB.out))⟩) ?_
                clear hK K
                refine wpPt_one rfl rfl (fun K hK => ?_)
                go_simp
                refine hK _ _ (fun hkn => absurd hkn (by decide)) ?_
                clear hK K
                refine NoPanic.normal ?_
                go_wp2_with (first | (go_at_call 89; refine (canFollow_any _ _ _ _ _ _ _ _ _ _ hs (by omega)).mono ?_; rintro e w' ⟨rfl, xf, rfl⟩) | (go_at_call 91; refine (wordText_any o l m pa' pc' ps' b last' c _ (by repeat (first | exact HT1.out.op.rd | apply rd_seq | apply Rd.plus | apply Rd.alloc | apply Rd.drew | apply Rd.drewN | refine rd_patch ?_ _ _ (by intro A hA; first | (cases hA; show _ ≠ _; omega) | (have := hal A hA; omega)))) HK.out HOK.out).mono ?_; rintro e w' ⟨rfl, x7, rfl⟩; rw [HY2.out]) | (at_builtin; refine wpList_append_str _ _ _ _ _ j0 rfl rfl Tryz.underlying34 Tryz.underlying9 hj jz0 jz1 jz2 D da dc (w.heap.size + 2) (T4r.od (B := B) (o := o) (l := l) (m := m) (ps := ps') (base := (b : Int)) (last := last') (pa := pa') (pc := pc') (ca := ca) (cc := cc) (C := C) (e := 1) (p := (p : Int) + n) (by repeat (first | (with_reducible exact HT1.out) | (with_reducible apply t4_seq) | (with_reducible apply T4r.plus) | (with_reducible apply T4r.alloc) | (with_reducible apply T4r.drew)))) rfl _ rfl (by omega) (by simp <;> omega) ?_; intro A7 c7 w7 hw7 hg7 hx7; rw [HYB.out] at hw7 ⊢; have HT7 := (T4r.grewD (B := B) (o := o) (l := l) (m := m) (ps := ps') (base := (b : Int)) (last := last') (pa := pa') (pc := pc') (ca := ca) (cc := cc) (C := C) (dc := dc) (D := D) (e := 1) (p := (p : Int) + n) (by repeat (first | (with_reducible exact HT1.out) | (with_reducible apply t4_seq) | (with_reducible apply T4r.plus) | (with_reducible apply T4r.alloc) | (with_reducible apply T4r.drew))) hw7 hg7 hx7); have hblk7 := T4r.grewD_blk (B := B) (lo := w.heap.size + 2) (o := o) (l := l) (m := m) (ps := ps') (base := (b : Int)) (last := last') (pa := pa') (pc := pc') (ca := ca) (cc := cc) (C := C) (dc := dc) (D := D) (e := 1) (p := (p : Int) + n) (by repeat (first | (with_reducible exact HT1.out) | (with_reducible apply t4_seq) | (with_reducible apply T4r.plus) | (with_reducible apply T4r.alloc) | (with_reducible apply T4r.drew))) hg7; simp only [List.length_append] at HT7; have HT7 := Lib.hid HT7; have hAlo7 := fun X hX => own_lo HT.out.od X hX; have HRS7 := Lib.hid (blk_grew hg7 (by repeat (first | (with_reducible exact HRS1.out) | (with_reducible apply blk_seq) | (with_reducible apply blk_draw) | (with_reducible apply blk_plus) | (with_reducible apply blk_alloc) | (with_reducible apply blk_drew) | (with_reducible refine blk_patch ?_ (by omega)) | exact HRS1.out)) (fun X hX e => by have := hAlo7 X hX; omega)); have HKB7 := Lib.hid (blk_grew hg7 (by repeat (first | (with_reducible exact HKB1.out) | (with_reducible apply blk_seq) | (with_reducible apply blk_draw) | (with_reducible apply blk_plus) | (with_reducible apply blk_alloc) | (with_reducible apply blk_drew) | (with_reducible refine blk_patch ?_ (by omega)) | exact HKB1.out)) (fun X hX e => by have := hAlo7 X hX; omega)); have hbl7 := hg7.below (B := w.heap.size + 2) (by simp <;> omega) hAlo7; have HB7 := Lib.hid (HBk1.out.trans (Below.trans (b := _) (by repeat (first | exact Below.refl _ _ | refine below_plus ?_ (by first | omega | (simp <;> omega)) _ | refine Below.alloc ?_ (by first | omega | (simp <;> omega)) _ | refine below_patch ?_ (by omega) _ | refine Below.drew ?_)) (hbl7.mono (by omega)))); have z7 := hg7.size; simp at z7; have r7 := cell_of hblk7; have f7 := free_of hblk7; have s7 := fun i v => setCell_patch hblk7 i v; clear hw7 hg7 hx7 hbl7 hblk7 hAlo7))
                refine wp_region_pt 6 (fun w' => w'.heap[B]? = some (.cells #[.int .i64 o, .int .i64 l, .int .i64 m, .slice pa' ps'.length pc', .int .i64 b, .int .i64 last', .slice ca C.length cc, .slice A7 (D.length + (anyW l ps' last' c).length) c7, .int .i64 1, .int .i64 ((p : Int) + n)] 71 (0, 0))) (Plan.quiet 0 (Plan.quiet 1 (Plan.quiet 2 (Plan.quiet 3 (Plan.quiet 4 (Plan.one 5 (Plan.one 6 (Plan.one 7 Plan.done)))))))) (by kernel_rfl) (by kernel_rfl) ((by have h9 := HT7.out.blk; simp only [List.length_append] at h9; exact h9)) ?_
                refine wpPt_val rfl rfl ?_
                apply Exists.intro
                refine ⟨fun w' hS => ?_, ?_⟩
                focus (have rS := cell_of hS; simp [go_sem, ↓IntWalk.iteOmega, rS, hy0] <;> first | done | exact rfl | (rw [IntWalk.i64_in _ (by omega)]; exact rfl) | trace_state)
                refine wpPt_val rfl rfl ?_
                apply Exists.intro
                refine ⟨fun w' hS => ?_, ?_⟩
                focus (have rS := cell_of hS; simp [go_sem, ↓IntWalk.iteOmega, rS, hy0] <;> first | done | exact rfl | (rw [IntWalk.i64_in _ (by omega)]; exact rfl) | trace_state)
                refine wpPt_val rfl rfl ?_
                apply Exists.intro
                refine ⟨fun w' hS => ?_, ?_⟩
                focus (have rS := cell_of hS; simp [go_sem, ↓IntWalk.iteOmega, rS, hy0] <;> first | done | exact rfl | (rw [IntWalk.i64_in _ (by omega)]; exact rfl) | trace_state)
                refine wpPt_val rfl rfl ?_
                apply Exists.intro
                refine ⟨fun w' hS => ?_, ?_⟩
                focus (have rS := cell_of hS; simp [go_sem, ↓IntWalk.iteOmega, rS, hy0] <;> first | done | exact rfl | (rw [IntWalk.i64_in _ (by omega)]; exact rfl) | trace_state)
                refine wpPt_val rfl rfl ?_
                apply Exists.intro
                refine ⟨fun w' hS => ?_, ?_⟩
                focus (have rS := cell_of hS; simp [go_sem, ↓IntWalk.iteOmega, rS, hy0] <;> first | done | exact rfl | (rw [IntWalk.i64_in _ (by omega)]; exact rfl) | trace_state)
                refine wpPt_one rfl rfl (fun K hK => ?_)
                go_simp
                refine (advance_code o l m pa' pc' ps' b last' c _ (w.heap.size + 2) _ HT7.out.op.drew (by simp <;> omega) hs hlen' HCL.out HFY.out).mono ?_
                rintro e w8 ⟨A8, c8, rfl, hown8, hg8, hwi8⟩
                have HT8 := T4r.adv (last' := c) HT7.out.drew hown8 hg8 hwi8
                have hblk8 := T4r.adv_blk HT7.out.drew hg8
                simp only [List.length_append] at HT8 hblk8
                have HT8 := Lib.hid HT8
                have hAlo8 := fun X hX => own_lo HT.out.op X hX
                have hbl8 := hg8.below (B := w.heap.size + 2) (by simp <;> omega) hAlo8
                have HBp := below_patch (b := B) HB7.out (by omega) (.cells #[.int .i64 o, .int .i64 l, .int .i64 m, .slice pa' ps'.length pc', .int .i64 b, .int .i64 last', .slice ca C.length cc, .slice A7 (D.length + (anyW l ps' last' c).length) c7, .int .i64 1, .int .i64 ((p : Int) + n)] 71)
                have HBk8 := Lib.hid (below_patch (b := B) (HBp.trans (Below.trans (b := (patch w7 B (.cells #[.int .i64 o, .int .i64 l, .int .i64 m, .slice pa' ps'.length pc', .int .i64 b, .int .i64 last', .slice ca C.length cc, .slice A7 (D.length + (anyW l ps' last' c).length) c7, .int .i64 1, .int .i64 ((p : Int) + n)] 71)).drew) (by repeat (first | exact Below.refl _ _ | refine below_plus ?_ (by first | omega | (simp <;> omega)) _ | refine Below.alloc ?_ (by first | omega | (simp <;> omega)) _ | refine below_patch ?_ (by omega) _ | refine Below.drew ?_)) (hbl8.mono (by omega)))) (by omega) (.cells #[.int .i64 o, .int .i64 l, .int .i64 m, .slice A8 (aftP l m ps' last' c).length c8, .int .i64 b, .int .i64 c, .slice ca C.length cc, .slice A7 (D.length + (anyW l ps' last' c).length) c7, .int .i64 1, .int .i64 ((p : Int) + n)] 71))
                have HRS8 := Lib.hid (show (patch w8 B (.cells #[.int .i64 o, .int .i64 l, .int .i64 m, .slice A8 (aftP l m ps' last' c).length c8, .int .i64 b, .int .i64 c, .slice ca C.length cc, .slice A7 (D.length + (anyW l ps' last' c).length) c7, .int .i64 1, .int .i64 ((p : Int) + n)] 71)).heap[w.heap.size + 1]? = _ from blk_patch (blk_grew hg8 (blk_drew (blk_patch HRS7.out (by omega))) (fun X hX e => by have := hAlo8 X hX; omega)) (by omega))
                have HKB8 := Lib.hid (show (patch w8 B (.cells #[.int .i64 o, .int .i64 l, .int .i64 m, .slice A8 (aftP l m ps' last' c).length c8, .int .i64 b, .int .i64 c, .slice ca C.length cc, .slice A7 (D.length + (anyW l ps' last' c).length) c7, .int .i64 1, .int .i64 ((p : Int) + n)] 71)).heap[w.heap.size]? = _ from blk_patch (blk_grew hg8 (blk_drew (blk_patch HKB7.out (by omega))) (fun X hX e => by have := hAlo8 X hX; omega)) (by omega))
                have z8 := hg8.size
                simp at z8
                have f8 := free_of hblk8
                have r8 := cell_of hblk8
                have s8 := fun i v => setCell_patch hblk8 i v
                have hB8 : B < w8.heap.size := by omega
                clear hblk8 hAlo8 hbl8 HBp
                refine hK _ _ (fun hkn => (by have h9 := T4r.adv_blk HT7.out.drew hg8; simp only [List.length_append] at h9; exact h9)) ?_
                clear hK K
                refine wpPt_one rfl rfl (fun K hK => ?_)
                go_simp
                refine hK _ _ (fun hkn => absurd hkn (by decide)) ?_
                clear hK K
                refine wpPt_one rfl rfl (fun K hK => ?_)
                go_simp
                refine hK _ _ (fun hkn => absurd hkn (by decide)) ?_
                clear hK K
                refine NoPanic.normal ?_
                go_wp2_with (at_builtin; refine wpList_append_at encI _ _ _ _ i0 _ 8 rfl rfl Tryz.underlying66 hi iz0 iz1 iz2 rfl (by decide) C ca cc (w.heap.size + 2) (T4r.oc (B := B) (o := o) (l := l) (m := m) (ps := (aftP l m ps' last' c)) (base := (b : Int)) (last := c) (pa := A8) (pc := c8) (da := A7) (dc := c7) (D := (D ++ anyW l ps' last' c)) (e := 1) (p := (p : Int) + n) (by repeat (first | (with_reducible exact HT8.out) | (with_reducible apply t4_seq) | (with_reducible apply T4r.plus) | (with_reducible apply T4r.alloc) | (with_reducible apply T4r.drew)))) rfl [c] _ 0 1 (new_cells encI c _ _ (by first | omega | rfl | (simp <;> omega) | (simp only [List.length_cons, List.length_nil, plus_size, World.size_alloc]; omega))) rfl (by first | omega | rfl | (simp <;> omega) | (simp only [List.length_cons, List.length_nil, plus_size, World.size_alloc]; omega)) (by first | omega | rfl | (simp <;> omega) | (simp only [List.length_cons, List.length_nil, plus_size, World.size_alloc]; omega)) (by simp <;> omega) ?_; intro A6 c6 w6 hw6 hg6 hx6; have HT6 := (T4r.grewC (B := B) (o := o) (l := l) (m := m) (ps := (aftP l m ps' last' c)) (base := (b : Int)) (last := c) (pa := A8) (pc := c8) (cc := cc) (C := C) (da := A7) (dc := c7) (D := (D ++ anyW l ps' last' c)) (e := 1) (p := (p : Int) + n) (by repeat (first | (with_reducible exact HT8.out) | (with_reducible apply t4_seq) | (with_reducible apply T4r.plus) | (with_reducible apply T4r.alloc) | (with_reducible apply T4r.drew))) hw6 hg6 hx6 1); simp only [List.length_append, List.length_singleton] at HT6; have hblk6 := T4r.grewC_blk (B := B) (lo := w.heap.size + 2) (o := o) (l := l) (m := m) (ps := (aftP l m ps' last' c)) (base := (b : Int)) (last := c) (pa := A8) (pc := c8) (cc := cc) (C := C) (da := A7) (dc := c7) (D := (D ++ anyW l ps' last' c)) (e := 1) (p := (p : Int) + n) (by repeat (first | (with_reducible exact HT8.out) | (with_reducible apply t4_seq) | (with_reducible apply T4r.plus) | (with_reducible apply T4r.alloc) | (with_reducible apply T4r.drew))) hg6; simp only [List.length_append] at hblk6; have HT6 := Lib.hid HT6; have hAlo6 := fun X hX => own_lo HT.out.oc X hX; have HRS6 := Lib.hid (blk_grew hg6 (by repeat (first | (with_reducible exact HRS8.out) | (with_reducible apply blk_seq) | (with_reducible apply blk_draw) | (with_reducible apply blk_plus) | (with_reducible apply blk_alloc) | (with_reducible apply blk_drew) | (with_reducible refine blk_patch ?_ (by omega)) | exact HRS8.out)) (fun X hX e => by have := hAlo6 X hX; omega)); have HKB6 := Lib.hid (blk_grew hg6 (by repeat (first | (with_reducible exact HKB8.out) | (with_reducible apply blk_seq) | (with_reducible apply blk_draw) | (with_reducible apply blk_plus) | (with_reducible apply blk_alloc) | (with_reducible apply blk_drew) | (with_reducible refine blk_patch ?_ (by omega)) | exact HKB8.out)) (fun X hX e => by have := hAlo6 X hX; omega)); have hbl6 := hg6.below (B := w.heap.size + 2) (by simp <;> omega) hAlo6; have HB6 := Lib.hid (HBk8.out.trans (Below.trans (b := _) (by repeat (first | exact Below.refl _ _ | refine below_plus ?_ (by first | omega | (simp <;> omega)) _ | refine Below.alloc ?_ (by first | omega | (simp <;> omega)) _ | refine below_patch ?_ (by omega) _ | refine Below.drew ?_)) (hbl6.mono (by omega)))); have z6 := hg6.size; simp at z6; have r6 := cell_of hblk6; have f6 := free_of hblk6; have s6 := fun i v => setCell_patch hblk6 i v; have q6 := cell_of HRS6.out; have g6 := free_of HRS6.out; have u6 := fun i v => setCell_patch HRS6.out i v; clear hw6 hg6 hx6 hbl6 hblk6 hAlo6)
                go_roundw
                case rel => exact ⟨aftP l m ps' last' c, c, A8, c8, A6, c6, C ++ [c], A7, c7, D ++ anyW l ps' last' c, p + n, f, by rw [Int.natCast_add]; exact HT6.out, HK.out.after HOK.out, blk_patch HKB6.out (by omega), blk_patch HRS6.out (by omega), by simp; omega, by rw [List.length_append]; omega, by have := HBL.out; omega, by have := HBL.out; omega, HR1.out, below_patch HB6.out (by omega) _⟩
                case measure => rw [HT6.out.pos, HPO.out]; omega

end Go.Proofs.YtmddcbebaijjkaaGreatDoor
