/- The walk of impl.walkCodes: the widths and the data of codes that follow one after the other. -/
import Derived.Test.YtibfkfinghcpaaaWkp
import Derived.Test.YtibfkfinghcpaaaAps
import Derived.Test.YtibfkfinghcpaaaWri
namespace Go.Proofs.Ytibfkfinghcpaaa
open Go.RowKit
set_option linter.unusedVariables false
set_option linter.unusedSimpArgs false

/-- what walkCodes leaves -/
def RetWk (w : World) (R : Option (List Int × List UInt8)) (e : Ending) (w' : World) : Prop :=
  match R with
  | none => e = .returned (.tuple #[.slice none 0 0, .string ⟨#[]⟩, .bool false]) ∧ ∃ x, w' = plus w x
  | some (W, D) => ∃ a c, e = .returned (.tuple #[.slice a W.length c, .string (bstr D), .bool true]) ∧ Own encI 3 w' a c W w.heap.size ∧ ∃ x, w' = plus w x

theorem any_bd {o l m : Int} {base : Int} {ps : List Pr} {last c : Int} (h : KV o l m ps base last) (hc : Okc l m ps.length last c) : (anyW l ps last c).length ≤ 2003 := by
  have hlen := kv_len (kvb_iff.2 h)
  rcases hc with hc | ⟨hg, rfl⟩
  · rw [any_hw hc]; have := W_len hc; omega
  · have hl : hw l ps.length last = true := by
      rcases h.last with ⟨rfl, _⟩ | h
      · exact absurd rfl (grB_iff.1 hg).1
      · exact h
    rw [any_nw, List.length_append, List.length_take]
    have := W_len hl
    omega

/-- the state of the loop -/
def WSt (o l m : Int) (b : Nat) (is : List Int) (R : Option (List Int × List UInt8)) (w0 : World) (k : Nat) (wa : Option Addr) (wn wc : Nat) (da : Option Addr) (dn dc : Nat) (wr : World) : Prop :=
  ∃ (ps : List Pr) (last : Int) (pa : Option Addr) (pc : Nat) (W : List Int) (D : List UInt8), wn = W.length ∧ dn = D.length ∧ T3r wr w0.heap.size o l m ps (b : Int) last pa pc wa wc W da dc D ∧ KV o l m ps (b : Int) last ∧
    k ≤ is.length ∧ W.length ≤ k ∧ D.length ≤ 2000 ∧ wlk l m b (is.drop k) ps last W D = R ∧ Below w0.heap.size w0 wr

set_option maxRecDepth 100000 in
set_option maxHeartbeats 4000000 in
theorem walkCodes_yes (o l m : Int) (a : Option Addr) (cap : Nat) (ps : List Pr) (base last : Int) (ia : Option Addr) (icap : Nat) (is : List Int) (w : World) (hr : RdP w a cap ps) (hri : Rd encI w ia icap is) (hk : kvb o l m ps base last = true) (hil : is.length ≤ 3100) (b : Nat) (hb : base = b) (R : Option (List Int × List UInt8)) (hR : wlk l m b is ps last [] [] = R) :
    Calls Try.prog 73 #[.agg #[.int .i64 o, .int .i64 l, .int .i64 m, .slice a ps.length cap, .int .i64 base, .int .i64 last], .slice ia is.length icap] w (RetWk w R) := by
  subst hb
  have hkv := kvb_iff.1 hk
  have hs := hkv.s
  have hlen := kv_len hk
  have HV := Lib.hid hkv
  have HRR := Lib.hid hR
  have HRI := Lib.hid hri
  obtain ⟨i0, hi, iz0, iz1, iz2⟩ := info_parts infoInt
  obtain ⟨j0, hj, jz0, jz1, jz2⟩ := info_parts infoByte
  clear hkv hR hri
  go_enter Try.func73, Try.ntmps73
  go_wp2_with (first | (go_at_call 89; refine (KnownValid_any _ _ _ _ _ _ _ _ _ (by repeat (first | exact hr | apply rd_seq | apply Rd.plus | apply Rd.alloc | apply Rd.drew | apply Rd.drewN | refine rd_patch ?_ _ _ (by intro A hA; first | (cases hA; show _ ≠ _; omega) | (have := hal A hA; omega))))).mono ?_; rintro e w' ⟨rfl, xc, rfl⟩) | fail)
  refine (copyKnown_any _ _ _ _ _ ps _ _ _ (by repeat (first | exact hr | apply rd_seq | apply Rd.plus | apply Rd.alloc | apply Rd.drew | apply Rd.drewN | refine rd_patch ?_ _ _ (by intro A hA; first | (cases hA; show _ ≠ _; omega) | (have := hal A hA; omega)))) (by omega)).mono ?_
  rintro e w' ⟨pa, pc, rfl, hown, x1, rfl⟩
  try simp only [plus_plus] at hown
  have HO := Lib.hid hown
  clear hown
  go_wp2_with fail
  refine wp_region_pt 7 (fun w' => ∃ y, w' = plus _ y) (Plan.quiet 0 (Plan.quiet 1 (Plan.quiet 3 (Plan.quiet 4 (Plan.one 2 (Plan.one 5 (Plan.quiet 6 (Plan.one 7 Plan.done)))))))) (by kernel_rfl) (by kernel_rfl) (⟨_, drew_is_plus _⟩) ?_
  refine wpPt_val rfl rfl ?_
  apply Exists.intro
  refine ⟨fun w' hS => ?_, ?_⟩
  focus (obtain ⟨y3, rfl⟩ := hS; simp [go_sem, ↓IntWalk.iteOmega] <;> first | done | exact rfl | (rw [IntWalk.i64_in _ (by omega)]; exact rfl) | trace_state)
  refine wpPt_val rfl rfl ?_
  apply Exists.intro
  refine ⟨fun w' hS => ?_, ?_⟩
  focus (obtain ⟨y3, rfl⟩ := hS; simp [go_sem, ↓IntWalk.iteOmega] <;> first | done | exact rfl | (rw [IntWalk.i64_in _ (by omega)]; exact rfl) | trace_state)
  refine wpPt_val rfl rfl ?_
  apply Exists.intro
  refine ⟨fun w' hS => ?_, ?_⟩
  focus (obtain ⟨y3, rfl⟩ := hS; simp [go_sem, ↓IntWalk.iteOmega] <;> first | done | exact rfl | (rw [IntWalk.i64_in _ (by omega)]; exact rfl) | trace_state)
  refine wpPt_val rfl rfl ?_
  apply Exists.intro
  refine ⟨fun w' hS => ?_, ?_⟩
  focus (obtain ⟨y3, rfl⟩ := hS; simp [go_sem, ↓IntWalk.iteOmega] <;> first | done | exact rfl | (rw [IntWalk.i64_in _ (by omega)]; exact rfl) | trace_state)
  refine wpPt_one rfl rfl (fun K hK => ?_)
  go_simp
  refine (ClearCode_yes _ _ _ hs _).mono ?_
  rintro e w' ⟨rfl, x2, rfl⟩
  refine hK _ _ (fun hkn => (by repeat (first | exact More.refl _ | (with_reducible apply more_seq) | (with_reducible apply more_draw) | apply More.plus | apply More.alloc | apply More.drew))) ?_
  clear hK K
  refine wpPt_one rfl rfl (fun K hK => ?_)
  go_simp
  refine (EndCode_yes _ _ _ hs _).mono ?_
  rintro e w' ⟨rfl, x3, rfl⟩
  refine hK _ _ (fun hkn => (by repeat (first | exact More.refl _ | (with_reducible apply more_seq) | (with_reducible apply more_draw) | apply More.plus | apply More.alloc | apply More.drew))) ?_
  clear hK K
  refine wpPt_val rfl rfl ?_
  apply Exists.intro
  refine ⟨fun w' hS => ?_, ?_⟩
  focus (obtain ⟨y3, rfl⟩ := hS; simp [go_sem, ↓IntWalk.iteOmega] <;> first | done | exact rfl | (rw [IntWalk.i64_in _ (by omega)]; exact rfl) | trace_state)
  refine wpPt_one rfl rfl (fun K hK => ?_)
  go_simp
  refine hK _ _ (fun hkn => absurd hkn (by decide)) ?_
  clear hK K
  refine NoPanic.normal ?_
  go_wp2_with fail
  go_loopw [9, 10, 32] (fun p q z wr => ∃ (k : Nat) (wa : Option Addr) (wn wc : Nat) (da : Option Addr) (dn dc : Nat), p = .slice wa wn wc ∧ q = .slice da dn dc ∧ z = .int .i64 k ∧ WSt o l m b is R w k wa wn wc da dn dc wr) (fun _ _ z _ => is.length - (intOf z).toNat)
  case atStart =>
    refine ⟨0, none, 0, 0, none, 0, 0, rfl, rfl, rfl, ps, last, pa, pc, [], [], rfl, rfl, ⟨?_, ?_, .inl ⟨rfl, rfl, rfl⟩, .inl ⟨rfl, rfl, rfl⟩, fun X hX => by simp at hX, fun X hX => by simp at hX, fun X hX => by simp at hX⟩, HV.out, by omega, by simp, by simp, by rw [List.drop_zero]; exact HRR.out, ?_⟩
    · exact blk_plus (push_new _ _ _ rfl) _
    · exact (by repeat (first | exact (own_swap HO.out (by simp) (by simp <;> omega)).lower (by simp <;> omega) | (with_reducible apply own_seq) | (with_reducible apply own_draw)))
    · exact (by repeat (first | exact Below.refl _ _ | refine below_plus ?_ (by first | omega | (simp <;> omega)) _ | refine Below.alloc ?_ (by first | omega | (simp <;> omega)) _ | refine below_patch ?_ (by omega) _ | refine Below.drew ?_))
  case round =>
    obtain ⟨k, wa, wn, wc, da, dn, dc, rfl, rfl, rfl, ps', last', pa', pc', W, D, rfl, rfl, ht3, hkv, hk1, hwl, hdl, hwk, hbl⟩ := hrel
    have HT := Lib.hid ht3
    have HK := Lib.hid hkv
    have HWK := Lib.hid hwk
    have HBL := Lib.hid hbl
    have hlim := hkv.lim
    obtain ⟨_, _, _, _, t1, t2, t3, t4⟩ := hlim.bds
    have hlen' := kv_len (kvb_iff.2 hkv)
    have hb1' := hkv.b1
    have hlast := hlim.last
    have hgt := gt_bd hlim
    have HLM := Lib.hid hlim
    have hsz := ht3.B_lt
    have rk := cell_of ht3.blk
    obtain ⟨r1, r2, r3⟩ := rdI_open (rd_under HRI.out hbl)
    have hpc := ht3.op.rd.1
    have hpc2 := ht3.op.rd.2.1
    have hwAlt := fun X hX => (own_lt ht3.ow X hX).2
    clear ht3 hkv hwk hbl hlim
    rcases dec (k < is.length) with ⟨hlt, v1⟩ | ⟨hlt, v1⟩
    · obtain ⟨c, hc⟩ : ∃ c, is[k]? = some c := ⟨_, List.getElem?_eq_getElem hlt⟩
      rcases r3 with rfl | ⟨bg, off, rfl, hbg, hcells⟩
      · exact absurd hlt (by omega)
      have c1 := hcells k c hc
      have HDK := Lib.hid (show is.drop k = c :: is.drop (k + 1) by rw [List.drop_eq_getElem_cons hlt]; congr 1; rw [List.getElem?_eq_getElem hlt] at hc; exact Option.some.inj hc)
      clear hc hcells
      cases hcan : canB l m ps'.length last' c
      · have hR : R = none := by
          have := HWK.out
          rw [HDK.out, wlk_bad] at this
          · exact this.symm
          · intro e; subst e; have : canB l m ps'.length last' (two l) = true := canB_iff.2 ⟨by omega, by unfold gt nw; split <;> omega⟩; rw [this] at hcan; cases hcan
          · intro e; subst e; have : canB l m ps'.length last' (two l + 1) = true := canB_iff.2 ⟨by omega, by unfold gt nw; split <;> omega⟩; rw [this] at hcan; cases hcan
          · intro h; rw [okc_can t1 h.1] at hcan; cases hcan
        subst hR
        go_wp2_with (go_at_call 122; refine (canFollow_any _ _ _ _ _ _ _ _ _ _ hs (by omega)).mono ?_; rintro e w' ⟨rfl, xc, rfl⟩)
        exact bodyPost_ret (v := .tuple #[.slice none 0 0, .string ⟨#[]⟩, .bool false]) (by simp [results, Try.results73, go_sem]) rfl ⟨rfl, below_more (by repeat (first | (with_reducible exact HBL.out) | refine below_plus ?_ (by first | omega | (simp <;> omega)) _ | refine Below.alloc ?_ (by first | omega | (simp <;> omega)) _ | refine below_patch ?_ (by omega) _ | refine Below.drew ?_))⟩
      · by_cases he : c = two l + 1
        · subst he
          by_cases hl : k + 1 < is.length
          · have hR : R = none := by
              have := HWK.out
              rw [HDK.out, wlk_end, if_neg (by intro e; have := congrArg List.length e; rw [List.length_drop, List.length_nil] at this; omega)] at this
              exact this.symm
            subst hR
            have v2 : decide ((k : Int) < (is.length : Int) - 1) = true := by simp; omega
            go_wp2_with (go_at_call 122; refine (canFollow_any _ _ _ _ _ _ _ _ _ _ hs (by omega)).mono ?_; rintro e w' ⟨rfl, xc, rfl⟩)
            exact bodyPost_ret (v := .tuple #[.slice none 0 0, .string ⟨#[]⟩, .bool false]) (by simp [results, Try.results73, go_sem]) rfl ⟨rfl, below_more (by repeat (first | (with_reducible exact HBL.out) | refine below_plus ?_ (by first | omega | (simp <;> omega)) _ | refine Below.alloc ?_ (by first | omega | (simp <;> omega)) _ | refine below_patch ?_ (by omega) _ | refine Below.drew ?_))⟩
          · have hnil : is.drop (k + 1) = [] := List.eq_nil_of_length_eq_zero (by rw [List.length_drop]; omega)
            have HR2 := Lib.hid (show wlk l m b (is.drop (k + 1)) ps' last' (W ++ [wd l m ps'.length last']) D = R by have := HWK.out; rw [HDK.out, wlk_end, if_pos hnil] at this; rw [hnil, wlk_nil]; exact this)
            clear hnil
            have v2 : decide ((k : Int) < (is.length : Int) - 1) = false := by simp; omega
            go_wp2_with (first | (go_at_call 122; refine (canFollow_any _ _ _ _ _ _ _ _ _ _ hs (by omega)).mono ?_; rintro e w' ⟨rfl, xc, rfl⟩) | (go_at_call 91; refine (width_any _ _ _ _ _ _ _ _ _ HLM.out (by omega)).mono ?_; rintro e w' ⟨rfl, xc, rfl⟩) | (at_builtin; refine wpList_append_at encI _ _ _ _ i0 _ 8 rfl rfl Try.underlying30 hi iz0 iz1 iz2 rfl (by decide) W wa wc (w.heap.size + 1) (by repeat (first | (with_reducible exact HT.out.ow) | (with_reducible apply own_seq) | (with_reducible apply own_draw) | (with_reducible apply Own.plus) | (with_reducible apply Own.alloc) | (with_reducible apply Own.drew) | (with_reducible apply Own.drewN))) rfl [wd l m ps'.length last'] _ 0 1 (new_cells encI (wd l m ps'.length last') _ _ (by first | omega | rfl | (simp <;> omega) | (simp only [List.length_cons, List.length_nil, plus_size, World.size_alloc]; omega))) rfl (by first | omega | rfl | (simp <;> omega) | (simp only [List.length_cons, List.length_nil, plus_size, World.size_alloc]; omega)) (by first | omega | rfl | (simp <;> omega) | (simp only [List.length_cons, List.length_nil, plus_size, World.size_alloc]; omega)) (by simp <;> omega) ?_; intro A6 c6 w6 hw6 hg6 hx6; have HT6 := Lib.hid (T3r.grewI (o := o) (l := l) (m := m) (ps := ps') (base := (b : Int)) (last := last') (pa := pa') (pc := pc') (W := W) (D := D) (da := da) (dc := dc) (by repeat (first | (with_reducible exact HT.out) | (with_reducible apply t3_seq) | (with_reducible apply T3r.plus) | (with_reducible apply T3r.alloc) | (with_reducible apply T3r.drew))) hw6 hg6 hx6); have hbl6 := hg6.below (B := w.heap.size + 1) (by simp <;> omega) (fun X hX => own_lo HT.out.ow X hX); have HB6 := Lib.hid (HBL.out.trans (Below.trans (b := _) (by repeat (first | exact Below.refl _ _ | refine below_plus ?_ (by first | omega | (simp <;> omega)) _ | refine Below.alloc ?_ (by first | omega | (simp <;> omega)) _ | refine below_patch ?_ (by omega) _ | refine Below.drew ?_)) (hbl6.mono (by omega)))); have z6 := hg6.size; simp at z6; have r6 := cell_of HT6.out.blk; have f6 := free_of HT6.out.blk; have s6 := fun v => setCell_patch HT6.out.blk 0 v; have hB6 := HT6.out.B_lt; clear hw6 hg6 hx6 hbl6))
            go_roundw
            case rel => exact ⟨k + 1, A6, _, c6, da, _, dc, rfl, rfl, by go_num, ps', last', pa', pc', W ++ [wd l m ps'.length last'], D, by simp, rfl, HT6.out, HK.out, by omega, by simp; omega, hdl, HR2.out, HB6.out⟩
            case measure => simp [intOf]; omega
        · have v3 : (c == two l + 1) = false := by simp [he]
          by_cases hcl : c = two l
          · subst hcl
            have HR2 := Lib.hid (show wlk l m b (is.drop (k + 1)) (ps'.take b) (-1) (W ++ [wd l m ps'.length last']) D = R by have := HWK.out; rw [HDK.out, wlk_clear] at this; exact this)
            go_wp2_with (first | (go_at_call 122; refine (canFollow_any _ _ _ _ _ _ _ _ _ _ hs (by omega)).mono ?_; rintro e w' ⟨rfl, xc, rfl⟩) | (go_at_call 91; refine (width_any _ _ _ _ _ _ _ _ _ HLM.out (by omega)).mono ?_; rintro e w' ⟨rfl, xc, rfl⟩) | (go_at_call 123; refine (advance_clear _ _ _ _ _ _ _ _ _ _ hs (by omega) hpc hpc2).mono ?_; rintro e w' ⟨rfl, xc, rfl⟩) | (at_builtin; refine wpList_append_at encI _ _ _ _ i0 _ 8 rfl rfl Try.underlying30 hi iz0 iz1 iz2 rfl (by decide) W wa wc (w.heap.size + 1) (by repeat (first | (with_reducible exact HT.out.ow) | (with_reducible apply own_seq) | (with_reducible apply own_draw) | (with_reducible apply Own.plus) | (with_reducible apply Own.alloc) | (with_reducible apply Own.drew) | (with_reducible apply Own.drewN))) rfl [wd l m ps'.length last'] _ 0 1 (new_cells encI (wd l m ps'.length last') _ _ (by first | omega | rfl | (simp <;> omega) | (simp only [List.length_cons, List.length_nil, plus_size, World.size_alloc]; omega))) rfl (by first | omega | rfl | (simp <;> omega) | (simp only [List.length_cons, List.length_nil, plus_size, World.size_alloc]; omega)) (by first | omega | rfl | (simp <;> omega) | (simp only [List.length_cons, List.length_nil, plus_size, World.size_alloc]; omega)) (by simp <;> omega) ?_; intro A6 c6 w6 hw6 hg6 hx6; have HT6 := Lib.hid (T3r.grewI (o := o) (l := l) (m := m) (ps := ps') (base := (b : Int)) (last := last') (pa := pa') (pc := pc') (W := W) (D := D) (da := da) (dc := dc) (by repeat (first | (with_reducible exact HT.out) | (with_reducible apply t3_seq) | (with_reducible apply T3r.plus) | (with_reducible apply T3r.alloc) | (with_reducible apply T3r.drew))) hw6 hg6 hx6); have hbl6 := hg6.below (B := w.heap.size + 1) (by simp <;> omega) (fun X hX => own_lo HT.out.ow X hX); have HB6 := Lib.hid (HBL.out.trans (Below.trans (b := _) (by repeat (first | exact Below.refl _ _ | refine below_plus ?_ (by first | omega | (simp <;> omega)) _ | refine Below.alloc ?_ (by first | omega | (simp <;> omega)) _ | refine below_patch ?_ (by omega) _ | refine Below.drew ?_)) (hbl6.mono (by omega)))); have z6 := hg6.size; simp at z6; have r6 := cell_of HT6.out.blk; have f6 := free_of HT6.out.blk; have s6 := fun v => setCell_patch HT6.out.blk 0 v; have hB6 := HT6.out.B_lt; clear hw6 hg6 hx6 hbl6))
            go_roundw
            case rel => exact ⟨k + 1, A6, _, c6, da, _, dc, rfl, rfl, by go_num, ps'.take b, -1, pa', pc', W ++ [wd l m ps'.length last'], D, by simp, rfl, T3r.clear HT6.out (by omega), by simpa using HK.out.cleared, by omega, by simp; omega, hdl, HR2.out, below_plus (below_patch HB6.out (Nat.le_refl _) _) (by simp; omega) _⟩
            case measure => simp [intOf]; omega
          · have v4 : (c == two l) = false := by simp [hcl]
            have hok := can_okc t1 hcan hcl he
            have HOK := Lib.hid hok
            have hpos := any_len HK.out.ok (HK.out.last.imp (fun h => h.1) id) hok
            have hal := any_bd HK.out hok
            have zl : (bstr (anyW l ps' last' c)).size = (anyW l ps' last' c).length := bstr_size _
            have hf := bstr_first hpos
            have HF := Lib.hid hf
            have HCL := Lib.hid hcl
            have HHE := Lib.hid he
            clear hok hf he hcl
            by_cases hdd : D.length + (anyW l ps' last' c).length ≤ 2000
            · have HR2 := Lib.hid (show wlk l m b (is.drop (k + 1)) (aftP l m ps' last' c) c (W ++ [wd l m ps'.length last']) (D ++ anyW l ps' last' c) = R by have := HWK.out; rw [HDK.out, wlk_word HOK.out hdd] at this; exact this)
              obtain ⟨y2, hy2⟩ : ∃ y2, bstr (anyW l ps' last' c) = y2 := ⟨_, rfl⟩
              have hyb : y2.data.toList = anyW l ps' last' c := by rw [← hy2, bytes_bstr]
              rw [hy2] at zl
              have hy0 : 0 < y2.size := by omega
              have hfy : ((y2[0]'hy0).toNat : Int) = hd (anyW l ps' last' c) := by subst hy2; exact HF.out
              have HFY := Lib.hid hfy
              have HYB := Lib.hid hyb
              have HY2 := Lib.hid hy2
              clear hfy
              have v5 : decide (2000 < D.length + y2.size) = false := by simp; omega
              clear hyb hy2
              go_wp2_with (first | (go_at_call 122; refine (canFollow_any _ _ _ _ _ _ _ _ _ _ hs (by omega)).mono ?_; rintro e w' ⟨rfl, xc, rfl⟩) | (go_at_call 91; refine (width_any _ _ _ _ _ _ _ _ _ HLM.out (by omega)).mono ?_; rintro e w' ⟨rfl, xc, rfl⟩) | (go_at_call 124; refine (wordText_any o l m pa' pc' ps' b last' c _ (by repeat (first | exact HT6.out.op.rd | apply rd_seq | apply Rd.plus | apply Rd.alloc | apply Rd.drew | apply Rd.drewN | refine rd_patch ?_ _ _ (by intro A hA; first | (cases hA; show _ ≠ _; omega) | (have := hal A hA; omega)))) HK.out HOK.out).mono ?_; rintro e w' ⟨rfl, x7, rfl⟩; rw [HY2.out]) | (at_builtin; refine wpList_append_at encI _ _ _ _ i0 _ 8 rfl rfl Try.underlying30 hi iz0 iz1 iz2 rfl (by decide) W wa wc (w.heap.size + 1) (by repeat (first | (with_reducible exact HT.out.ow) | (with_reducible apply own_seq) | (with_reducible apply own_draw) | (with_reducible apply Own.plus) | (with_reducible apply Own.alloc) | (with_reducible apply Own.drew) | (with_reducible apply Own.drewN))) rfl [wd l m ps'.length last'] _ 0 1 (new_cells encI (wd l m ps'.length last') _ _ (by first | omega | rfl | (simp <;> omega) | (simp only [List.length_cons, List.length_nil, plus_size, World.size_alloc]; omega))) rfl (by first | omega | rfl | (simp <;> omega) | (simp only [List.length_cons, List.length_nil, plus_size, World.size_alloc]; omega)) (by first | omega | rfl | (simp <;> omega) | (simp only [List.length_cons, List.length_nil, plus_size, World.size_alloc]; omega)) (by simp <;> omega) ?_; intro A6 c6 w6 hw6 hg6 hx6; have HT6 := Lib.hid (T3r.grewI (o := o) (l := l) (m := m) (ps := ps') (base := (b : Int)) (last := last') (pa := pa') (pc := pc') (W := W) (D := D) (da := da) (dc := dc) (by repeat (first | (with_reducible exact HT.out) | (with_reducible apply t3_seq) | (with_reducible apply T3r.plus) | (with_reducible apply T3r.alloc) | (with_reducible apply T3r.drew))) hw6 hg6 hx6); have hbl6 := hg6.below (B := w.heap.size + 1) (by simp <;> omega) (fun X hX => own_lo HT.out.ow X hX); have HB6 := Lib.hid (HBL.out.trans (Below.trans (b := _) (by repeat (first | exact Below.refl _ _ | refine below_plus ?_ (by first | omega | (simp <;> omega)) _ | refine Below.alloc ?_ (by first | omega | (simp <;> omega)) _ | refine below_patch ?_ (by omega) _ | refine Below.drew ?_)) (hbl6.mono (by omega)))); have z6 := hg6.size; simp at z6; have r6 := cell_of HT6.out.blk; have f6 := free_of HT6.out.blk; have s6 := fun v => setCell_patch HT6.out.blk 0 v; have hB6 := HT6.out.B_lt; clear hw6 hg6 hx6 hbl6) | (at_builtin; refine wpList_append_str _ _ _ _ _ j0 rfl rfl Try.underlying22 Try.underlying9 hj jz0 jz1 jz2 D da dc (w.heap.size + 1) (by repeat (first | (with_reducible exact HT6.out.od) | (with_reducible apply own_seq) | (with_reducible apply own_draw) | (with_reducible apply Own.plus) | (with_reducible apply Own.alloc) | (with_reducible apply Own.drew) | (with_reducible apply Own.drewN))) rfl _ rfl (by omega) (by simp <;> omega) ?_; intro A7 c7 w7 hw7 hg7 hx7; have HT7 := Lib.hid (T3r.grewB (o := o) (l := l) (m := m) (ps := ps') (base := (b : Int)) (last := last') (pa := pa') (pc := pc') (W := W ++ [wd l m ps'.length last']) (D := D) (wa := A6) (wc := c6) (by repeat (first | (with_reducible exact HT6.out) | (with_reducible apply t3_seq) | (with_reducible apply T3r.plus) | (with_reducible apply T3r.alloc) | (with_reducible apply T3r.drew))) hw7 hg7 hx7); have hbl7 := hg7.below (B := w.heap.size + 1) (by simp <;> omega) (fun X hX => own_lo HT6.out.od X hX); have HB7 := Lib.hid (HB6.out.trans (Below.trans (b := _) (by repeat (first | exact Below.refl _ _ | refine below_plus ?_ (by first | omega | (simp <;> omega)) _ | refine Below.alloc ?_ (by first | omega | (simp <;> omega)) _ | refine below_patch ?_ (by omega) _ | refine Below.drew ?_)) (hbl7.mono (by omega)))); have z7 := hg7.size; simp at z7; have r7 := cell_of HT7.out.blk; have hB7 := HT7.out.B_lt; clear hw7 hg7 hx7 hbl7))
              refine wp_region_pt 5 (fun w' => w'.heap[w.heap.size]? = some (.cells #[.int .i64 o, .int .i64 l, .int .i64 m, .slice pa' ps'.length pc', .int .i64 b, .int .i64 last'] 27 (0, 0))) (Plan.quiet 0 (Plan.quiet 1 (Plan.quiet 2 (Plan.quiet 3 (Plan.one 4 (Plan.one 5 Plan.done)))))) (by kernel_rfl) (by kernel_rfl) (HT7.out.blk) ?_
              refine wpPt_val rfl rfl ?_
              apply Exists.intro
              refine ⟨fun w' hS => ?_, ?_⟩
              focus (have rS := cell_of hS; simp [go_sem, ↓IntWalk.iteOmega, rS, hy0] <;> first | done | exact rfl | (rw [IntWalk.i64_in _ (by omega)]; exact rfl) | trace_state)
              refine wpPt_val rfl rfl ?_
              apply Exists.intro
              refine ⟨fun w' hS => ?_, ?_⟩
              focus (have rS := cell_of hS; simp [go_sem, ↓IntWalk.iteOmega, rS, hy0] <;> first | done | exact rfl | (rw [IntWalk.i64_in _ (by omega)]; exact rfl) | trace_state)
              refine wpPt_val rfl rfl ?_
              apply Exists.intro
              refine ⟨fun w' hS => ?_, ?_⟩
              focus (have rS := cell_of hS; simp [go_sem, ↓IntWalk.iteOmega, rS, hy0] <;> first | done | exact rfl | (rw [IntWalk.i64_in _ (by omega)]; exact rfl) | trace_state)
              refine wpPt_val rfl rfl ?_
              apply Exists.intro
              refine ⟨fun w' hS => ?_, ?_⟩
              focus (have rS := cell_of hS; simp [go_sem, ↓IntWalk.iteOmega, rS, hy0] <;> first | done | exact rfl | (rw [IntWalk.i64_in _ (by omega)]; exact rfl) | trace_state)
              refine wpPt_one rfl rfl (fun K hK => ?_)
              go_simp
              refine (advance_code o l m pa' pc' ps' b last' c _ (w.heap.size + 1) _ HT7.out.op.drew (by simp <;> omega) hs hlen' HCL.out HFY.out).mono ?_
              rintro e w8 ⟨A8, c8, rfl, hown8, hg8, hwi8⟩
              have HT8 := Lib.hid (T3r.adv (last' := c) HT7.out.drew hown8 hg8 hwi8)
              have hbl8 := hg8.below (B := w.heap.size + 1) (by simp <;> omega) (fun X hX => own_lo HT7.out.op X hX)
              have HB8 := Lib.hid (HB7.out.trans (Below.trans (b := w7.drew) (by repeat (first | exact Below.refl _ _ | refine below_plus ?_ (by first | omega | (simp <;> omega)) _ | refine Below.alloc ?_ (by first | omega | (simp <;> omega)) _ | refine below_patch ?_ (by omega) _ | refine Below.drew ?_)) (hbl8.mono (by omega))))
              have z8 := hg8.size
              simp at z8
              have hblk8 : w8.heap[w.heap.size]? = _ := blk_grew hg8 HT7.out.blk (fun X hX e => by have := own_lo HT7.out.op X hX; omega)
              have f8 := free_of hblk8
              have r8 := cell_of hblk8
              have s8 := fun v => setCell_patch hblk8 0 v
              have hB8 : w.heap.size < w8.heap.size := by omega
              refine hK _ _ (fun hkn => (blk_grew hg8 HT7.out.blk (fun X hX e => by have := own_lo HT7.out.op X hX; omega))) ?_
              clear hK K
              refine wpPt_one rfl rfl (fun K hK => ?_)
              go_simp
              refine hK _ _ (fun hkn => absurd hkn (by decide)) ?_
              clear hK K
              refine NoPanic.normal ?_
              go_wp2
              have HT9 := Lib.hid (show T3r _ w.heap.size o l m (aftP l m ps' last' c) (b : Int) c A8 c8 A6 c6 (W ++ [wd l m ps'.length last']) A7 c7 (D ++ anyW l ps' last' c) by have := HT8.out; rw [HYB.out] at this; exact this)
              go_roundw
              case rel => exact ⟨k + 1, A6, _, c6, A7, _, c7, rfl, rfl, by go_num, aftP l m ps' last' c, c, A8, c8, W ++ [wd l m ps'.length last'], D ++ anyW l ps' last' c, by simp, by simp, HT9.out, HK.out.after HOK.out, by omega, by simp; omega, by rw [List.length_append]; omega, HR2.out, below_patch HB8.out (Nat.le_refl _) _⟩
              case measure => simp [intOf]; omega
            · have hR : R = none := by have := HWK.out; rw [HDK.out, wlk_bad HCL.out HHE.out (fun h => hdd h.2)] at this; exact this.symm
              subst hR
              obtain ⟨y2, hy2⟩ : ∃ y2, bstr (anyW l ps' last' c) = y2 := ⟨_, rfl⟩
              rw [hy2] at zl
              have HY2 := Lib.hid hy2
              have v5 : decide (2000 < D.length + y2.size) = true := by simp; omega
              clear hy2
              go_wp2_with (first | (go_at_call 122; refine (canFollow_any _ _ _ _ _ _ _ _ _ _ hs (by omega)).mono ?_; rintro e w' ⟨rfl, xc, rfl⟩) | (go_at_call 91; refine (width_any _ _ _ _ _ _ _ _ _ HLM.out (by omega)).mono ?_; rintro e w' ⟨rfl, xc, rfl⟩) | (go_at_call 124; refine (wordText_any o l m pa' pc' ps' b last' c _ (by repeat (first | exact HT6.out.op.rd | apply rd_seq | apply Rd.plus | apply Rd.alloc | apply Rd.drew | apply Rd.drewN | refine rd_patch ?_ _ _ (by intro A hA; first | (cases hA; show _ ≠ _; omega) | (have := hal A hA; omega)))) HK.out HOK.out).mono ?_; rintro e w' ⟨rfl, x7, rfl⟩; rw [HY2.out]) | (at_builtin; refine wpList_append_at encI _ _ _ _ i0 _ 8 rfl rfl Try.underlying30 hi iz0 iz1 iz2 rfl (by decide) W wa wc (w.heap.size + 1) (by repeat (first | (with_reducible exact HT.out.ow) | (with_reducible apply own_seq) | (with_reducible apply own_draw) | (with_reducible apply Own.plus) | (with_reducible apply Own.alloc) | (with_reducible apply Own.drew) | (with_reducible apply Own.drewN))) rfl [wd l m ps'.length last'] _ 0 1 (new_cells encI (wd l m ps'.length last') _ _ (by first | omega | rfl | (simp <;> omega) | (simp only [List.length_cons, List.length_nil, plus_size, World.size_alloc]; omega))) rfl (by first | omega | rfl | (simp <;> omega) | (simp only [List.length_cons, List.length_nil, plus_size, World.size_alloc]; omega)) (by first | omega | rfl | (simp <;> omega) | (simp only [List.length_cons, List.length_nil, plus_size, World.size_alloc]; omega)) (by simp <;> omega) ?_; intro A6 c6 w6 hw6 hg6 hx6; have HT6 := Lib.hid (T3r.grewI (o := o) (l := l) (m := m) (ps := ps') (base := (b : Int)) (last := last') (pa := pa') (pc := pc') (W := W) (D := D) (da := da) (dc := dc) (by repeat (first | (with_reducible exact HT.out) | (with_reducible apply t3_seq) | (with_reducible apply T3r.plus) | (with_reducible apply T3r.alloc) | (with_reducible apply T3r.drew))) hw6 hg6 hx6); have hbl6 := hg6.below (B := w.heap.size + 1) (by simp <;> omega) (fun X hX => own_lo HT.out.ow X hX); have HB6 := Lib.hid (HBL.out.trans (Below.trans (b := _) (by repeat (first | exact Below.refl _ _ | refine below_plus ?_ (by first | omega | (simp <;> omega)) _ | refine Below.alloc ?_ (by first | omega | (simp <;> omega)) _ | refine below_patch ?_ (by omega) _ | refine Below.drew ?_)) (hbl6.mono (by omega)))); have z6 := hg6.size; simp at z6; have r6 := cell_of HT6.out.blk; have f6 := free_of HT6.out.blk; have s6 := fun v => setCell_patch HT6.out.blk 0 v; have hB6 := HT6.out.B_lt; clear hw6 hg6 hx6 hbl6))
              exact bodyPost_ret (v := .tuple #[.slice none 0 0, .string ⟨#[]⟩, .bool false]) (by simp [results, Try.results73, go_sem]) rfl ⟨rfl, below_more (by repeat (first | (with_reducible exact HB6.out) | refine below_plus ?_ (by first | omega | (simp <;> omega)) _ | refine Below.alloc ?_ (by first | omega | (simp <;> omega)) _ | refine below_patch ?_ (by omega) _ | refine Below.drew ?_))⟩
    · obtain rfl : k = is.length := by omega
      have HR2 := Lib.hid (show R = some (W, D) by have := HWK.out; rw [List.drop_length, wlk_nil] at this; exact this.symm)
      have mixed : Try.prog.follows .mixedOrders = true := by kernel_rfl
      have hcv := run_str_own (P := Try.prog) (W := wr) Try.underlying22 Try.underlying5 Try.underlying9 HT.out.od
      have hcv2 := run_str_own (P := Try.prog) (W := wr.drew) Try.underlying22 Try.underlying5 Try.underlying9 HT.out.od.drew
      go_wp2_with fail
      go_region_o
      go_wp2
      rw [HR2.out]
      exact bodyPost_ret (v := .tuple #[.slice wa W.length wc, .string (bstr D), .bool true]) (by simp [results, Try.results73, go_sem]) rfl ⟨wa, wc, rfl, (HT.out.ow.drew).lower (by omega), below_more (by repeat (first | (with_reducible exact HBL.out) | refine below_plus ?_ (by first | omega | (simp <;> omega)) _ | refine Below.alloc ?_ (by first | omega | (simp <;> omega)) _ | refine below_patch ?_ (by omega) _ | refine Below.drew ?_))⟩

end Go.Proofs.Ytibfkfinghcpaaa
