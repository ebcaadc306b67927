/- Lemmas and walks, part Gw. -/
import Derived.Test.YtmddcbebaijjkaaGreatDoorDru
import Derived.Test.YtmddcbebaijjkaaGreatDoorGv
import Derived.Test.YtmddcbebaijjkaaGreatDoorGj
import Derived.Test.YtmddcbebaijjkaaGreatDoorDri

/- Draws: readers (l3Reader). -/
namespace Go.Proofs.YtmddcbebaijjkaaGreatDoor
open Go.RowKit
set_option linter.unusedVariables false
set_option linter.unusedSimpArgs false

theorem rdb_new {o l m : Int} {ps : List Pr} {base last : Int} (hk : kvb o l m ps base last = true) : rdb o l m ps base last ⟨#[]⟩ 0 0 1 = true := by
  unfold rdb
  rw [hk, Bool.true_and]
  refine rvb_iff.2 ⟨bitsB_bv.2 ⟨by decide, fun x hx => by simp at hx⟩, by decide, by decide, by decide, by decide, .inl ⟨rfl, ?_, by decide⟩⟩
  have := wd_ten (kvb_iff.1 hk).lim
  show ((0 : Nat) : Int) < _
  omega

/-- a block with kb, a block for the result, beside a source -/
structure KR (ob kb : Obj) (w wr : World) (D B n : Nat) (pa : Option Addr) (pc : Nat) (ps : List Pr) : Prop where
  res : wr.heap[w.heap.size]? = some ob
  blk : wr.heap[D]? = some kb
  rd : Rd encP wr pa pc ps
  off : ∀ Y, pa = some Y → Y.block ≠ B ∧ w.heap.size < Y.block
  src : Dsrc wr B n
  grew : Grew (some ⟨B, 0, none⟩) w wr
  low : B < w.heap.size ∧ w.heap.size < D

section
variable {ob kb : Obj} {w wr w' : World} {D B n n' : Nat} {pa : Option Addr} {pc : Nat} {ps : List Pr}

theorem KR.lt (h : KR ob kb w wr D B n pa pc ps) : w.heap.size < wr.heap.size ∧ D < wr.heap.size := ⟨(Array.getElem?_eq_some_iff.1 h.res).1, (Array.getElem?_eq_some_iff.1 h.blk).1⟩

theorem KR.draw (h : KR ob kb w wr D B n pa pc ps) (hd : Drn wr B n' w') : KR ob kb w w' D B n' pa pc ps := by
  have hg := hd.grew
  have hlow := h.low
  exact ⟨blk_grew hg h.res (fun X hX e => by cases hX; simp at e; omega), blk_grew hg h.blk (fun X hX e => by cases hX; simp at e; omega), rd_grew h.rd hg (fun X Y hX hY => by cases hX; exact (h.off Y hY).1.symm), h.off, hd.1, grew_trans h.grew hg, hlow⟩

theorem KR.more (h : KR ob kb w wr D B n pa pc ps) (hm : More wr w') : KR ob kb w w' D B n pa pc ps := by
  obtain ⟨x, rfl⟩ := hm
  exact ⟨blk_plus h.res x, blk_plus h.blk x, Rd.plus h.rd x, h.off, h.src.plus x, grew_plus h.grew x, h.low⟩

theorem KR.mono {n2 : Nat} (h : KR ob kb w wr D B n pa pc ps) (hn : n ≤ n2) : KR ob kb w wr D B n2 pa pc ps := ⟨h.res, h.blk, h.rd, h.off, h.src.mono hn, h.grew, h.low⟩

/-- another block in place of the first -/
theorem KR.swap {kb2 : Obj} {E : Nat} {pa2 : Option Addr} {pc2 : Nat} {qs : List Pr} (h : KR ob kb w wr D B n pa pc ps) (hb : wr.heap[E]? = some kb2) (hE : w.heap.size < E) (hr : Rd encP wr pa2 pc2 qs) (ho : ∀ Y, pa2 = some Y → w.heap.size < Y.block) : KR ob kb2 w wr E B n pa2 pc2 qs :=
  ⟨h.res, hb, hr, fun Y hY => ⟨by have := ho Y hY; have := h.low; omega, ho Y hY⟩, h.src, h.grew, h.low.1, hE⟩

/-- the block turned, and pairs of a call's own -/
theorem KR.step {x : Ext} {cur : Array Value} {t : TypeId} {pa2 : Option Addr} {pc2 : Nat} {qs : List Pr} (h : KR ob kb w wr D B n pa pc ps) (hown : Own encP 81 (Go.Proofs.YtmddcbebaijjkaaGreatDoor.plus wr x) pa2 pc2 qs wr.heap.size) :
    KR ob (.cells cur t) w (Go.Proofs.YtmddcbebaijjkaaGreatDoor.plus (patch wr D (.cells cur t)) x) D B n pa2 pc2 qs := by
  have hlt := h.lt
  have hlow := h.low
  have hlo2 := own_lt hown
  have hown2 := own_swap (w2 := patch wr D (.cells cur t)) hown (by simp) (by simp)
  refine ⟨blk_plus ((patch_other _ _ _ (by omega)).trans h.res) x, blk_plus (patch_at _ _ _ hlt.2) x, hown2.rd, fun Y hY => ?_, (h.src.of_block (fun k hk hl => patch_other _ _ _ (by omega)) (by simp)).plus x, grew_plus (grew_hi h.grew (by omega) _) x, hlow⟩
  have := hlo2 Y hY
  exact ⟨by omega, by omega⟩

end

/-- what a draw of a reader and a stream leaves -/
def RetL3 (w : World) (B n : Nat) (e : Ending) (w' : World) : Prop := ∃ (o l m : Int) (pa : Option Addr) (pc : Nat) (ps : List Pr) (b : Nat) (last : Int) (s : ByteArray) (z c e1 : Int) (u : ByteArray),
  e = .returned (.tuple #[.agg #[.int .i64 o, .int .i64 l, .int .i64 m, .slice pa ps.length pc, .int .i64 b, .int .i64 last, .string s, .int .i64 z, .int .i64 c, .int .i64 e1], .string u]) ∧ sv o l m = true ∧ ps.length ≤ 2000 ∧ s.size ≤ 1000 ∧ u.size ≤ 100 ∧ Rd encP w' pa pc ps ∧ (∀ X, pa = some X → w.heap.size < X.block ∧ X.block < w'.heap.size) ∧ Drn w B n w'


set_option maxRecDepth 100000 in
set_option maxHeartbeats 8000000 in
theorem l3Reader_d (B n : Nat) (w : World) (hd : Dsrc w B n) (hn : n ≤ 600000) :
    Calls Tryz.prog 39 #[.pointer (some ⟨B, 0, none⟩)] w (RetL3 w B (n + 300)) := by
  have hB := hd.B_lt
  have HD := Lib.hid hd
  clear hd
  go_enter Tryz.func39, Tryz.ntmps39
  go_wp2_with fail
  refine (l2Draw_d B n _ (by repeat (first | (with_reducible exact HD.out) | (with_reducible apply dsrc_seq) | (with_reducible apply dsrc_draw) | (with_reducible apply Dsrc.plus) | (with_reducible apply Dsrc.alloc) | (with_reducible apply Dsrc.drew))) (by omega)).mono ?_
  rintro e w' ⟨o, l, m, pa, pc, ps, b, last, rfl, hkv, hl14, hrd, hoff, hdn⟩
  have hs := hkv.s
  obtain ⟨hso, hl1, hl2, hl3, hl4⟩ := sv_iff.1 hs
  have HKV := Lib.hid hkv
  have HR1 := Lib.hid (show Rd encP _ pa pc ps from hrd)
  simp at hoff
  obtain ⟨hd1, cur1, x1, rfl⟩ := hdn
  have HD1 := Lib.hid hd1
  clear hd1
  clear hkv hrd
  go_wp2_with fail
  refine wp_nm2 (fun X => KR (.cells #[.int .i64 0, .int .i64 0, .int .i64 0, .slice none 0 0, .int .i64 0, .int .i64 0, .string ⟨#[]⟩, .int .i64 0, .int .i64 0, .int .i64 0] 28 (0, 0)) (.cells #[.int .i64 o, .int .i64 l, .int .i64 m, .slice pa ps.length pc, .int .i64 b, .int .i64 last] 26 (0, 0)) w X (w.heap.size + 1 + x1.n) B (n + 60) pa pc ps) ⟨?_, ?_, (by (try unfold RdP); repeat (first | (with_reducible exact HR1.out) | (with_reducible apply rd_seq) | (with_reducible apply Rd.plus) | (with_reducible apply Rd.alloc) | (with_reducible apply Rd.drew) | (with_reducible apply Rd.drewN))), fun Y hY => by have := hoff Y hY; omega, (by repeat (first | (with_reducible exact HD1.out) | (with_reducible apply dsrc_seq) | (with_reducible apply dsrc_draw) | (with_reducible apply Dsrc.plus) | (with_reducible apply Dsrc.alloc) | (with_reducible apply Dsrc.drew))), (by repeat (first | (with_reducible exact grew_refl _ _) | (with_reducible apply grew_plus) | (with_reducible apply grew_alloc) | (with_reducible apply grew_drew) | (with_reducible apply grew_pat))), by omega⟩ ?_
  · exact (by repeat (first | (with_reducible exact push_new _ _ _ rfl) | (with_reducible exact push_new _ _ _ (by simp)) | (with_reducible apply blk_plus) | (with_reducible apply blk_alloc) | (with_reducible apply blk_drew) | (with_reducible refine blk_patch ?_ (by omega))))
  · exact push_new _ _ _ (by simp <;> omega)
  generalize w.heap.size + 1 + x1.n = D
  intro X hX
  have HX := Lib.hid hX
  have zX := hX.lt.2
  have hlow := hX.low
  clear hX HR1 HD1 HD hoff
  refine wp_region_pt 9 (fun w' => w'.heap[D]? = some (.cells #[.int .i64 o, .int .i64 l, .int .i64 m, .slice pa ps.length pc, .int .i64 b, .int .i64 last] 26 (0, 0))) (Plan.quiet 0 (Plan.quiet 1 (Plan.quiet 2 (Plan.quiet 3 (Plan.quiet 4 (Plan.quiet 5 (Plan.one 6 (Plan.one 7 (Plan.one 8 (Plan.one 9 Plan.done)))))))))) (by kernel_rfl) (by kernel_rfl) (HX.out.blk) ?_
  refine wpPt_val rfl rfl ?_
  apply Exists.intro
  refine ⟨fun w' hS => ?_, ?_⟩
  focus (have rS := cell_of hS; simp [go_sem, ↓IntWalk.iteOmega, rS] <;> first | done | exact rfl | (rw [IntWalk.i64_in _ (by omega)]; exact rfl) | trace_state)
  refine wpPt_val rfl rfl ?_
  apply Exists.intro
  refine ⟨fun w' hS => ?_, ?_⟩
  focus (have rS := cell_of hS; simp [go_sem, ↓IntWalk.iteOmega, rS] <;> first | done | exact rfl | (rw [IntWalk.i64_in _ (by omega)]; exact rfl) | trace_state)
  refine wpPt_val rfl rfl ?_
  apply Exists.intro
  refine ⟨fun w' hS => ?_, ?_⟩
  focus (have rS := cell_of hS; simp [go_sem, ↓IntWalk.iteOmega, rS] <;> first | done | exact rfl | (rw [IntWalk.i64_in _ (by omega)]; exact rfl) | trace_state)
  refine wpPt_val rfl rfl ?_
  apply Exists.intro
  refine ⟨fun w' hS => ?_, ?_⟩
  focus (have rS := cell_of hS; simp [go_sem, ↓IntWalk.iteOmega, rS] <;> first | done | exact rfl | (rw [IntWalk.i64_in _ (by omega)]; exact rfl) | trace_state)
  refine wpPt_val rfl rfl ?_
  apply Exists.intro
  refine ⟨fun w' hS => ?_, ?_⟩
  focus (have rS := cell_of hS; simp [go_sem, ↓IntWalk.iteOmega, rS] <;> first | done | exact rfl | (rw [IntWalk.i64_in _ (by omega)]; exact rfl) | trace_state)
  refine wpPt_val rfl rfl ?_
  apply Exists.intro
  refine ⟨fun w' hS => ?_, ?_⟩
  focus (have rS := cell_of hS; simp [go_sem, ↓IntWalk.iteOmega, rS] <;> first | done | exact rfl | (rw [IntWalk.i64_in _ (by omega)]; exact rfl) | trace_state)
  refine wpPt_one rfl rfl (fun K hK => ?_)
  go_simp
  refine (l2Codes_d B _ 20 o l m pa pc ps b last _ HX.out.src.drew (by omega) HKV.out (Rd.drew HX.out.rd) (fun Y hY _ => (HX.out.off Y hY).1) (by omega) (by omega)).mono ?_
  rintro e w6 ⟨A, cp, cs, rfl, hrc0, hcl, ⟨Wd, Dd, hwl⟩, hAo, hdn⟩
  have H6 := Lib.hid ((HX.out.more (by repeat (first | exact More.refl _ | apply More.plus | apply More.alloc | apply More.drew | apply More.drewN))).draw hdn)
  have HRC := Lib.hid hrc0.rd
  have HWL := Lib.hid hwl
  have hbd := wlk_bd cs ps last [] [] Wd Dd HKV.out hwl
  have hcz := cbits_len (o := o) cs Wd (fun x hx => by have := hbd.2.1 x hx; simp at this; omega)
  obtain ⟨cb, hcb⟩ : ∃ cb, cbits o cs Wd = cb := ⟨_, rfl⟩
  have hbv := cbits_bv o cs Wd
  rw [hcb] at hcz hbv
  have HCB := Lib.hid hcb
  have HBV := Lib.hid hbv
  clear hdn hrc0 hwl hAo hbd hcb hbv
  refine hK _ _ (fun hkn => H6.out.blk) ?_
  clear hK K
  refine wpPt_one rfl rfl (fun K hK => ?_)
  go_simp
  refine (l2Pack_any o l m pa pc ps b last A cp cs w6 H6.out.rd HRC.out (kvb_iff.2 HKV.out) (by omega) b rfl Wd Dd HWL.out).mono ?_
  rintro e w' ⟨rfl, x6, rfl⟩
  rw [HCB.out]
  refine hK _ _ (fun hkn => blk_plus H6.out.blk _) ?_
  clear hK K
  refine wpPt_one rfl rfl (fun K hK => ?_)
  go_simp
  refine (l1Pack_any o (bstr cb) _ hso (by rw [bstr_size]; omega) (by rw [bytes_bstr]; exact HBV.out)).mono ?_
  rintro e w' ⟨rfl, x7, rfl⟩
  rw [bytes_bstr]
  obtain ⟨S, hS9⟩ : ∃ S, bstr (pckL o cb) = S := ⟨_, rfl⟩
  have hSz : S.size ≤ 40 := by rw [← hS9, bstr_size, pckL_len]; omega
  rw [hS9]
  clear hS9
  have H7 := Lib.hid ((H6.out.more (show More w6 (plus (plus w6 x6) x7) from (by repeat (first | exact More.refl _ | apply More.plus | apply More.alloc | apply More.drew | apply More.drewN)))).mono (n2 := n + 160) (by omega))
  (try simp only [plus_plus] at H7)
  refine hK _ _ (fun hkn => blk_plus (blk_plus H6.out.blk _) _) ?_
  clear hK K
  refine wpPt_one rfl rfl (fun K hK => ?_)
  go_simp
  refine hK _ _ (fun hkn => absurd hkn (by decide)) ?_
  clear hK K
  refine NoPanic.normal ?_
  clear H6 HRC HWL HX zX
  go_wp2_with fail
  refine (pick_d B (n + 160) _ _ H7.out.src (by omega)).mono ?_
  rintro e wB ⟨v, rfl, hv, hdn⟩
  have HB := Lib.hid (H7.out.draw hdn)
  have rB := cell_of HB.out.blk
  have zB := HB.out.lt.2
  clear hdn H7
  rcases (by omega : v = 0 ∨ v = 1 ∨ 1 < v) with rfl | rfl | hv2
  · go_wp2_with fail
    refine (l1Bytes_any B (n + 161) 16 _ HB.out.src (by omega) (by omega)).mono ?_
    rintro e wC ⟨T, rfl, hT, hds, hgr⟩
    have HC := Lib.hid (HB.out.draw (drn_of hds hgr HB.out.src.B_lt))
    have rC := cell_of HC.out.blk
    have zC := HC.out.lt.2
    clear hds hgr rB zB
    go_wp2_with fail
    refine (specNewReader_yes o l m pa pc ps b last _ (by (try unfold RdP); repeat (first | (with_reducible exact HC.out.rd) | (with_reducible apply rd_seq) | (with_reducible apply Rd.plus) | (with_reducible apply Rd.alloc) | (with_reducible apply Rd.drew) | (with_reducible apply Rd.drewN))) (kvb_iff.2 HKV.out)).mono ?_
    rintro e w' ⟨pa2, pc2, rfl, hown, x5, rfl⟩
    (try simp only [plus_plus] at hown)
    have hq2 := fun Y hY => (own_lt hown Y hY).1
    have z5 := HC.out.lt.1
    (try simp at hq2)
    have HQ := Lib.hid hown.rd
    have H5 := Lib.hid ((HC.out.more (by repeat (first | exact More.refl _ | apply More.plus | apply More.alloc | apply More.drew | apply More.drewN))).mono (n2 := n + 200) (by omega))
    clear hown
    go_wp2_with fail
    refine calls_nm (fun X => KR (.cells #[.int .i64 0, .int .i64 0, .int .i64 0, .slice none 0 0, .int .i64 0, .int .i64 0, .string ⟨#[]⟩, .int .i64 0, .int .i64 0, .int .i64 0] 28 (0, 0)) (.cells #[.int .i64 o, .int .i64 l, .int .i64 m, .slice pa2 ps.length pc2, .int .i64 b, .int .i64 last, .string ⟨#[]⟩, .int .i64 0, .int .i64 0, .int .i64 1] 28 (0, 0)) w X (wC.heap.size + x5.n) B (n + 200) pa2 pc2 ps) ?_ ?_
    · exact (H5.out.more (by repeat (first | exact More.refl _ | apply More.plus | apply More.alloc | apply More.drew | apply More.drewN))).swap (push_new _ _ _ (by simp <;> omega)) (by omega) (by (try unfold RdP); repeat (first | (with_reducible exact HQ.out) | (with_reducible apply rd_seq) | (with_reducible apply Rd.plus) | (with_reducible apply Rd.alloc) | (with_reducible apply Rd.drew) | (with_reducible apply Rd.drewN))) (fun Y hY => by have := hq2 Y hY; omega)
    generalize wC.heap.size + x5.n = E
    clear H5 HQ hq2 z5
    intro X hX
    have HX := Lib.hid hX
    clear hX
    refine (pick_d B (n + 200) _ _ HX.out.src (by omega)).mono ?_
    rintro e w7 ⟨at1, rfl, hat, hdn⟩
    have hat2 : at1 ≤ (T).size := by omega
    have H7 := Lib.hid (HX.out.draw hdn)
    have c7 := cell_of H7.out.blk
    have z7 := H7.out.lt.2
    have l7 := H7.out.low
    clear hdn hat HX
    have HWR := Lib.hid (show IntKind.i64.wrap (at1 : Int) = (at1 : Int) from IntWalk.i64_in _ (by omega))
    have hai : (at1 : Int) ≤ ((T).size : Int) := by omega
    have hai0 : (0 : Int) ≤ (at1 : Int) := by omega
    obtain ⟨U, hU⟩ : ∃ U, (T).extract 0 at1 = U := ⟨_, rfl⟩
    have hUz : U.size ≤ 100 := by rw [← hU]; simp; omega
    obtain ⟨Z, hZ⟩ : ∃ Z, (T).extract at1 (T).size = Z := ⟨_, rfl⟩
    have hZz : Z.size ≤ 100 := by rw [← hZ]; simp; omega
    obtain ⟨b', sz, ct, bits, R, hb', hz', hc', F, hSp, _⟩ := reads_go (o := o) (l := l) (m := m) (ps := ps) (base := b) (last := last) (sb := ⟨#[]⟩) (z := 0) (c := 0) (u := U) (by decide) (by omega) (rdb_new (kvb_iff.2 HKV.out))
    obtain rfl : b = b' := by omega
    have hRl := kv_len (kvb_iff.2 F.kv)
    have hRk : (keptB R bits).size ≤ 1000 := by
      have := F.len
      unfold keptB
      split
      · rw [bstr_size, List.length_drop]
        have h0 : (⟨#[]⟩ : ByteArray).size = 0 := rfl
        omega
      · show 0 ≤ 1000
        omega
    have HSp := Lib.hid hSp
    have hU' := hU
    clear F hSp hz' hc' hb'
    go_wp2_with fail
    refine wp_region_pt 11 (fun _ => True) (Plan.quiet 1 (Plan.quiet 2 (Plan.quiet 3 (Plan.one 0 (Plan.one 4 (Plan.quiet 5 (Plan.quiet 6 (Plan.quiet 7 (Plan.quiet 8 (Plan.quiet 9 (Plan.one 10 Plan.done))))))))))) (by kernel_rfl) (by kernel_rfl) (trivial) ?_
    refine wpPt_val rfl rfl ?_
    apply Exists.intro
    refine ⟨fun w' hS => ?_, ?_⟩
    focus (skip; simp [go_sem, ↓IntWalk.iteOmega, HWR.out, hai, hai0, hU] <;> first | done | exact rfl | (rw [IntWalk.i64_in _ (by omega)]; exact rfl) | trace_state)
    refine wpPt_val rfl rfl ?_
    apply Exists.intro
    refine ⟨fun w' hS => ?_, ?_⟩
    focus (skip; simp [go_sem, ↓IntWalk.iteOmega, HWR.out, hai, hai0, hU] <;> first | done | exact rfl | (rw [IntWalk.i64_in _ (by omega)]; exact rfl) | trace_state)
    refine wpPt_val rfl rfl ?_
    apply Exists.intro
    refine ⟨fun w' hS => ?_, ?_⟩
    focus (skip; simp [go_sem, ↓IntWalk.iteOmega, HWR.out, hai, hai0, hU] <;> first | done | exact rfl | (rw [IntWalk.i64_in _ (by omega)]; exact rfl) | trace_state)
    refine wpPt_one rfl rfl (fun K hK => ?_)
    go_simp
    (try simp [go_sem, ↓IntWalk.iteOmega, c7])
    refine hK _ _ (fun hkn => trivial) ?_
    clear hK K
    refine wpPt_one rfl rfl (fun K hK => ?_)
    go_simp
    refine (HSp.out _ _ _ (by (try unfold RdP); repeat (first | (with_reducible exact H7.out.rd) | (with_reducible apply rd_seq) | (with_reducible apply Rd.plus) | (with_reducible apply Rd.alloc) | (with_reducible apply Rd.drew) | (with_reducible apply Rd.drewN)))).mono ?_
    rintro e w8 ⟨pa3, pc3, rfl, hown, x8, rfl⟩
    have f7 := free_of H7.out.blk
    have s7 := fun i v => setCell_patch H7.out.blk i v
    have H8 := Lib.hid (KR.step (cur := #[.int .i64 o, .int .i64 l, .int .i64 m, .slice pa3 R.ps.length pc3, .int .i64 b, .int .i64 R.last, .string (keptB R bits), .int .i64 R.D.length, .int .i64 R.C.length, .int .i64 R.e]) (t := 28) H7.out hown)
    have hlt8 := own_lt hown
    clear hown
    refine hK _ _ (fun hkn => trivial) ?_
    clear hK K
    refine wpPt_val rfl rfl ?_
    apply Exists.intro
    refine ⟨fun w' hS => ?_, ?_⟩
    focus (skip; simp [go_sem, ↓IntWalk.iteOmega, HWR.out, hai, hai0, hU] <;> first | done | exact rfl | (rw [IntWalk.i64_in _ (by omega)]; exact rfl) | trace_state)
    refine wpPt_val rfl rfl ?_
    apply Exists.intro
    refine ⟨fun w' hS => ?_, ?_⟩
    focus (skip; simp [go_sem, ↓IntWalk.iteOmega, HWR.out, hai, hai0, hU] <;> first | done | exact rfl | (rw [IntWalk.i64_in _ (by omega)]; exact rfl) | trace_state)
    refine wpPt_val rfl rfl ?_
    apply Exists.intro
    refine ⟨fun w' hS => ?_, ?_⟩
    focus (skip; simp [go_sem, ↓IntWalk.iteOmega, HWR.out, hai, hai0, hU] <;> first | done | exact rfl | (rw [IntWalk.i64_in _ (by omega)]; exact rfl) | trace_state)
    refine wpPt_val rfl rfl ?_
    apply Exists.intro
    refine ⟨fun w' hS => ?_, ?_⟩
    focus (skip; simp [go_sem, ↓IntWalk.iteOmega, HWR.out, hai, hai0, hU] <;> first | done | exact rfl | (rw [IntWalk.i64_in _ (by omega)]; exact rfl) | trace_state)
    refine wpPt_val rfl rfl ?_
    apply Exists.intro
    refine ⟨fun w' hS => ?_, ?_⟩
    focus (skip; simp [go_sem, ↓IntWalk.iteOmega, HWR.out, hai, hai0, hU] <;> first | done | exact rfl | (rw [IntWalk.i64_in _ (by omega)]; exact rfl) | trace_state)
    refine wpPt_one rfl rfl (fun K hK => ?_)
    go_simp
    refine hK _ _ (fun hkn => trivial) ?_
    clear hK K
    refine NoPanic.normal ?_
    go_wp2_with fail
    refine wp_nm2 (fun X => (∀ Y, pa3 = some Y → Y.block < X.heap.size) ∧ KR (.cells #[.int .i64 0, .int .i64 0, .int .i64 0, .slice none 0 0, .int .i64 0, .int .i64 0, .string ⟨#[]⟩, .int .i64 0, .int .i64 0, .int .i64 0] 28 (0, 0)) (.cells #[.int .i64 o, .int .i64 l, .int .i64 m, .slice pa3 R.ps.length pc3, .int .i64 b, .int .i64 R.last, .string (keptB R bits), .int .i64 R.D.length, .int .i64 R.C.length, .int .i64 R.e] 28 (0, 0)) w X E B (n + 201) pa3 pc3 R.ps) ⟨fun Y hY => by have := (hlt8 Y hY).2; simp at this ⊢; omega, H8.out⟩ ?_
    clear H8 H7 c7 z7 l7 f7 s7 HSp hlt8
    intro X hX
    obtain ⟨hlt9, hX⟩ := hX
    have H9 := Lib.hid hX
    have f9 := free_of hX.res
    have s9 := fun i v => setCell_patch hX.res i v
    have r9 := cell_of hX.res
    have z9 := hX.lt
    have l9 := hX.low
    obtain ⟨z9a, z9b⟩ := z9
    clear hX
    refine wp_region_pt 5 (fun w' => w'.heap[E]? = some (.cells #[.int .i64 o, .int .i64 l, .int .i64 m, .slice pa3 R.ps.length pc3, .int .i64 b, .int .i64 R.last, .string (keptB R bits), .int .i64 R.D.length, .int .i64 R.C.length, .int .i64 R.e] 28 (0, 0))) (Plan.quiet 0 (Plan.quiet 1 (Plan.quiet 2 (Plan.quiet 3 (Plan.one 4 (Plan.one 5 Plan.done)))))) (by kernel_rfl) (by kernel_rfl) (by repeat (first | exact H9.out.blk | apply blk_drew)) ?_
    refine wpPt_val rfl rfl ?_
    apply Exists.intro
    refine ⟨fun w' hS => ?_, ?_⟩
    focus (have rS := cell_of hS; simp [go_sem, ↓IntWalk.iteOmega, rS, HWR.out, hai, hai0, hZ] <;> first | done | exact rfl | (rw [IntWalk.i64_in _ (by omega)]; exact rfl) | trace_state)
    refine wpPt_val rfl rfl ?_
    apply Exists.intro
    refine ⟨fun w' hS => ?_, ?_⟩
    focus (have rS := cell_of hS; simp [go_sem, ↓IntWalk.iteOmega, rS, HWR.out, hai, hai0, hZ] <;> first | done | exact rfl | (rw [IntWalk.i64_in _ (by omega)]; exact rfl) | trace_state)
    refine wpPt_val rfl rfl ?_
    apply Exists.intro
    refine ⟨fun w' hS => ?_, ?_⟩
    focus (have rS := cell_of hS; simp [go_sem, ↓IntWalk.iteOmega, rS, HWR.out, hai, hai0, hZ] <;> first | done | exact rfl | (rw [IntWalk.i64_in _ (by omega)]; exact rfl) | trace_state)
    refine wpPt_val rfl rfl ?_
    apply Exists.intro
    refine ⟨fun w' hS => ?_, ?_⟩
    focus (have rS := cell_of hS; simp [go_sem, ↓IntWalk.iteOmega, rS, HWR.out, hai, hai0, hZ] <;> first | done | exact rfl | (rw [IntWalk.i64_in _ (by omega)]; exact rfl) | trace_state)
    refine wpPt_one rfl rfl (fun K hK => ?_)
    go_simp
    refine hK _ _ (fun hkn => (patch_other _ _ _ (by omega)).trans (by repeat (first | exact H9.out.blk | apply blk_drew))) ?_
    clear hK K
    refine wpPt_one rfl rfl (fun K hK => ?_)
    go_simp
    refine hK _ _ (fun hkn => absurd hkn (by decide)) ?_
    clear hK K
    refine NoPanic.normal ?_
    go_wp2_with fail
    exact bodyPost_ret (v := .tuple #[.agg #[.int .i64 o, .int .i64 l, .int .i64 m, .slice pa3 R.ps.length pc3, .int .i64 b, .int .i64 R.last, .string (keptB R bits), .int .i64 R.D.length, .int .i64 R.C.length, .int .i64 R.e], .string Z]) (by simp [results, Tryz.results39, go_sem, ↓IntWalk.iteOmega]) rfl ⟨o, l, m, pa3, pc3, R.ps, b, R.last, keptB R bits, R.D.length, R.C.length, R.e, Z, rfl, hs, hRl, hRk, hZz, Rd.drew (rd_patch H9.out.rd _ _ (fun Y hY => by have := (H9.out.off Y hY).2; omega)), fun Y hY => ⟨(H9.out.off Y hY).2, by have := hlt9 Y hY; simp; omega⟩, drn_of (((H9.out.src.mono (by omega)).of_block (fun k hk hl => patch_other _ _ _ (by omega)) (by simp)).drew) (grew_drew (grew_hi H9.out.grew (Nat.le_refl _) _)) hB⟩
  · go_wp2_with fail
    refine (l1Bytes_any B (n + 161) 4 _ HB.out.src (by omega) (by omega)).mono ?_
    rintro e wC ⟨T0, rfl, hT0, hds, hgr⟩
    have HC := Lib.hid (HB.out.draw (drn_of hds hgr HB.out.src.B_lt))
    have rC := cell_of HC.out.blk
    have zC := HC.out.lt.2
    obtain ⟨T, hT9⟩ : ∃ T, S ++ T0 = T := ⟨_, rfl⟩
    have hT : T.size ≤ 60 := by rw [← hT9, ByteArray.size_append]; omega
    clear hds hgr rB zB
    go_wp2_with fail
    (try rw [hT9])
    (try simp only [hT9])
    clear hT9
    go_wp2_with fail
    refine (specNewReader_yes o l m pa pc ps b last _ (by (try unfold RdP); repeat (first | (with_reducible exact HC.out.rd) | (with_reducible apply rd_seq) | (with_reducible apply Rd.plus) | (with_reducible apply Rd.alloc) | (with_reducible apply Rd.drew) | (with_reducible apply Rd.drewN))) (kvb_iff.2 HKV.out)).mono ?_
    rintro e w' ⟨pa2, pc2, rfl, hown, x5, rfl⟩
    (try simp only [plus_plus] at hown)
    have hq2 := fun Y hY => (own_lt hown Y hY).1
    have z5 := HC.out.lt.1
    (try simp at hq2)
    have HQ := Lib.hid hown.rd
    have H5 := Lib.hid ((HC.out.more (by repeat (first | exact More.refl _ | apply More.plus | apply More.alloc | apply More.drew | apply More.drewN))).mono (n2 := n + 200) (by omega))
    clear hown
    go_wp2_with fail
    refine calls_nm (fun X => KR (.cells #[.int .i64 0, .int .i64 0, .int .i64 0, .slice none 0 0, .int .i64 0, .int .i64 0, .string ⟨#[]⟩, .int .i64 0, .int .i64 0, .int .i64 0] 28 (0, 0)) (.cells #[.int .i64 o, .int .i64 l, .int .i64 m, .slice pa2 ps.length pc2, .int .i64 b, .int .i64 last, .string ⟨#[]⟩, .int .i64 0, .int .i64 0, .int .i64 1] 28 (0, 0)) w X (wC.heap.size + x5.n) B (n + 200) pa2 pc2 ps) ?_ ?_
    · exact (H5.out.more (by repeat (first | exact More.refl _ | apply More.plus | apply More.alloc | apply More.drew | apply More.drewN))).swap (push_new _ _ _ (by simp <;> omega)) (by omega) (by (try unfold RdP); repeat (first | (with_reducible exact HQ.out) | (with_reducible apply rd_seq) | (with_reducible apply Rd.plus) | (with_reducible apply Rd.alloc) | (with_reducible apply Rd.drew) | (with_reducible apply Rd.drewN))) (fun Y hY => by have := hq2 Y hY; omega)
    generalize wC.heap.size + x5.n = E
    clear H5 HQ hq2 z5
    intro X hX
    have HX := Lib.hid hX
    clear hX
    refine (pick_d B (n + 200) _ _ HX.out.src (by omega)).mono ?_
    rintro e w7 ⟨at1, rfl, hat, hdn⟩
    have hat2 : at1 ≤ (T).size := by omega
    have H7 := Lib.hid (HX.out.draw hdn)
    have c7 := cell_of H7.out.blk
    have z7 := H7.out.lt.2
    have l7 := H7.out.low
    clear hdn hat HX
    have HWR := Lib.hid (show IntKind.i64.wrap (at1 : Int) = (at1 : Int) from IntWalk.i64_in _ (by omega))
    have hai : (at1 : Int) ≤ ((T).size : Int) := by omega
    have hai0 : (0 : Int) ≤ (at1 : Int) := by omega
    obtain ⟨U, hU⟩ : ∃ U, (T).extract 0 at1 = U := ⟨_, rfl⟩
    have hUz : U.size ≤ 100 := by rw [← hU]; simp; omega
    obtain ⟨Z, hZ⟩ : ∃ Z, (T).extract at1 (T).size = Z := ⟨_, rfl⟩
    have hZz : Z.size ≤ 100 := by rw [← hZ]; simp; omega
    obtain ⟨b', sz, ct, bits, R, hb', hz', hc', F, hSp, _⟩ := reads_go (o := o) (l := l) (m := m) (ps := ps) (base := b) (last := last) (sb := ⟨#[]⟩) (z := 0) (c := 0) (u := U) (by decide) (by omega) (rdb_new (kvb_iff.2 HKV.out))
    obtain rfl : b = b' := by omega
    have hRl := kv_len (kvb_iff.2 F.kv)
    have hRk : (keptB R bits).size ≤ 1000 := by
      have := F.len
      unfold keptB
      split
      · rw [bstr_size, List.length_drop]
        have h0 : (⟨#[]⟩ : ByteArray).size = 0 := rfl
        omega
      · show 0 ≤ 1000
        omega
    have HSp := Lib.hid hSp
    have hU' := hU
    clear F hSp hz' hc' hb'
    go_wp2_with fail
    refine wp_region_pt 11 (fun _ => True) (Plan.quiet 1 (Plan.quiet 2 (Plan.quiet 3 (Plan.one 0 (Plan.one 4 (Plan.quiet 5 (Plan.quiet 6 (Plan.quiet 7 (Plan.quiet 8 (Plan.quiet 9 (Plan.one 10 Plan.done))))))))))) (by kernel_rfl) (by kernel_rfl) (trivial) ?_
    refine wpPt_val rfl rfl ?_
    apply Exists.intro
    refine ⟨fun w' hS => ?_, ?_⟩
    focus (skip; simp [go_sem, ↓IntWalk.iteOmega, HWR.out, hai, hai0, hU] <;> first | done | exact rfl | (rw [IntWalk.i64_in _ (by omega)]; exact rfl) | trace_state)
    refine wpPt_val rfl rfl ?_
    apply Exists.intro
    refine ⟨fun w' hS => ?_, ?_⟩
    focus (skip; simp [go_sem, ↓IntWalk.iteOmega, HWR.out, hai, hai0, hU] <;> first | done | exact rfl | (rw [IntWalk.i64_in _ (by omega)]; exact rfl) | trace_state)
    refine wpPt_val rfl rfl ?_
    apply Exists.intro
    refine ⟨fun w' hS => ?_, ?_⟩
    focus (skip; simp [go_sem, ↓IntWalk.iteOmega, HWR.out, hai, hai0, hU] <;> first | done | exact rfl | (rw [IntWalk.i64_in _ (by omega)]; exact rfl) | trace_state)
    refine wpPt_one rfl rfl (fun K hK => ?_)
    go_simp
    (try simp [go_sem, ↓IntWalk.iteOmega, c7])
    refine hK _ _ (fun hkn => trivial) ?_
    clear hK K
    refine wpPt_one rfl rfl (fun K hK => ?_)
    go_simp
    refine (HSp.out _ _ _ (by (try unfold RdP); repeat (first | (with_reducible exact H7.out.rd) | (with_reducible apply rd_seq) | (with_reducible apply Rd.plus) | (with_reducible apply Rd.alloc) | (with_reducible apply Rd.drew) | (with_reducible apply Rd.drewN)))).mono ?_
    rintro e w8 ⟨pa3, pc3, rfl, hown, x8, rfl⟩
    have f7 := free_of H7.out.blk
    have s7 := fun i v => setCell_patch H7.out.blk i v
    have H8 := Lib.hid (KR.step (cur := #[.int .i64 o, .int .i64 l, .int .i64 m, .slice pa3 R.ps.length pc3, .int .i64 b, .int .i64 R.last, .string (keptB R bits), .int .i64 R.D.length, .int .i64 R.C.length, .int .i64 R.e]) (t := 28) H7.out hown)
    have hlt8 := own_lt hown
    clear hown
    refine hK _ _ (fun hkn => trivial) ?_
    clear hK K
    refine wpPt_val rfl rfl ?_
    apply Exists.intro
    refine ⟨fun w' hS => ?_, ?_⟩
    focus (skip; simp [go_sem, ↓IntWalk.iteOmega, HWR.out, hai, hai0, hU] <;> first | done | exact rfl | (rw [IntWalk.i64_in _ (by omega)]; exact rfl) | trace_state)
    refine wpPt_val rfl rfl ?_
    apply Exists.intro
    refine ⟨fun w' hS => ?_, ?_⟩
    focus (skip; simp [go_sem, ↓IntWalk.iteOmega, HWR.out, hai, hai0, hU] <;> first | done | exact rfl | (rw [IntWalk.i64_in _ (by omega)]; exact rfl) | trace_state)
    refine wpPt_val rfl rfl ?_
    apply Exists.intro
    refine ⟨fun w' hS => ?_, ?_⟩
    focus (skip; simp [go_sem, ↓IntWalk.iteOmega, HWR.out, hai, hai0, hU] <;> first | done | exact rfl | (rw [IntWalk.i64_in _ (by omega)]; exact rfl) | trace_state)
    refine wpPt_val rfl rfl ?_
    apply Exists.intro
    refine ⟨fun w' hS => ?_, ?_⟩
    focus (skip; simp [go_sem, ↓IntWalk.iteOmega, HWR.out, hai, hai0, hU] <;> first | done | exact rfl | (rw [IntWalk.i64_in _ (by omega)]; exact rfl) | trace_state)
    refine wpPt_val rfl rfl ?_
    apply Exists.intro
    refine ⟨fun w' hS => ?_, ?_⟩
    focus (skip; simp [go_sem, ↓IntWalk.iteOmega, HWR.out, hai, hai0, hU] <;> first | done | exact rfl | (rw [IntWalk.i64_in _ (by omega)]; exact rfl) | trace_state)
    refine wpPt_one rfl rfl (fun K hK => ?_)
    go_simp
    refine hK _ _ (fun hkn => trivial) ?_
    clear hK K
    refine NoPanic.normal ?_
    go_wp2_with fail
    refine wp_nm2 (fun X => (∀ Y, pa3 = some Y → Y.block < X.heap.size) ∧ KR (.cells #[.int .i64 0, .int .i64 0, .int .i64 0, .slice none 0 0, .int .i64 0, .int .i64 0, .string ⟨#[]⟩, .int .i64 0, .int .i64 0, .int .i64 0] 28 (0, 0)) (.cells #[.int .i64 o, .int .i64 l, .int .i64 m, .slice pa3 R.ps.length pc3, .int .i64 b, .int .i64 R.last, .string (keptB R bits), .int .i64 R.D.length, .int .i64 R.C.length, .int .i64 R.e] 28 (0, 0)) w X E B (n + 201) pa3 pc3 R.ps) ⟨fun Y hY => by have := (hlt8 Y hY).2; simp at this ⊢; omega, H8.out⟩ ?_
    clear H8 H7 c7 z7 l7 f7 s7 HSp hlt8
    intro X hX
    obtain ⟨hlt9, hX⟩ := hX
    have H9 := Lib.hid hX
    have f9 := free_of hX.res
    have s9 := fun i v => setCell_patch hX.res i v
    have r9 := cell_of hX.res
    have z9 := hX.lt
    have l9 := hX.low
    obtain ⟨z9a, z9b⟩ := z9
    clear hX
    refine wp_region_pt 5 (fun w' => w'.heap[E]? = some (.cells #[.int .i64 o, .int .i64 l, .int .i64 m, .slice pa3 R.ps.length pc3, .int .i64 b, .int .i64 R.last, .string (keptB R bits), .int .i64 R.D.length, .int .i64 R.C.length, .int .i64 R.e] 28 (0, 0))) (Plan.quiet 0 (Plan.quiet 1 (Plan.quiet 2 (Plan.quiet 3 (Plan.one 4 (Plan.one 5 Plan.done)))))) (by kernel_rfl) (by kernel_rfl) (by repeat (first | exact H9.out.blk | apply blk_drew)) ?_
    refine wpPt_val rfl rfl ?_
    apply Exists.intro
    refine ⟨fun w' hS => ?_, ?_⟩
    focus (have rS := cell_of hS; simp [go_sem, ↓IntWalk.iteOmega, rS, HWR.out, hai, hai0, hZ] <;> first | done | exact rfl | (rw [IntWalk.i64_in _ (by omega)]; exact rfl) | trace_state)
    refine wpPt_val rfl rfl ?_
    apply Exists.intro
    refine ⟨fun w' hS => ?_, ?_⟩
    focus (have rS := cell_of hS; simp [go_sem, ↓IntWalk.iteOmega, rS, HWR.out, hai, hai0, hZ] <;> first | done | exact rfl | (rw [IntWalk.i64_in _ (by omega)]; exact rfl) | trace_state)
    refine wpPt_val rfl rfl ?_
    apply Exists.intro
    refine ⟨fun w' hS => ?_, ?_⟩
    focus (have rS := cell_of hS; simp [go_sem, ↓IntWalk.iteOmega, rS, HWR.out, hai, hai0, hZ] <;> first | done | exact rfl | (rw [IntWalk.i64_in _ (by omega)]; exact rfl) | trace_state)
    refine wpPt_val rfl rfl ?_
    apply Exists.intro
    refine ⟨fun w' hS => ?_, ?_⟩
    focus (have rS := cell_of hS; simp [go_sem, ↓IntWalk.iteOmega, rS, HWR.out, hai, hai0, hZ] <;> first | done | exact rfl | (rw [IntWalk.i64_in _ (by omega)]; exact rfl) | trace_state)
    refine wpPt_one rfl rfl (fun K hK => ?_)
    go_simp
    refine hK _ _ (fun hkn => (patch_other _ _ _ (by omega)).trans (by repeat (first | exact H9.out.blk | apply blk_drew))) ?_
    clear hK K
    refine wpPt_one rfl rfl (fun K hK => ?_)
    go_simp
    refine hK _ _ (fun hkn => absurd hkn (by decide)) ?_
    clear hK K
    refine NoPanic.normal ?_
    go_wp2_with fail
    exact bodyPost_ret (v := .tuple #[.agg #[.int .i64 o, .int .i64 l, .int .i64 m, .slice pa3 R.ps.length pc3, .int .i64 b, .int .i64 R.last, .string (keptB R bits), .int .i64 R.D.length, .int .i64 R.C.length, .int .i64 R.e], .string Z]) (by simp [results, Tryz.results39, go_sem, ↓IntWalk.iteOmega]) rfl ⟨o, l, m, pa3, pc3, R.ps, b, R.last, keptB R bits, R.D.length, R.C.length, R.e, Z, rfl, hs, hRl, hRk, hZz, Rd.drew (rd_patch H9.out.rd _ _ (fun Y hY => by have := (H9.out.off Y hY).2; omega)), fun Y hY => ⟨(H9.out.off Y hY).2, by have := hlt9 Y hY; simp; omega⟩, drn_of (((H9.out.src.mono (by omega)).of_block (fun k hk hl => patch_other _ _ _ (by omega)) (by simp)).drew) (grew_drew (grew_hi H9.out.grew (Nat.le_refl _) _)) hB⟩
  · have q0 : ((v : Int) == 0) = false := by simp; omega
    have q1 : ((v : Int) == 1) = false := by simp; omega
    go_wp2_with fail
    refine (specNewReader_yes o l m pa pc ps b last _ (by (try unfold RdP); repeat (first | (with_reducible exact HB.out.rd) | (with_reducible apply rd_seq) | (with_reducible apply Rd.plus) | (with_reducible apply Rd.alloc) | (with_reducible apply Rd.drew) | (with_reducible apply Rd.drewN))) (kvb_iff.2 HKV.out)).mono ?_
    rintro e w' ⟨pa2, pc2, rfl, hown, x5, rfl⟩
    (try simp only [plus_plus] at hown)
    have hq2 := fun Y hY => (own_lt hown Y hY).1
    have z5 := HB.out.lt.1
    (try simp at hq2)
    have HQ := Lib.hid hown.rd
    have H5 := Lib.hid ((HB.out.more (by repeat (first | exact More.refl _ | apply More.plus | apply More.alloc | apply More.drew | apply More.drewN))).mono (n2 := n + 200) (by omega))
    clear hown
    go_wp2_with fail
    refine calls_nm (fun X => KR (.cells #[.int .i64 0, .int .i64 0, .int .i64 0, .slice none 0 0, .int .i64 0, .int .i64 0, .string ⟨#[]⟩, .int .i64 0, .int .i64 0, .int .i64 0] 28 (0, 0)) (.cells #[.int .i64 o, .int .i64 l, .int .i64 m, .slice pa2 ps.length pc2, .int .i64 b, .int .i64 last, .string ⟨#[]⟩, .int .i64 0, .int .i64 0, .int .i64 1] 28 (0, 0)) w X (wB.heap.size + x5.n) B (n + 200) pa2 pc2 ps) ?_ ?_
    · exact (H5.out.more (by repeat (first | exact More.refl _ | apply More.plus | apply More.alloc | apply More.drew | apply More.drewN))).swap (push_new _ _ _ (by simp <;> omega)) (by omega) (by (try unfold RdP); repeat (first | (with_reducible exact HQ.out) | (with_reducible apply rd_seq) | (with_reducible apply Rd.plus) | (with_reducible apply Rd.alloc) | (with_reducible apply Rd.drew) | (with_reducible apply Rd.drewN))) (fun Y hY => by have := hq2 Y hY; omega)
    generalize wB.heap.size + x5.n = E
    clear H5 HQ hq2 z5
    intro X hX
    have HX := Lib.hid hX
    clear hX
    refine (pick_d B (n + 200) _ _ HX.out.src (by omega)).mono ?_
    rintro e w7 ⟨at1, rfl, hat, hdn⟩
    have hat2 : at1 ≤ (S).size := by omega
    have H7 := Lib.hid (HX.out.draw hdn)
    have c7 := cell_of H7.out.blk
    have z7 := H7.out.lt.2
    have l7 := H7.out.low
    clear hdn hat HX
    have HWR := Lib.hid (show IntKind.i64.wrap (at1 : Int) = (at1 : Int) from IntWalk.i64_in _ (by omega))
    have hai : (at1 : Int) ≤ ((S).size : Int) := by omega
    have hai0 : (0 : Int) ≤ (at1 : Int) := by omega
    obtain ⟨U, hU⟩ : ∃ U, (S).extract 0 at1 = U := ⟨_, rfl⟩
    have hUz : U.size ≤ 100 := by rw [← hU]; simp; omega
    obtain ⟨Z, hZ⟩ : ∃ Z, (S).extract at1 (S).size = Z := ⟨_, rfl⟩
    have hZz : Z.size ≤ 100 := by rw [← hZ]; simp; omega
    obtain ⟨b', sz, ct, bits, R, hb', hz', hc', F, hSp, _⟩ := reads_go (o := o) (l := l) (m := m) (ps := ps) (base := b) (last := last) (sb := ⟨#[]⟩) (z := 0) (c := 0) (u := U) (by decide) (by omega) (rdb_new (kvb_iff.2 HKV.out))
    obtain rfl : b = b' := by omega
    have hRl := kv_len (kvb_iff.2 F.kv)
    have hRk : (keptB R bits).size ≤ 1000 := by
      have := F.len
      unfold keptB
      split
      · rw [bstr_size, List.length_drop]
        have h0 : (⟨#[]⟩ : ByteArray).size = 0 := rfl
        omega
      · show 0 ≤ 1000
        omega
    have HSp := Lib.hid hSp
    have hU' := hU
    clear F hSp hz' hc' hb'
    go_wp2_with fail
    refine wp_region_pt 11 (fun _ => True) (Plan.quiet 1 (Plan.quiet 2 (Plan.quiet 3 (Plan.one 0 (Plan.one 4 (Plan.quiet 5 (Plan.quiet 6 (Plan.quiet 7 (Plan.quiet 8 (Plan.quiet 9 (Plan.one 10 Plan.done))))))))))) (by kernel_rfl) (by kernel_rfl) (trivial) ?_
    refine wpPt_val rfl rfl ?_
    apply Exists.intro
    refine ⟨fun w' hS => ?_, ?_⟩
    focus (skip; simp [go_sem, ↓IntWalk.iteOmega, HWR.out, hai, hai0, hU] <;> first | done | exact rfl | (rw [IntWalk.i64_in _ (by omega)]; exact rfl) | trace_state)
    refine wpPt_val rfl rfl ?_
    apply Exists.intro
    refine ⟨fun w' hS => ?_, ?_⟩
    focus (skip; simp [go_sem, ↓IntWalk.iteOmega, HWR.out, hai, hai0, hU] <;> first | done | exact rfl | (rw [IntWalk.i64_in _ (by omega)]; exact rfl) | trace_state)
    refine wpPt_val rfl rfl ?_
    apply Exists.intro
    refine ⟨fun w' hS => ?_, ?_⟩
    focus (skip; simp [go_sem, ↓IntWalk.iteOmega, HWR.out, hai, hai0, hU] <;> first | done | exact rfl | (rw [IntWalk.i64_in _ (by omega)]; exact rfl) | trace_state)
    refine wpPt_one rfl rfl (fun K hK => ?_)
    go_simp
    (try simp [go_sem, ↓IntWalk.iteOmega, c7])
    refine hK _ _ (fun hkn => trivial) ?_
    clear hK K
    refine wpPt_one rfl rfl (fun K hK => ?_)
    go_simp
    refine (HSp.out _ _ _ (by (try unfold RdP); repeat (first | (with_reducible exact H7.out.rd) | (with_reducible apply rd_seq) | (with_reducible apply Rd.plus) | (with_reducible apply Rd.alloc) | (with_reducible apply Rd.drew) | (with_reducible apply Rd.drewN)))).mono ?_
    rintro e w8 ⟨pa3, pc3, rfl, hown, x8, rfl⟩
    have f7 := free_of H7.out.blk
    have s7 := fun i v => setCell_patch H7.out.blk i v
    have H8 := Lib.hid (KR.step (cur := #[.int .i64 o, .int .i64 l, .int .i64 m, .slice pa3 R.ps.length pc3, .int .i64 b, .int .i64 R.last, .string (keptB R bits), .int .i64 R.D.length, .int .i64 R.C.length, .int .i64 R.e]) (t := 28) H7.out hown)
    have hlt8 := own_lt hown
    clear hown
    refine hK _ _ (fun hkn => trivial) ?_
    clear hK K
    refine wpPt_val rfl rfl ?_
    apply Exists.intro
    refine ⟨fun w' hS => ?_, ?_⟩
    focus (skip; simp [go_sem, ↓IntWalk.iteOmega, HWR.out, hai, hai0, hU] <;> first | done | exact rfl | (rw [IntWalk.i64_in _ (by omega)]; exact rfl) | trace_state)
    refine wpPt_val rfl rfl ?_
    apply Exists.intro
    refine ⟨fun w' hS => ?_, ?_⟩
    focus (skip; simp [go_sem, ↓IntWalk.iteOmega, HWR.out, hai, hai0, hU] <;> first | done | exact rfl | (rw [IntWalk.i64_in _ (by omega)]; exact rfl) | trace_state)
    refine wpPt_val rfl rfl ?_
    apply Exists.intro
    refine ⟨fun w' hS => ?_, ?_⟩
    focus (skip; simp [go_sem, ↓IntWalk.iteOmega, HWR.out, hai, hai0, hU] <;> first | done | exact rfl | (rw [IntWalk.i64_in _ (by omega)]; exact rfl) | trace_state)
    refine wpPt_val rfl rfl ?_
    apply Exists.intro
    refine ⟨fun w' hS => ?_, ?_⟩
    focus (skip; simp [go_sem, ↓IntWalk.iteOmega, HWR.out, hai, hai0, hU] <;> first | done | exact rfl | (rw [IntWalk.i64_in _ (by omega)]; exact rfl) | trace_state)
    refine wpPt_val rfl rfl ?_
    apply Exists.intro
    refine ⟨fun w' hS => ?_, ?_⟩
    focus (skip; simp [go_sem, ↓IntWalk.iteOmega, HWR.out, hai, hai0, hU] <;> first | done | exact rfl | (rw [IntWalk.i64_in _ (by omega)]; exact rfl) | trace_state)
    refine wpPt_one rfl rfl (fun K hK => ?_)
    go_simp
    refine hK _ _ (fun hkn => trivial) ?_
    clear hK K
    refine NoPanic.normal ?_
    go_wp2_with fail
    refine wp_nm2 (fun X => (∀ Y, pa3 = some Y → Y.block < X.heap.size) ∧ KR (.cells #[.int .i64 0, .int .i64 0, .int .i64 0, .slice none 0 0, .int .i64 0, .int .i64 0, .string ⟨#[]⟩, .int .i64 0, .int .i64 0, .int .i64 0] 28 (0, 0)) (.cells #[.int .i64 o, .int .i64 l, .int .i64 m, .slice pa3 R.ps.length pc3, .int .i64 b, .int .i64 R.last, .string (keptB R bits), .int .i64 R.D.length, .int .i64 R.C.length, .int .i64 R.e] 28 (0, 0)) w X E B (n + 201) pa3 pc3 R.ps) ⟨fun Y hY => by have := (hlt8 Y hY).2; simp at this ⊢; omega, H8.out⟩ ?_
    clear H8 H7 c7 z7 l7 f7 s7 HSp hlt8
    intro X hX
    obtain ⟨hlt9, hX⟩ := hX
    have H9 := Lib.hid hX
    have f9 := free_of hX.res
    have s9 := fun i v => setCell_patch hX.res i v
    have r9 := cell_of hX.res
    have z9 := hX.lt
    have l9 := hX.low
    obtain ⟨z9a, z9b⟩ := z9
    clear hX
    refine wp_region_pt 5 (fun w' => w'.heap[E]? = some (.cells #[.int .i64 o, .int .i64 l, .int .i64 m, .slice pa3 R.ps.length pc3, .int .i64 b, .int .i64 R.last, .string (keptB R bits), .int .i64 R.D.length, .int .i64 R.C.length, .int .i64 R.e] 28 (0, 0))) (Plan.quiet 0 (Plan.quiet 1 (Plan.quiet 2 (Plan.quiet 3 (Plan.one 4 (Plan.one 5 Plan.done)))))) (by kernel_rfl) (by kernel_rfl) (by repeat (first | exact H9.out.blk | apply blk_drew)) ?_
    refine wpPt_val rfl rfl ?_
    apply Exists.intro
    refine ⟨fun w' hS => ?_, ?_⟩
    focus (have rS := cell_of hS; simp [go_sem, ↓IntWalk.iteOmega, rS, HWR.out, hai, hai0, hZ] <;> first | done | exact rfl | (rw [IntWalk.i64_in _ (by omega)]; exact rfl) | trace_state)
    refine wpPt_val rfl rfl ?_
    apply Exists.intro
    refine ⟨fun w' hS => ?_, ?_⟩
    focus (have rS := cell_of hS; simp [go_sem, ↓IntWalk.iteOmega, rS, HWR.out, hai, hai0, hZ] <;> first | done | exact rfl | (rw [IntWalk.i64_in _ (by omega)]; exact rfl) | trace_state)
    refine wpPt_val rfl rfl ?_
    apply Exists.intro
    refine ⟨fun w' hS => ?_, ?_⟩
    focus (have rS := cell_of hS; simp [go_sem, ↓IntWalk.iteOmega, rS, HWR.out, hai, hai0, hZ] <;> first | done | exact rfl | (rw [IntWalk.i64_in _ (by omega)]; exact rfl) | trace_state)
    refine wpPt_val rfl rfl ?_
    apply Exists.intro
    refine ⟨fun w' hS => ?_, ?_⟩
    focus (have rS := cell_of hS; simp [go_sem, ↓IntWalk.iteOmega, rS, HWR.out, hai, hai0, hZ] <;> first | done | exact rfl | (rw [IntWalk.i64_in _ (by omega)]; exact rfl) | trace_state)
    refine wpPt_one rfl rfl (fun K hK => ?_)
    go_simp
    refine hK _ _ (fun hkn => (patch_other _ _ _ (by omega)).trans (by repeat (first | exact H9.out.blk | apply blk_drew))) ?_
    clear hK K
    refine wpPt_one rfl rfl (fun K hK => ?_)
    go_simp
    refine hK _ _ (fun hkn => absurd hkn (by decide)) ?_
    clear hK K
    refine NoPanic.normal ?_
    go_wp2_with fail
    exact bodyPost_ret (v := .tuple #[.agg #[.int .i64 o, .int .i64 l, .int .i64 m, .slice pa3 R.ps.length pc3, .int .i64 b, .int .i64 R.last, .string (keptB R bits), .int .i64 R.D.length, .int .i64 R.C.length, .int .i64 R.e], .string Z]) (by simp [results, Tryz.results39, go_sem, ↓IntWalk.iteOmega]) rfl ⟨o, l, m, pa3, pc3, R.ps, b, R.last, keptB R bits, R.D.length, R.C.length, R.e, Z, rfl, hs, hRl, hRk, hZz, Rd.drew (rd_patch H9.out.rd _ _ (fun Y hY => by have := (H9.out.off Y hY).2; omega)), fun Y hY => ⟨(H9.out.off Y hY).2, by have := hlt9 Y hY; simp; omega⟩, drn_of (((H9.out.src.mono (by omega)).of_block (fun k hk hl => patch_other _ _ _ (by omega)) (by simp)).drew) (grew_drew (grew_hi H9.out.grew (Nat.le_refl _) _)) hB⟩

end Go.Proofs.YtmddcbebaijjkaaGreatDoor

/- Draws: readers that may be bad (l3BadReader). Under way. -/
namespace Go.Proofs.YtmddcbebaijjkaaGreatDoor
open Go.RowKit
set_option linter.unusedVariables false
set_option linter.unusedSimpArgs false

theorem rd_patch0 {α : Type} {E : Enc α} {w : World} {a : Option Addr} {cap : Nat} {xs : List α} (h : Rd E w a cap xs) (b : Nat) (o : Obj) (hb : ∀ A, a = some A → 0 < cap → A.block ≠ b) : Rd E (patch w b o) a cap xs := by
  rcases Nat.eq_zero_or_pos cap with h0 | h0
  · exact ⟨h.1, h.2.1, .inl h0⟩
  · exact rd_patch h b o fun A hA => hb A hA h0

/-- an argument's block and a result's block beside a source -/
structure KB (pb qb : Obj) (w wr : World) (B n : Nat) (pa : Option Addr) (pc : Nat) (ps : List Pr) : Prop where
  par : wr.heap[w.heap.size]? = some pb
  res : wr.heap[w.heap.size + 1]? = some qb
  rd : Rd encP wr pa pc ps
  off : ∀ Y, pa = some Y → Y.block ≠ B
  fit : ∀ Y, pa = some Y → 0 < pc → Y.block < w.heap.size
  src : Dsrc wr B n
  grew : Grew (some ⟨B, 0, none⟩) w wr
  low : B < w.heap.size

section
variable {pb qb : Obj} {w wr w' : World} {B n n' : Nat} {pa : Option Addr} {pc : Nat} {ps : List Pr}

theorem KB.lt (h : KB pb qb w wr B n pa pc ps) : w.heap.size + 1 < wr.heap.size := (Array.getElem?_eq_some_iff.1 h.res).1

theorem KB.draw (h : KB pb qb w wr B n pa pc ps) (hd : Drn wr B n' w') : KB pb qb w w' B n' pa pc ps := by
  have hg := hd.grew
  have hlow := h.low
  exact ⟨blk_grew hg h.par (fun X hX e => by cases hX; simp at e; omega), blk_grew hg h.res (fun X hX e => by cases hX; simp at e; omega), rd_grew h.rd hg (fun X Y hX hY => by cases hX; exact (h.off Y hY).symm), h.off, h.fit, hd.1, grew_trans h.grew hg, hlow⟩

theorem KB.more (h : KB pb qb w wr B n pa pc ps) (hm : More wr w') : KB pb qb w w' B n pa pc ps := by
  obtain ⟨x, rfl⟩ := hm
  exact ⟨blk_plus h.par x, blk_plus h.res x, Rd.plus h.rd x, h.off, h.fit, h.src.plus x, grew_plus h.grew x, h.low⟩

end

/-- what l3BadReader leaves -/
def RetBR (w : World) (B n : Nat) (pa0 : Option Addr) (e : Ending) (w' : World) : Prop := ∃ (o l m : Int) (pa : Option Addr) (pc : Nat) (ps : List Pr) (base last : Int) (s : ByteArray) (z c e1 : Int),
  e = .returned (.agg #[.int .i64 o, .int .i64 l, .int .i64 m, .slice pa ps.length pc, .int .i64 base, .int .i64 last, .string s, .int .i64 z, .int .i64 c, .int .i64 e1]) ∧ ps.length ≤ 3000 ∧ s.size ≤ 1000 ∧ RdP w' pa pc ps ∧ (∀ X, pa = some X → pa0 = some X ∨ w.heap.size ≤ X.block) ∧ Drn w B n w'




set_option maxRecDepth 100000 in
set_option maxHeartbeats 4000000 in
theorem l3BadReader_d (B n : Nat) (o l m : Int) (pa : Option Addr) (pc : Nat) (ps : List Pr) (b : Nat) (last : Int) (s : ByteArray) (z c e1 : Int) (w : World) (hd : Dsrc w B n) (hn : n ≤ 600000) (hs : sv o l m = true) (hr : RdP w pa pc ps) (hoff : ∀ X, pa = some X → X.block ≠ B) (hlen : ps.length ≤ 2000) (hss : s.size ≤ 1000) (hfit : ∀ X, pa = some X → X.block < w.heap.size) :
    Calls Tryz.prog 43 #[.pointer (some ⟨B, 0, none⟩), .agg #[.int .i64 o, .int .i64 l, .int .i64 m, .slice pa ps.length pc, .int .i64 b, .int .i64 last, .string s, .int .i64 z, .int .i64 c, .int .i64 e1]] w (RetBR w B (n + 6) pa) := by
  have hB := hd.B_lt
  have HD := Lib.hid hd
  have HR := Lib.hid (show Rd encP w pa pc ps from hr)
  have HOF := Lib.hid hoff
  have HLT := Lib.hid (fun Y hY hc => rd_lt hr Y hY hc)
  clear hd hr hoff
  go_enter Tryz.func43, Tryz.ntmps43
  go_wp2_with fail
  refine calls_nm (fun X => KB (.cells #[.int .i64 o, .int .i64 l, .int .i64 m, .slice pa ps.length pc, .int .i64 b, .int .i64 last, .string s, .int .i64 z, .int .i64 c, .int .i64 e1] 28 (0, 0)) (.cells #[.int .i64 0, .int .i64 0, .int .i64 0, .slice none 0 0, .int .i64 0, .int .i64 0, .string ⟨#[]⟩, .int .i64 0, .int .i64 0, .int .i64 0] 28 (0, 0)) w X B n pa pc ps) ⟨(by repeat (first | (with_reducible exact push_new _ _ _ rfl) | (with_reducible exact push_new _ _ _ (by simp)) | (with_reducible apply blk_plus) | (with_reducible apply blk_alloc) | (with_reducible apply blk_drew) | (with_reducible refine blk_patch ?_ (by omega)))), ?_, (by (try unfold RdP); repeat (first | (with_reducible exact HR.out) | (with_reducible apply rd_seq) | (with_reducible apply Rd.plus) | (with_reducible apply Rd.alloc) | (with_reducible apply Rd.drew) | (with_reducible apply Rd.drewN))), HOF.out, HLT.out, (by repeat (first | (with_reducible exact HD.out) | (with_reducible apply dsrc_seq) | (with_reducible apply dsrc_draw) | (with_reducible apply Dsrc.plus) | (with_reducible apply Dsrc.alloc) | (with_reducible apply Dsrc.drew))), (by repeat (first | (with_reducible exact grew_refl _ _) | (with_reducible apply grew_plus) | (with_reducible apply grew_alloc) | (with_reducible apply grew_drew) | (with_reducible apply grew_pat))), hB⟩ ?_
  · exact push_new _ _ _ (by simp <;> omega)
  intro X hX
  have HX := Lib.hid hX
  clear hX HR HD HLT
  refine (pick_d B n _ _ HX.out.src (by omega)).mono ?_
  rintro e w1 ⟨v, rfl, hv, hdn⟩
  have H1 := Lib.hid (HX.out.draw hdn)
  clear hdn HX
  have r1 := cell_of H1.out.par
  have f1 := free_of H1.out.par
  have s1 := fun i v => setCell_patch H1.out.par i v
  have rc1 := cell_of H1.out.res
  have fc1 := free_of H1.out.res
  have sc1 := fun i v => setCell_patch H1.out.res i v
  have z1 := H1.out.lt
  rcases (by omega : v = 0 ∨ v = 1 ∨ v = 2 ∨ v = 3 ∨ v = 4 ∨ 4 < v) with hv0 | hv0 | hv0 | hv0 | hv0 | hv0
  · have q0 : ((v : Int) == 0) = true := by simp; omega
    clear hv0
    go_wp2_with fail
    refine (l2Bad_d B (n + 1) o l m pa pc ps b last _ (by repeat (first | (with_reducible exact H1.out.src) | apply Dsrc.alloc | apply Dsrc.drew)) (by omega) hs (by repeat (first | (with_reducible exact H1.out.rd) | apply Rd.alloc | apply Rd.drew)) H1.out.off hlen).mono ?_
    rintro e w2 ⟨o2, l2', m2, pa2, pc2, qs, b2, last2, rfl, hq2, hrd2, hpa2, hdn⟩
    have H2 := Lib.hid ((H1.out.more (by repeat (first | exact More.refl _ | apply More.plus | apply More.alloc | apply More.drew | apply More.drewN))).draw hdn)
    have HR2 := Lib.hid (show Rd encP _ pa2 pc2 qs from hrd2)
    have hf2 : ∀ X, pa2 = some X → 0 < pc2 → X.block ≠ w.heap.size ∧ X.block ≠ w.heap.size + 1 := fun X hX hc => by
      rcases hpa2 X hX with h | h
      · have := hfit X h; omega
      · omega
    clear hdn hrd2 r1 f1 s1 rc1 fc1 sc1
    have r2 := cell_of H2.out.par
    have f2 := free_of H2.out.par
    have s2 := fun i v => setCell_patch H2.out.par i v
    have rc2 := cell_of H2.out.res
    have fc2 := free_of H2.out.res
    have sc2 := fun i v => setCell_patch H2.out.res i v
    have z2 := H2.out.lt
    go_wp2_with fail
    exact bodyPost_ret (v := .agg #[.int .i64 o2, .int .i64 l2', .int .i64 m2, .slice pa2 qs.length pc2, .int .i64 b2, .int .i64 last2, .string s, .int .i64 z, .int .i64 c, .int .i64 e1]) (by simp [results, Tryz.results43, go_sem, ↓IntWalk.iteOmega]) rfl ⟨o2, l2', m2, pa2, pc2, qs, b2, last2, s, z, c, e1, rfl, by omega, by omega, (by unfold RdP; exact rd_patch0 (rd_patch0 HR2.out _ _ (fun X hX hc => (hf2 X hX hc).2)) _ _ (fun X hX hc => (hf2 X hX hc).1)), (fun X hX => by
      rcases hpa2 X hX with h | h
      · exact .inl h
      · exact .inr (by have := H1.out.lt; (try simp at h); omega)), drn_of (Dsrc.mono (by repeat (first | (with_reducible exact H2.out.src) | refine Dsrc.of_block ?_ (fun k hk hl => patch_other _ _ _ (by omega)) (by simp) | apply Dsrc.plus | apply Dsrc.alloc | apply Dsrc.drew) : Dsrc _ B (n + 4)) (by omega)) (by repeat (first | (with_reducible exact H2.out.grew) | refine grew_hi ?_ (by omega) _ | apply grew_plus | apply grew_alloc | apply grew_drew)) hB⟩
  · have q0 : ((v : Int) == 0) = false := by simp; omega
    have q1 : ((v : Int) == 1) = true := by simp; omega
    clear hv0
    go_wp2_with fail
    refine (num_d B (n + 1) _ (by repeat (first | (with_reducible exact H1.out.src) | apply Dsrc.alloc | apply Dsrc.drew)) (by omega) _ _ [-1, 0, 2, 3, 4] (by exact rd_lit _ _ _ _ _ (by simp <;> omega) rfl (by simp)) (fun X hX => by cases hX; simp <;> omega) (by simp)).mono ?_
    rintro e w2 ⟨y, rfl, hy, hdn⟩
    have H2 := Lib.hid ((H1.out.more (by repeat (first | exact More.refl _ | apply More.plus | apply More.alloc | apply More.drew | apply More.drewN))).draw hdn)
    clear hdn hy r1 f1 s1 rc1 fc1 sc1
    have r2 := cell_of H2.out.par
    have f2 := free_of H2.out.par
    have s2 := fun i v => setCell_patch H2.out.par i v
    have rc2 := cell_of H2.out.res
    have fc2 := free_of H2.out.res
    have sc2 := fun i v => setCell_patch H2.out.res i v
    have z2 := H2.out.lt
    go_wp2_with fail
    exact bodyPost_ret (v := .agg #[.int .i64 o, .int .i64 l, .int .i64 m, .slice pa ps.length pc, .int .i64 b, .int .i64 last, .string s, .int .i64 z, .int .i64 c, .int .i64 y]) (by simp [results, Tryz.results43, go_sem, ↓IntWalk.iteOmega]) rfl ⟨o, l, m, pa, pc, ps, b, last, s, z, c, y, rfl, by omega, by omega, (by unfold RdP; repeat (first | (with_reducible exact H2.out.rd) | refine rd_patch0 ?_ _ _ (fun X hX hc => by have := H2.out.fit X hX hc; omega) | apply Rd.plus | apply Rd.alloc | apply Rd.drew)), fun X hX => .inl hX, drn_of (Dsrc.mono (by repeat (first | (with_reducible exact H2.out.src) | refine Dsrc.of_block ?_ (fun k hk hl => patch_other _ _ _ (by omega)) (by simp) | apply Dsrc.plus | apply Dsrc.alloc | apply Dsrc.drew) : Dsrc _ B (n + 2)) (by omega)) (by repeat (first | (with_reducible exact H2.out.grew) | refine grew_hi ?_ (by omega) _ | apply grew_plus | apply grew_alloc | apply grew_drew)) hB⟩
  · have q0 : ((v : Int) == 0) = false := by simp; omega
    have q1 : ((v : Int) == 1) = false := by simp; omega
    have q2 : ((v : Int) == 2) = true := by simp; omega
    clear hv0
    go_wp2_with fail
    refine (of_d B (n + 1) _ (by repeat (first | (with_reducible exact H1.out.src) | apply Dsrc.alloc | apply Dsrc.drew)) (by omega) _ _ [⟨#[48, 48, 48, 48, 48, 48, 48, 48, 48, 48]⟩, ⟨#[50]⟩, ⟨#[49]⟩] (by exact rdS_lit _ _ _ _ _ (by simp <;> omega) rfl (by simp)) (fun X hX => by cases hX; simp <;> omega) (by simp)).mono ?_
    rintro e w2 ⟨y, rfl, hy, hdn⟩
    have hy2 : y.size ≤ 10 := by
      simp only [List.mem_cons, List.not_mem_nil, or_false] at hy
      rcases hy with rfl | rfl | rfl <;> decide
    have H2 := Lib.hid ((H1.out.more (by repeat (first | exact More.refl _ | apply More.plus | apply More.alloc | apply More.drew | apply More.drewN))).draw hdn)
    clear hdn hy r1 f1 s1 rc1 fc1 sc1
    have r2 := cell_of H2.out.par
    have f2 := free_of H2.out.par
    have s2 := fun i v => setCell_patch H2.out.par i v
    have rc2 := cell_of H2.out.res
    have fc2 := free_of H2.out.res
    have sc2 := fun i v => setCell_patch H2.out.res i v
    have z2 := H2.out.lt
    go_wp2_with fail
    exact bodyPost_ret (v := .agg #[.int .i64 o, .int .i64 l, .int .i64 m, .slice pa ps.length pc, .int .i64 b, .int .i64 last, .string y, .int .i64 z, .int .i64 c, .int .i64 e1]) (by simp [results, Tryz.results43, go_sem, ↓IntWalk.iteOmega]) rfl ⟨o, l, m, pa, pc, ps, b, last, y, z, c, e1, rfl, by omega, by omega, (by unfold RdP; repeat (first | (with_reducible exact H2.out.rd) | refine rd_patch0 ?_ _ _ (fun X hX hc => by have := H2.out.fit X hX hc; omega) | apply Rd.plus | apply Rd.alloc | apply Rd.drew)), fun X hX => .inl hX, drn_of (Dsrc.mono (by repeat (first | (with_reducible exact H2.out.src) | refine Dsrc.of_block ?_ (fun k hk hl => patch_other _ _ _ (by omega)) (by simp) | apply Dsrc.plus | apply Dsrc.alloc | apply Dsrc.drew) : Dsrc _ B (n + 2)) (by omega)) (by repeat (first | (with_reducible exact H2.out.grew) | refine grew_hi ?_ (by omega) _ | apply grew_plus | apply grew_alloc | apply grew_drew)) hB⟩
  · have q0 : ((v : Int) == 0) = false := by simp; omega
    have q1 : ((v : Int) == 1) = false := by simp; omega
    have q2 : ((v : Int) == 2) = false := by simp; omega
    have q3 : ((v : Int) == 3) = true := by simp; omega
    clear hv0
    go_wp2_with fail
    refine (num_d B (n + 1) _ (by repeat (first | (with_reducible exact H1.out.src) | apply Dsrc.alloc | apply Dsrc.drew)) (by omega) _ _ [-1, 2000, 2001, 1999] (by exact rd_lit _ _ _ _ _ (by simp <;> omega) rfl (by simp)) (fun X hX => by cases hX; simp <;> omega) (by simp)).mono ?_
    rintro e w2 ⟨y, rfl, hy, hdn⟩
    have H2 := Lib.hid ((H1.out.more (by repeat (first | exact More.refl _ | apply More.plus | apply More.alloc | apply More.drew | apply More.drewN))).draw hdn)
    clear hdn hy r1 f1 s1 rc1 fc1 sc1
    have r2 := cell_of H2.out.par
    have f2 := free_of H2.out.par
    have s2 := fun i v => setCell_patch H2.out.par i v
    have rc2 := cell_of H2.out.res
    have fc2 := free_of H2.out.res
    have sc2 := fun i v => setCell_patch H2.out.res i v
    have z2 := H2.out.lt
    go_wp2_with fail
    exact bodyPost_ret (v := .agg #[.int .i64 o, .int .i64 l, .int .i64 m, .slice pa ps.length pc, .int .i64 b, .int .i64 last, .string s, .int .i64 y, .int .i64 c, .int .i64 e1]) (by simp [results, Tryz.results43, go_sem, ↓IntWalk.iteOmega]) rfl ⟨o, l, m, pa, pc, ps, b, last, s, y, c, e1, rfl, by omega, by omega, (by unfold RdP; repeat (first | (with_reducible exact H2.out.rd) | refine rd_patch0 ?_ _ _ (fun X hX hc => by have := H2.out.fit X hX hc; omega) | apply Rd.plus | apply Rd.alloc | apply Rd.drew)), fun X hX => .inl hX, drn_of (Dsrc.mono (by repeat (first | (with_reducible exact H2.out.src) | refine Dsrc.of_block ?_ (fun k hk hl => patch_other _ _ _ (by omega)) (by simp) | apply Dsrc.plus | apply Dsrc.alloc | apply Dsrc.drew) : Dsrc _ B (n + 2)) (by omega)) (by repeat (first | (with_reducible exact H2.out.grew) | refine grew_hi ?_ (by omega) _ | apply grew_plus | apply grew_alloc | apply grew_drew)) hB⟩
  · have q0 : ((v : Int) == 0) = false := by simp; omega
    have q1 : ((v : Int) == 1) = false := by simp; omega
    have q2 : ((v : Int) == 2) = false := by simp; omega
    have q3 : ((v : Int) == 3) = false := by simp; omega
    have q4 : ((v : Int) == 4) = true := by simp; omega
    clear hv0
    go_wp2_with fail
    refine (num_d B (n + 1) _ (by repeat (first | (with_reducible exact H1.out.src) | apply Dsrc.alloc | apply Dsrc.drew)) (by omega) _ _ [-1, 3100, 3101, 3099] (by exact rd_lit _ _ _ _ _ (by simp <;> omega) rfl (by simp)) (fun X hX => by cases hX; simp <;> omega) (by simp)).mono ?_
    rintro e w2 ⟨y, rfl, hy, hdn⟩
    have H2 := Lib.hid ((H1.out.more (by repeat (first | exact More.refl _ | apply More.plus | apply More.alloc | apply More.drew | apply More.drewN))).draw hdn)
    clear hdn hy r1 f1 s1 rc1 fc1 sc1
    have r2 := cell_of H2.out.par
    have f2 := free_of H2.out.par
    have s2 := fun i v => setCell_patch H2.out.par i v
    have rc2 := cell_of H2.out.res
    have fc2 := free_of H2.out.res
    have sc2 := fun i v => setCell_patch H2.out.res i v
    have z2 := H2.out.lt
    go_wp2_with fail
    exact bodyPost_ret (v := .agg #[.int .i64 o, .int .i64 l, .int .i64 m, .slice pa ps.length pc, .int .i64 b, .int .i64 last, .string s, .int .i64 z, .int .i64 y, .int .i64 e1]) (by simp [results, Tryz.results43, go_sem, ↓IntWalk.iteOmega]) rfl ⟨o, l, m, pa, pc, ps, b, last, s, z, y, e1, rfl, by omega, by omega, (by unfold RdP; repeat (first | (with_reducible exact H2.out.rd) | refine rd_patch0 ?_ _ _ (fun X hX hc => by have := H2.out.fit X hX hc; omega) | apply Rd.plus | apply Rd.alloc | apply Rd.drew)), fun X hX => .inl hX, drn_of (Dsrc.mono (by repeat (first | (with_reducible exact H2.out.src) | refine Dsrc.of_block ?_ (fun k hk hl => patch_other _ _ _ (by omega)) (by simp) | apply Dsrc.plus | apply Dsrc.alloc | apply Dsrc.drew) : Dsrc _ B (n + 2)) (by omega)) (by repeat (first | (with_reducible exact H2.out.grew) | refine grew_hi ?_ (by omega) _ | apply grew_plus | apply grew_alloc | apply grew_drew)) hB⟩
  · have q0 : ((v : Int) == 0) = false := by simp; omega
    have q1 : ((v : Int) == 1) = false := by simp; omega
    have q2 : ((v : Int) == 2) = false := by simp; omega
    have q3 : ((v : Int) == 3) = false := by simp; omega
    have q4 : ((v : Int) == 4) = false := by simp; omega
    clear hv0
    go_wp2_with fail
    exact bodyPost_ret (v := .agg #[.int .i64 o, .int .i64 l, .int .i64 m, .slice pa ps.length pc, .int .i64 b, .int .i64 last, .string s, .int .i64 z, .int .i64 c, .int .i64 e1]) (by simp [results, Tryz.results43, go_sem, ↓IntWalk.iteOmega]) rfl ⟨o, l, m, pa, pc, ps, b, last, s, z, c, e1, rfl, by omega, by omega, (by unfold RdP; repeat (first | (with_reducible exact H1.out.rd) | refine rd_patch0 ?_ _ _ (fun X hX hc => by have := H1.out.fit X hX hc; omega) | apply Rd.plus | apply Rd.alloc | apply Rd.drew)), fun X hX => .inl hX, drn_of (Dsrc.mono (by repeat (first | (with_reducible exact H1.out.src) | refine Dsrc.of_block ?_ (fun k hk hl => patch_other _ _ _ (by omega)) (by simp) | apply Dsrc.plus | apply Dsrc.alloc | apply Dsrc.drew) : Dsrc _ B (n + 1)) (by omega)) (by repeat (first | (with_reducible exact H1.out.grew) | refine grew_hi ?_ (by omega) _ | apply grew_plus | apply grew_alloc | apply grew_drew)) hB⟩

end Go.Proofs.YtmddcbebaijjkaaGreatDoor

/- Draws: DrawReadStream, DrawReaderValid and what only calls them. -/
namespace Go.Proofs.YtmddcbebaijjkaaGreatDoor
open Go.RowKit
set_option linter.unusedVariables false
set_option linter.unusedSimpArgs false

/-- a block D, a block for the result, beside a source of the call's own -/
structure KE (ob kb : Obj) (w wr : World) (D B n : Nat) (pa : Option Addr) (pc : Nat) (ps : List Pr) : Prop where
  res : wr.heap[w.heap.size]? = some ob
  blk : wr.heap[D]? = some kb
  rd : Rd encP wr pa pc ps
  off : ∀ Y, pa = some Y → Y.block ≠ B ∧ w.heap.size < Y.block
  fit : ∀ Y, pa = some Y → Y.block < wr.heap.size
  src : Dsrc wr B n
  bel : Below w.heap.size w wr
  low : w.heap.size < B ∧ B < D

section
variable {ob kb : Obj} {w wr w' : World} {D B n n' : Nat} {pa : Option Addr} {pc : Nat} {ps : List Pr}

theorem KE.lt (h : KE ob kb w wr D B n pa pc ps) : w.heap.size < wr.heap.size ∧ D < wr.heap.size := ⟨(Array.getElem?_eq_some_iff.1 h.res).1, (Array.getElem?_eq_some_iff.1 h.blk).1⟩

theorem KE.draw (h : KE ob kb w wr D B n pa pc ps) (hd : Drn wr B n' w') : KE ob kb w w' D B n' pa pc ps := by
  have hg := hd.grew
  have hlow := h.low
  have hlt := h.lt
  exact ⟨blk_grew hg h.res (fun X hX e => by cases hX; simp at e; omega), blk_grew hg h.blk (fun X hX e => by cases hX; simp at e; omega), rd_grew h.rd hg (fun X Y hX hY => by cases hX; exact (h.off Y hY).1.symm), h.off, fun Y hY => by have := h.fit Y hY; have := hg.size; omega, hd.1, h.bel.trans (hg.below (B := w.heap.size) (by omega) (fun X hX => by cases hX; simp; omega)), hlow⟩

theorem KE.more (h : KE ob kb w wr D B n pa pc ps) (hm : More wr w') : KE ob kb w w' D B n pa pc ps := by
  obtain ⟨x, rfl⟩ := hm
  have hlt := h.lt
  exact ⟨blk_plus h.res x, blk_plus h.blk x, Rd.plus h.rd x, h.off, fun Y hY => by have := h.fit Y hY; simp; omega, h.src.plus x, below_plus h.bel (by omega) x, h.low⟩

theorem KE.mono {n2 : Nat} (h : KE ob kb w wr D B n pa pc ps) (hn : n ≤ n2) : KE ob kb w wr D B n2 pa pc ps := ⟨h.res, h.blk, h.rd, h.off, h.fit, h.src.mono hn, h.bel, h.low⟩

end

/-- a drawn reader -/
def RetDv (w : World) (e : Ending) (w' : World) : Prop := ∃ (o l m : Int) (pa : Option Addr) (pc : Nat) (ps : List Pr) (base last : Int) (s : ByteArray) (z c e1 : Int),
  e = .returned (.agg #[.int .i64 o, .int .i64 l, .int .i64 m, .slice pa ps.length pc, .int .i64 base, .int .i64 last, .string s, .int .i64 z, .int .i64 c, .int .i64 e1]) ∧ ps.length ≤ 3000 ∧ s.size ≤ 1000 ∧ Rd encP w' pa pc ps ∧ (∀ X, pa = some X → w.heap.size < X.block) ∧ ∃ x, w' = plus w x



set_option maxRecDepth 100000 in
set_option maxHeartbeats 4000000 in
theorem DrawReaderValid_any (a : Option Addr) (cap : Nat) (bs : List UInt8) (w : World) (hr : Rd encB w a cap bs) :
    Calls Tryz.prog 54 #[.slice a bs.length cap] w (RetDv w) := by
  go_enter Tryz.func54, Tryz.ntmps54
  go_wp2_with fail
  refine (l9Open_any a cap bs _ (by repeat (first | exact hr | apply rd_seq | apply Rd.plus | apply Rd.alloc | apply Rd.drew | apply Rd.drewN | refine rd_patch ?_ _ _ (by intro A hA; first | (cases hA; show _ ≠ _; omega) | (have := hal A hA; omega))))).mono ?_
  rintro e w' ⟨B, rfl, hd, hB, x0, rfl⟩
  have HD := Lib.hid hd
  have hBl := hd.B_lt
  simp at hB hBl
  clear hd
  go_wp2_with fail
  refine (l3Reader_d B 0 _ (by repeat (first | (with_reducible exact HD.out) | (with_reducible apply dsrc_seq) | (with_reducible apply dsrc_draw) | (with_reducible apply Dsrc.plus) | (with_reducible apply Dsrc.alloc) | (with_reducible apply Dsrc.drew))) (by omega)).mono ?_
  rintro e w' ⟨o, l, m, pa, pc, ps, b, last, s, z, c, e1, u, rfl, hs, hl2, hs1, hu, hrd, hoff, hdn⟩
  have HR1 := Lib.hid (show Rd encP _ pa pc ps from hrd)
  simp at hoff
  obtain ⟨hd1, cur1, x1, rfl⟩ := hdn
  have HD1 := Lib.hid hd1
  clear hd1
  clear hrd
  go_wp2_with fail
  refine calls_nm (fun X => KE (.cells #[.int .i64 0, .int .i64 0, .int .i64 0, .slice none 0 0, .int .i64 0, .int .i64 0, .string ⟨#[]⟩, .int .i64 0, .int .i64 0, .int .i64 0] 28 (0, 0)) (.cells #[.int .i64 o, .int .i64 l, .int .i64 m, .slice pa ps.length pc, .int .i64 b, .int .i64 last, .string s, .int .i64 z, .int .i64 c, .int .i64 e1] 28 (0, 0)) w X (w.heap.size + 1 + x0.n + x1.n) B 300 pa pc ps) ⟨?_, ?_, (by (try unfold RdP); repeat (first | (with_reducible exact HR1.out) | (with_reducible apply rd_seq) | (with_reducible apply Rd.plus) | (with_reducible apply Rd.alloc) | (with_reducible apply Rd.drew) | (with_reducible apply Rd.drewN))), fun Y hY => by have := hoff Y hY; omega, fun Y hY => by have := hoff Y hY; simp at this ⊢; omega, (by repeat (first | (with_reducible exact HD1.out) | (with_reducible apply dsrc_seq) | (with_reducible apply dsrc_draw) | (with_reducible apply Dsrc.plus) | (with_reducible apply Dsrc.alloc) | (with_reducible apply Dsrc.drew))), (by repeat (first | exact Below.refl _ _ | refine below_plus ?_ (by first | omega | (simp <;> omega)) _ | refine Below.alloc ?_ (by first | omega | (simp <;> omega)) _ | refine below_patch ?_ (by omega) _ | refine Below.drew ?_)), by omega⟩ ?_
  · exact (by repeat (first | (with_reducible exact push_new _ _ _ rfl) | (with_reducible exact push_new _ _ _ (by simp)) | (with_reducible apply blk_plus) | (with_reducible apply blk_alloc) | (with_reducible apply blk_drew) | (with_reducible refine blk_patch ?_ (by omega))))
  · exact push_new _ _ _ (by simp <;> omega)
  generalize w.heap.size + 1 + x0.n + x1.n = D
  intro X hX
  have HX := Lib.hid hX
  have rX := cell_of hX.blk
  have zX := hX.lt
  have lX := hX.low
  obtain ⟨zXa, zXb⟩ := zX
  clear hX HR1 HD1 HD hoff
  refine (l3BadReader_d B 300 o l m pa pc ps b last s z c e1 _ HX.out.src (by omega) hs HX.out.rd (fun X hX => (HX.out.off X hX).1) (by omega) (by omega) HX.out.fit).mono ?_
  have HY := HX
  clear HX
  rintro e w9 ⟨o2, l2', m2, pa9, pc9, qs, base9, last9, s9', z9', c9', e9', rfl, hq9, hsz9, hrd9, hoff9, hdn⟩
  have H9 := Lib.hid (HY.out.draw hdn)
  have HR9 := Lib.hid (show Rd encP _ pa9 pc9 qs from hrd9)
  have hz9 := HY.out.lt.1
  have hblk9 : ∀ X, pa9 = some X → w.heap.size < X.block := fun X hX => by
    rcases hoff9 X hX with h | h
    · exact (HY.out.off X h).2
    · omega
  clear hrd9 hoff9 hdn
  have r9 := cell_of H9.out.res
  have f9 := free_of H9.out.res
  have s9 := fun i v => setCell_patch H9.out.res i v
  have z9 := H9.out.lt.1
  go_wp2_with fail
  exact bodyPost_ret (v := .agg #[.int .i64 o2, .int .i64 l2', .int .i64 m2, .slice pa9 qs.length pc9, .int .i64 base9, .int .i64 last9, .string s9', .int .i64 z9', .int .i64 c9', .int .i64 e9']) (by simp [results, Tryz.results54, go_sem, ↓IntWalk.iteOmega]) rfl ⟨o2, l2', m2, pa9, pc9, qs, base9, last9, s9', z9', c9', e9', rfl, hq9, hsz9, rd_patch HR9.out _ _ (fun X hX => by have := hblk9 X hX; omega), hblk9, below_more (below_patch H9.out.bel (Nat.le_refl _) _)⟩

end Go.Proofs.YtmddcbebaijjkaaGreatDoor
