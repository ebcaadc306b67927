/- The reference's reading of a reader. -/
import Derived.Test.YtmddcbebaijjkaaGreatDoorGn
import Derived.Test.YtmddcbebaijjkaaGreatDoorPrk
import Derived.Deep.DeepCutAuto
namespace Go.Proofs.YtmddcbebaijjkaaGreatDoor
open Go.RowKit
set_option linter.unusedVariables false
set_option linter.unusedSimpArgs false

/-- the parts of a reader, being read by the reference -/
structure RsS (w wr : World) (bt B : Nat) (tx kc : Array Value) (A : Option Addr) (c : Nat) (ys : List Pr) : Prop where
  z : wr.heap[w.heap.size]? = some (.cells #[.int .i64 0, .int .i64 0, .int .i64 0, .slice none 0 0, .int .i64 0, .int .i64 0, .string ⟨#[]⟩, .int .i64 0, .int .i64 0, .int .i64 0] 28 (0, 0))
  k : wr.heap[B]? = some (.cells kc 26 (0, 0))
  t : wr.heap[bt]? = some (.cells tx 9 (0, 0))
  own : Own encP 81 wr A c ys (w.heap.size + 1)
  bel : Below w.heap.size w wr

theorem RsS.more {w wr wr' : World} {bt B : Nat} {tx kc : Array Value} {A : Option Addr} {c : Nat} {ys : List Pr} (h : RsS w wr bt B tx kc A c ys) (hm : More wr wr') : RsS w wr' bt B tx kc A c ys :=
  ⟨blk_mo h.z hm, blk_mo h.k hm, blk_mo h.t hm, own_mo h.own hm, h.bel.trans ((more_below hm).mono h.bel.size)⟩

/-- a reader in a block of its own -/
structure RrS (w wr : World) (B : Nat) (rc : Array Value) (A : Option Addr) (c : Nat) (ys : List Pr) : Prop where
  z : wr.heap[w.heap.size]? = some (.cells #[.int .i64 0, .int .i64 0, .int .i64 0, .slice none 0 0, .int .i64 0, .int .i64 0, .string ⟨#[]⟩, .int .i64 0, .int .i64 0, .int .i64 0] 28 (0, 0))
  r : wr.heap[B]? = some (.cells rc 28 (0, 0))
  own : Own encP 81 wr A c ys (w.heap.size + 1)
  bel : Below w.heap.size w wr
  low : w.heap.size < B

set_option maxRecDepth 100000 in
set_option maxHeartbeats 8000000 in
theorem specParseReader_any (t : ByteArray) (w : World) (hs : t.size ≤ 1048576) : Calls Tryz.prog 7 #[.string t] w (RetRk w t) := by
  have hlim := cutB_lim 124 t
  have hmem := fun x => cutB_mem (c := 124) (s := t) (x := x)
  obtain ⟨xs, hxs⟩ : ∃ xs, cutB 124 t = xs := ⟨_, rfl⟩
  rw [hxs] at hlim hmem
  have HX := Lib.hid hxs
  have HSP := Lib.hid (l9Cut_blk t 124)
  rw [hxs] at HSP
  clear hxs
  go_enter Tryz.func7, Tryz.ntmps7
  go_wp2_with fail
  refine (HSP.out _ hs).mono ?_
  rintro E X ⟨bt, cp, cur, rfl, hb0, hb, hcur, hm⟩
  have hm : More _ X := hm
  simp at hb0
  have HZ := Lib.hid (blk_mo (pushF w _ _ rfl) hm)
  have HB := Lib.hid (((Below.refl w.heap.size w).alloc (Nat.le_refl _) _).trans ((more_below hm).mono (by simp)))
  have rz := cell_of HZ.out
  have fz := free_of HZ.out
  have sz := fun i v => setCell_patch HZ.out i v
  have hX1 : w.heap.size < X.heap.size := (Array.getElem?_eq_some_iff.1 HZ.out).1
  have HBT := Lib.hid hb
  have hX2 : bt < X.heap.size := (Array.getElem?_eq_some_iff.1 hb).1
  clear hm
  by_cases h5 : xs.length = 5
  case neg =>
    have v3 : ((xs.length : Int) == 5) = false := by rw [beq_eq_false_iff_ne]; omega
    have HN := Lib.hid (show (cutB 124 t).length ≠ 5 by rw [HX.out]; exact h5)
    clear hb hcur
    go_wp2_with fail
    exact bodyPost_ret (v := .tuple #[.agg #[.int .i64 0, .int .i64 0, .int .i64 0, .slice none 0 0, .int .i64 0, .int .i64 0, .string ⟨#[]⟩, .int .i64 0, .int .i64 0, .int .i64 0], .bool false]) (by simp [results, Tryz.results7, go_sem, ↓IntWalk.iteOmega]) rfl ⟨0, 0, 0, [], 0, 0, ⟨#[]⟩, 0, 0, 0, false, ⟨none, 0, rfl, .inl ⟨rfl, rfl, rfl⟩, below_more (by repeat (first | (with_reducible exact HB.out) | refine below_plus ?_ (by first | omega | (simp <;> omega)) _ | refine Below.alloc ?_ (by first | omega | (simp <;> omega)) _ | refine below_patch ?_ (by omega) _ | refine Below.drew ?_))⟩, fun h => by (cases h), fun _ => ⟨rfl, rfl, rfl, rfl, rfl, rfl, rfl, rfl, rfl, rfl⟩, fun o' l' m' ps' b' la' s' z' c' e' hk' ht' => absurd ht' (rd_miss HN.out (rdb_bits hk'))⟩
  obtain ⟨f0, f1, f2, f3, f4, rfl⟩ := five_of h5
  have hi0 : f0.size ≤ 1048576 := by have := hmem f0 (by simp); omega
  have hi1 : f1.size ≤ 1048576 := by have := hmem f1 (by simp); omega
  have hi2 : f2.size ≤ 1048576 := by have := hmem f2 (by simp); omega
  have hi3 : f3.size ≤ 1048576 := by have := hmem f3 (by simp); omega
  have hi4 : f4.size ≤ 1048576 := by have := hmem f4 (by simp); omega
  have HPT := Lib.hid (fun o l m ps b la s z c e => rd_parts HX.out (o := o) (l := l) (m := m) (ps := ps) (b := b) (la := la) (s := s) (z := z) (c := c) (e := e))
  have hte : t.size ≠ 0 := fun h => by
    have h1 := cutB_len 124 t
    rw [HX.out] at h1
    have h2 := List.count_le_length (a := (124 : UInt8)) (l := t.data.toList)
    rw [len_list] at h2
    simp at h1
    omega
  have hq0 : (([] : List UInt8) == t.toList) = false := nil_ne hte
  have rb0 : X.cell? ⟨bt, 0, none⟩ = some (.string f0) := (cell_of hb 0).trans (hcur 0 f0 rfl)
  have rb2 : X.cell? ⟨bt, 2, none⟩ = some (.string f2) := (cell_of hb 2).trans (hcur 2 f2 rfl)
  have rb3 : X.cell? ⟨bt, 3, none⟩ = some (.string f3) := (cell_of hb 3).trans (hcur 3 f3 rfl)
  have rb4 : X.cell? ⟨bt, 4, none⟩ = some (.string f4) := (cell_of hb 4).trans (hcur 4 f4 rfl)
  have hc1 := hcur 1 f1 rfl
  clear hmem HSP h5 hb hcur hte
  go_wp2_with fail
  refine (specParseKnown_any f0 _ hi0).mono ?_
  rintro E w' ⟨o, l, m, ps, b, la, ok0, ⟨A, c0, rfl, hown, ⟨x1, rfl⟩⟩, _, _, hg0⟩
  have HG0 := Lib.hid hg0
  have HO := Lib.hid (hown.lower (show w.heap.size + 1 ≤ _ by omega))
  clear hg0 hown
  go_wp2_with fail
  refine (l9Num_any f2 _ hi2).mono ?_
  rintro E w' ⟨z, ok2, rfl, ⟨x3, rfl⟩, hg2⟩
  have HG2 := Lib.hid hg2
  clear hg2
  go_wp2_with fail
  refine (l9Num_any f3 _ hi3).mono ?_
  rintro E w' ⟨c, ok3, rfl, ⟨x4, rfl⟩, hg3⟩
  have HG3 := Lib.hid hg3
  clear hg3
  go_wp2_with fail
  refine (l9Num_any f4 _ hi4).mono ?_
  rintro E w' ⟨e, ok4, rfl, ⟨x5, rfl⟩, hg4⟩
  have HG4 := Lib.hid hg4
  clear hg4
  go_wp2_with fail
  refine wp_nmF (fun V => RsS w V bt (X.heap.size + x1.n) cur #[.int .i64 o, .int .i64 l, .int .i64 m, .slice A ps.length c0, .int .i64 b, .int .i64 la] A c0 ps ∧ w.heap.size < X.heap.size + x1.n) ⟨⟨(by repeat (first | (with_reducible exact HZ.out) | (with_reducible apply plusF) | (with_reducible apply allocF) | (with_reducible apply drewF))), (by repeat (first | exact pushF _ _ _ rfl | exact pushF _ _ _ (by simp) | apply plusF)), (by repeat (first | (with_reducible exact HBT.out) | (with_reducible apply plusF) | (with_reducible apply allocF) | (with_reducible apply drewF))), (by repeat (first | (with_reducible exact HO.out) | (with_reducible apply own_seq) | (with_reducible apply own_draw) | (with_reducible apply Own.plus) | (with_reducible apply Own.alloc) | (with_reducible apply Own.drew) | (with_reducible apply Own.drewN))), (by repeat (first | (with_reducible exact HB.out) | refine below_plus ?_ (by first | omega | (simp <;> omega)) _ | refine Below.alloc ?_ (by first | omega | (simp <;> omega)) _ | refine below_patch ?_ (by omega) _ | refine Below.drew ?_))⟩, by omega⟩ ?_
  generalize X.heap.size + x1.n = B
  intro V hV
  clear rz fz sz rb0 rb2 rb3 rb4 HBT HO HB HZ
  have HS := Lib.hid hV.1
  have hB := hV.2
  have hV1 : w.heap.size < V.heap.size := (Array.getElem?_eq_some_iff.1 hV.1.z).1
  clear hV
  go_cut [13] (fun s13 wx => ∃ (B2 : Nat) (s : ByteArray), s13 = .pointer (some ⟨B2, 0, none⟩) ∧ s.size ≤ 1048576 ∧ (∀ y : ByteArray, y ≠ ⟨#[45]⟩ → f1 = orD y → s = y) ∧ RrS w wx B2 #[.int .i64 o, .int .i64 l, .int .i64 m, .slice A ps.length c0, .int .i64 b, .int .i64 la, .string s, .int .i64 z, .int .i64 c, .int .i64 e] A c0 ps)
  case first =>
    refine wp_region_pt 10 (fun w' => w'.heap[B]? = some (.cells #[.int .i64 o, .int .i64 l, .int .i64 m, .slice A ps.length c0, .int .i64 b, .int .i64 la] 26 (0, 0)) ∧ w'.heap[bt]? = some (.cells cur 9 (0, 0))) (Plan.quiet 0 (Plan.quiet 1 (Plan.quiet 2 (Plan.quiet 3 (Plan.quiet 5 (Plan.quiet 6 (Plan.quiet 7 (Plan.two 4 (Plan.quiet 8 (Plan.one 9 (Plan.one 10 Plan.done))) 9 (Plan.one 4 (Plan.quiet 8 (Plan.one 10 Plan.done))))))))))) (by kernel_rfl) (by kernel_rfl) (⟨drewF HS.out.k, drewF HS.out.t⟩) ?_
    refine wpPt_val rfl rfl ?_
    apply Exists.intro
    refine ⟨fun w' hS => ?_, ?_⟩
    focus (have rK := cell_of hS.1; have rT := cell_of hS.2; simp [go_sem, ↓IntWalk.iteOmega, rK, rT, hc1] <;> first | done | exact rfl | (rw [IntWalk.i64_in _ (by omega)]; exact rfl) | trace_state)
    refine wpPt_val rfl rfl ?_
    apply Exists.intro
    refine ⟨fun w' hS => ?_, ?_⟩
    focus (have rK := cell_of hS.1; have rT := cell_of hS.2; simp [go_sem, ↓IntWalk.iteOmega, rK, rT, hc1] <;> first | done | exact rfl | (rw [IntWalk.i64_in _ (by omega)]; exact rfl) | trace_state)
    refine wpPt_val rfl rfl ?_
    apply Exists.intro
    refine ⟨fun w' hS => ?_, ?_⟩
    focus (have rK := cell_of hS.1; have rT := cell_of hS.2; simp [go_sem, ↓IntWalk.iteOmega, rK, rT, hc1] <;> first | done | exact rfl | (rw [IntWalk.i64_in _ (by omega)]; exact rfl) | trace_state)
    refine wpPt_val rfl rfl ?_
    apply Exists.intro
    refine ⟨fun w' hS => ?_, ?_⟩
    focus (have rK := cell_of hS.1; have rT := cell_of hS.2; simp [go_sem, ↓IntWalk.iteOmega, rK, rT, hc1] <;> first | done | exact rfl | (rw [IntWalk.i64_in _ (by omega)]; exact rfl) | trace_state)
    refine wpPt_val rfl rfl ?_
    apply Exists.intro
    refine ⟨fun w' hS => ?_, ?_⟩
    focus (have rK := cell_of hS.1; have rT := cell_of hS.2; simp [go_sem, ↓IntWalk.iteOmega, rK, rT, hc1] <;> first | done | exact rfl | (rw [IntWalk.i64_in _ (by omega)]; exact rfl) | trace_state)
    refine wpPt_val rfl rfl ?_
    apply Exists.intro
    refine ⟨fun w' hS => ?_, ?_⟩
    focus (have rK := cell_of hS.1; have rT := cell_of hS.2; simp [go_sem, ↓IntWalk.iteOmega, rK, rT, hc1] <;> first | done | exact rfl | (rw [IntWalk.i64_in _ (by omega)]; exact rfl) | trace_state)
    refine wpPt_val rfl rfl ?_
    apply Exists.intro
    refine ⟨fun w' hS => ?_, ?_⟩
    focus (have rK := cell_of hS.1; have rT := cell_of hS.2; simp [go_sem, ↓IntWalk.iteOmega, rK, rT, hc1] <;> first | done | exact rfl | (rw [IntWalk.i64_in _ (by omega)]; exact rfl) | trace_state)
    refine wpPt_two rfl rfl rfl rfl (fun K hK => ?_) (fun K hK => ?_)
    go_simp
    refine (l3None_any f1 _).mono ?_
    rintro E w4 ⟨s, rfl, hm4, hsz, hq⟩
    have hm4 : More _ w4 := hm4
    have HS4 := Lib.hid ((HS.out.more ((by repeat (first | exact More.refl _ | apply More.plus | apply More.alloc | apply More.drew | apply More.drewN)))).more hm4)
    have HQ4 := Lib.hid hq
    have hz4 := HS4.out.bel.size
    have hw4 : w.heap.size < w4.heap.size := (Array.getElem?_eq_some_iff.1 HS4.out.z).1
    (try (have hN4 : w4.heap[V.heap.size]? = some (.cells #[.int .i64 0, .int .i64 0, .int .i64 0, .slice none 0 0, .int .i64 0, .int .i64 0, .string ⟨#[]⟩, .int .i64 0, .int .i64 0, .int .i64 0] 28 (0, 0)) := blk_mo (pushF V _ _ rfl) hm4; have HN4 := Lib.hid hN4; have r4 := cell_of hN4; have f4' := free_of hN4; have s4 := fun i v => setCell_patch hN4 i v; have y4 : V.heap.size < w4.heap.size := (Array.getElem?_eq_some_iff.1 hN4).1; clear hN4))
    clear hm4 hq
    refine hK _ _ (fun hkn => ⟨HS4.out.k, HS4.out.t⟩) ?_
    clear hK K
    refine wpPt_val rfl rfl ?_
    apply Exists.intro
    refine ⟨fun w' hS => ?_, ?_⟩
    focus (have rK := cell_of hS.1; have rT := cell_of hS.2; simp [go_sem, ↓IntWalk.iteOmega, rK, rT, hc1] <;> first | done | exact rfl | (rw [IntWalk.i64_in _ (by omega)]; exact rfl) | trace_state)
    refine wpPt_one rfl rfl (fun K hK => ?_)
    go_simp
    refine hK _ _ (fun hkn => ⟨(by refine allocF ?_ _; first | exact HS4.out.k | exact HS.out.k | exact drewF HS.out.k), (by refine allocF ?_ _; first | exact HS4.out.t | exact HS.out.t | exact drewF HS.out.t)⟩) ?_
    clear hK K
    refine wpPt_one rfl rfl (fun K hK => ?_)
    go_simp
    refine hK _ _ (fun hkn => absurd hkn (by decide)) ?_
    clear hK K
    refine NoPanic.normal ?_
    rotate_left
    go_simp
    refine hK _ _ (fun hkn => ⟨(by refine allocF ?_ _; first | exact HS4.out.k | exact HS.out.k | exact drewF HS.out.k), (by refine allocF ?_ _; first | exact HS4.out.t | exact HS.out.t | exact drewF HS.out.t)⟩) ?_
    clear hK K
    refine wpPt_one rfl rfl (fun K hK => ?_)
    go_simp
    refine (l3None_any f1 _).mono ?_
    rintro E w4 ⟨s, rfl, hm4, hsz, hq⟩
    have hm4 : More _ w4 := hm4
    have HS4 := Lib.hid ((HS.out.more ((by repeat (first | exact More.refl _ | apply More.plus | apply More.alloc | apply More.drew | apply More.drewN)))).more hm4)
    have HQ4 := Lib.hid hq
    have hz4 := HS4.out.bel.size
    have hw4 : w.heap.size < w4.heap.size := (Array.getElem?_eq_some_iff.1 HS4.out.z).1
    (try (have hN4 : w4.heap[V.heap.size]? = some (.cells #[.int .i64 0, .int .i64 0, .int .i64 0, .slice none 0 0, .int .i64 0, .int .i64 0, .string ⟨#[]⟩, .int .i64 0, .int .i64 0, .int .i64 0] 28 (0, 0)) := blk_mo (pushF V _ _ rfl) hm4; have HN4 := Lib.hid hN4; have r4 := cell_of hN4; have f4' := free_of hN4; have s4 := fun i v => setCell_patch hN4 i v; have y4 : V.heap.size < w4.heap.size := (Array.getElem?_eq_some_iff.1 hN4).1; clear hN4))
    clear hm4 hq
    refine hK _ _ (fun hkn => ⟨HS4.out.k, HS4.out.t⟩) ?_
    clear hK K
    refine wpPt_val rfl rfl ?_
    apply Exists.intro
    refine ⟨fun w' hS => ?_, ?_⟩
    focus (have rK := cell_of hS.1; have rT := cell_of hS.2; simp [go_sem, ↓IntWalk.iteOmega, rK, rT, hc1] <;> first | done | exact rfl | (rw [IntWalk.i64_in _ (by omega)]; exact rfl) | trace_state)
    refine wpPt_one rfl rfl (fun K hK => ?_)
    go_simp
    refine hK _ _ (fun hkn => absurd hkn (by decide)) ?_
    clear hK K
    refine NoPanic.normal ?_
    all_goals
      go_wp2_with fail
      go_meet
    · exact ⟨V.heap.size, s, rfl, by omega, HQ4.out, ⟨(patch_other _ _ _ (by omega)).trans HS4.out.z, patch_at _ _ _ (by omega), own_ptF HS4.out.own (fun X hX e => by have := (own_lt HS.out.own X hX).2; omega), below_patch HS4.out.bel (by omega) _, by omega⟩⟩
    · exact ⟨w4.heap.size, s, rfl, by omega, HQ4.out, ⟨allocF HS4.out.z _, pushF _ _ _ rfl, HS4.out.own.alloc _, HS4.out.bel.alloc HS4.out.bel.size _, hw4⟩⟩
  case rest =>
    obtain ⟨B2, s, rfl, hsz, hq1, hR⟩ := hcut
    have HU := Lib.hid (show ∀ (o' l' m' : Int) (ps' : List Pr) (b' la' : Int) (s' : ByteArray) (z' c' e' : Int), rdb o' l' m' ps' b' la' s' z' c' e' = true → t = rdT o' l' m' ps' b' la' s' z' c' e' → o = o' ∧ l = l' ∧ m = m' ∧ ps = ps' ∧ b = b' ∧ la = la' ∧ s = s' ∧ z = z' ∧ c = c' ∧ e = e' from fun o' l' m' ps' b' la' s' z' c' e' hk' ht' => by
      obtain ⟨e0, e1, e2, e3, e4⟩ := HPT.out _ _ _ _ _ _ _ _ _ _ (rdb_bits hk') ht'
      obtain ⟨n1, n2, n3⟩ := (rdb_parts hk').2.nums
      obtain ⟨_, a2, a3, a4, a5, a6, a7⟩ := HG0.out o' l' m' ps' b' la' (rdb_kvb hk') e0
      have b1 := hq1 s' (bits_nodash (rdb_bits hk')) e1
      obtain ⟨c1, _⟩ := HG2.out z' n1 e2
      obtain ⟨d1, _⟩ := HG3.out c' n2 e3
      obtain ⟨g1, _⟩ := HG4.out e' n3 e4
      exact ⟨a2, a3, a4, a5, a6, a7, b1, c1, d1, g1⟩)
    have HR := Lib.hid hR
    clear hR hq1 HG0 HG2 HG3 HG4 HPT HS hB hV1
    have HB := Lib.hid HR.out.bel
    have hlo := HR.out.low
    have hw1 : w.heap.size < wc.heap.size := (Array.getElem?_eq_some_iff.1 HR.out.z).1
    have hw2 : B2 < wc.heap.size := (Array.getElem?_eq_some_iff.1 HR.out.r).1
    have rz := cell_of HR.out.z
    have fz := free_of HR.out.z
    have sz := fun i v => setCell_patch HR.out.z i v
    have rr := cell_of HR.out.r
    have hAo : ∀ X, A = some X → w.heap.size < X.block := fun X hX => (own_lt HR.out.own X hX).1
    have HRd := Lib.hid (show Rd encP wc A c0 ps from HR.out.own.rd)
    have HOw := Lib.hid (show Own encP 81 wc A c0 ps w.heap.size from HR.out.own.lower (by omega))
    go_wp2_with fail
    cases hk : rdb o l m ps b la s z c e
    · refine (specFormatReader_no o l m A c0 ps b la s z c e _ (by (try unfold RdP); repeat (first | (with_reducible exact HRd.out) | (with_reducible apply rd_seq) | (with_reducible apply Rd.plus) | (with_reducible apply Rd.alloc) | (with_reducible apply Rd.drew) | (with_reducible apply Rd.drewN))) (by unfold maxLen; omega) hk).mono ?_
      rintro E w' ⟨rfl, x6, rfl⟩
      have HK := Lib.hid hk
      clear hk
      go_wp2_with fail
      exact bodyPost_ret (v := .tuple #[.agg #[.int .i64 0, .int .i64 0, .int .i64 0, .slice none 0 0, .int .i64 0, .int .i64 0, .string ⟨#[]⟩, .int .i64 0, .int .i64 0, .int .i64 0], .bool false]) (by simp [results, Tryz.results7, go_sem, ↓IntWalk.iteOmega]) rfl ⟨0, 0, 0, [], 0, 0, ⟨#[]⟩, 0, 0, 0, false, ⟨none, 0, rfl, .inl ⟨rfl, rfl, rfl⟩, below_more (by repeat (first | (with_reducible exact HB.out) | refine below_plus ?_ (by first | omega | (simp <;> omega)) _ | refine Below.alloc ?_ (by first | omega | (simp <;> omega)) _ | refine below_patch ?_ (by omega) _ | refine Below.drew ?_))⟩, fun h => by (cases h), fun _ => ⟨rfl, rfl, rfl, rfl, rfl, rfl, rfl, rfl, rfl, rfl⟩, fun o' l' m' ps' b' la' s' z' c' e' hk' ht' => (by obtain ⟨rfl, rfl, rfl, rfl, rfl, rfl, rfl, rfl, rfl, rfl⟩ := HU.out _ _ _ _ _ _ _ _ _ _ hk' ht'; rw [HK.out] at hk'; cases hk')⟩
    · refine (specFormatReader_yes o l m A c0 ps b la s z c e _ (by (try unfold RdP); repeat (first | (with_reducible exact HRd.out) | (with_reducible apply rd_seq) | (with_reducible apply Rd.plus) | (with_reducible apply Rd.alloc) | (with_reducible apply Rd.drew) | (with_reducible apply Rd.drewN))) hsz hk).mono ?_
      rintro E w' ⟨rfl, x6, rfl⟩
      have HK := Lib.hid hk
      clear hk
      by_cases he : rdT o l m ps b la s z c e = t
      · have q9 : ((rdT o l m ps b la s z c e).toList == t.toList) = true := by rw [he]; simp
        have HE := Lib.hid he
        clear he
        go_wp2_with fail
        exact bodyPost_ret (v := .tuple #[.agg #[.int .i64 o, .int .i64 l, .int .i64 m, .slice A ps.length c0, .int .i64 b, .int .i64 la, .string s, .int .i64 z, .int .i64 c, .int .i64 e], .bool true]) (by simp [results, Tryz.results7, go_sem, ↓IntWalk.iteOmega]) rfl ⟨o, l, m, ps, b, la, s, z, c, e, true, ⟨A, c0, rfl, (by repeat (first | (with_reducible exact HOw.out) | (with_reducible apply own_seq) | (with_reducible apply Own.plus) | (with_reducible refine own_ptF ?_ (fun X hX e => by have := hAo X hX; omega)))), below_more (by repeat (first | (with_reducible exact HB.out) | refine below_plus ?_ (by first | omega | (simp <;> omega)) _ | refine Below.alloc ?_ (by first | omega | (simp <;> omega)) _ | refine below_patch ?_ (by omega) _ | refine Below.drew ?_))⟩, fun _ => ⟨HK.out, HE.out.symm⟩, fun h => by (cases h), fun o' l' m' ps' b' la' s' z' c' e' hk' ht' => ⟨rfl, HU.out _ _ _ _ _ _ _ _ _ _ hk' ht'⟩⟩
      · have q9 := ne_lists he
        have HE := Lib.hid he
        clear he
        go_wp2_with fail
        exact bodyPost_ret (v := .tuple #[.agg #[.int .i64 0, .int .i64 0, .int .i64 0, .slice none 0 0, .int .i64 0, .int .i64 0, .string ⟨#[]⟩, .int .i64 0, .int .i64 0, .int .i64 0], .bool false]) (by simp [results, Tryz.results7, go_sem, ↓IntWalk.iteOmega]) rfl ⟨0, 0, 0, [], 0, 0, ⟨#[]⟩, 0, 0, 0, false, ⟨none, 0, rfl, .inl ⟨rfl, rfl, rfl⟩, below_more (by repeat (first | (with_reducible exact HB.out) | refine below_plus ?_ (by first | omega | (simp <;> omega)) _ | refine Below.alloc ?_ (by first | omega | (simp <;> omega)) _ | refine below_patch ?_ (by omega) _ | refine Below.drew ?_))⟩, fun h => by (cases h), fun _ => ⟨rfl, rfl, rfl, rfl, rfl, rfl, rfl, rfl, rfl, rfl⟩, fun o' l' m' ps' b' la' s' z' c' e' hk' ht' => (by obtain ⟨rfl, rfl, rfl, rfl, rfl, rfl, rfl, rfl, rfl, rfl⟩ := HU.out _ _ _ _ _ _ _ _ _ _ hk' ht'; exact absurd ht'.symm HE.out)⟩

end Go.Proofs.YtmddcbebaijjkaaGreatDoor
