/- The program's reading of a reader. -/
import Derived.Test.YtmddcbebaijjkaaGreatDoorGn
import Derived.Test.YtmddcbebaijjkaaGreatDoorGm
namespace Go.Proofs.YtmddcbebaijjkaaGreatDoor
open Go.RowKit
set_option linter.unusedVariables false
set_option linter.unusedSimpArgs false

/-- a reader, being read -/
structure RkS (w wr : World) (bt B : Nat) (tx kc : Array Value) (A : Option Addr) (c : Nat) (ys : List Pr) : Prop where
  z : wr.heap[w.heap.size]? = some (.cells #[.int .i64 0, .int .i64 0, .int .i64 0, .slice none 0 0, .int .i64 0, .int .i64 0, .string ⟨#[]⟩, .int .i64 0, .int .i64 0, .int .i64 0] 28 (0, 0))
  k : wr.heap[B]? = some (.cells kc 28 (0, 0))
  t : wr.heap[bt]? = some (.cells tx 9 (0, 0))
  own : Own encP 81 wr A c ys (B + 1)
  bel : Below w.heap.size w wr
  low : w.heap.size < B ∧ bt ≠ B ∧ w.heap.size < bt

theorem rdb_bits {o l m : Int} {ps : List Pr} {b la : Int} {s : ByteArray} {z c e : Int} (h : rdb o l m ps b la s z c e = true) : bitsB s = true := (rdb_parts h).2.bits

theorem rdb_kvb {o l m : Int} {ps : List Pr} {b la : Int} {s : ByteArray} {z c e : Int} (h : rdb o l m ps b la s z c e = true) : kvb o l m ps b la = true := kvb_iff.2 (rdb_parts h).1

set_option maxRecDepth 100000 in
set_option maxHeartbeats 8000000 in
theorem ParseReader_any (t : ByteArray) (w : World) (hs : t.size ≤ 1048576) (hl : Lw w) : Calls Tryz.prog 8 #[.string t] w (RetRk w t) := by
  have HL := Lib.hid hl
  clear hl
  have hlim := cutB_lim 124 t
  have hmem := fun x => cutB_mem (c := 124) (s := t) (x := x)
  obtain ⟨xs, hxs⟩ : ∃ xs, cutB 124 t = xs := ⟨_, rfl⟩
  rw [hxs] at hlim hmem
  have HX := Lib.hid hxs
  have HSP := Lib.hid (Split_any t 124)
  rw [hxs] at HSP
  clear hxs
  go_enter Tryz.func8, Tryz.ntmps8
  go_wp2_with fail
  refine (HSP.out _ hs).mono ?_
  rintro E X ⟨bt, rfl, hb0, hb, hm⟩
  have hm : More _ X := hm
  simp at hb0
  have HZ := Lib.hid (blk_mo (pushF w _ _ rfl) hm)
  have HB := Lib.hid (((Below.refl w.heap.size w).alloc (Nat.le_refl _) _).trans ((more_below hm).mono (by simp)))
  have rz := cell_of HZ.out
  have fz := free_of HZ.out
  have sz := fun i v => setCell_patch HZ.out i v
  have hX1 : w.heap.size < X.heap.size := (Array.getElem?_eq_some_iff.1 HZ.out).1
  have rb := cell_of hb
  have HBT := Lib.hid hb
  have hX2 : bt < X.heap.size := (Array.getElem?_eq_some_iff.1 hb).1
  clear hm hb
  by_cases h5 : xs.length = 5
  case neg =>
    have v3 : ((xs.length : Int) == 5) = false := by rw [beq_eq_false_iff_ne]; omega
    have HN := Lib.hid (show (cutB 124 t).length ≠ 5 by rw [HX.out]; exact h5)
    go_wp2_with fail
    exact bodyPost_ret (v := .tuple #[.agg #[.int .i64 0, .int .i64 0, .int .i64 0, .slice none 0 0, .int .i64 0, .int .i64 0, .string ⟨#[]⟩, .int .i64 0, .int .i64 0, .int .i64 0], .bool false]) (by simp [results, Tryz.results8, go_sem, ↓IntWalk.iteOmega]) rfl ⟨0, 0, 0, [], 0, 0, ⟨#[]⟩, 0, 0, 0, false, ⟨none, 0, rfl, .inl ⟨rfl, rfl, rfl⟩, below_more (by repeat (first | (with_reducible exact HB.out) | refine below_plus ?_ (by first | omega | (simp <;> omega)) _ | refine Below.alloc ?_ (by first | omega | (simp <;> omega)) _ | refine below_patch ?_ (by omega) _ | refine Below.drew ?_))⟩, fun h => by (cases h), fun _ => ⟨rfl, rfl, rfl, rfl, rfl, rfl, rfl, rfl, rfl, rfl⟩, fun o' l' m' ps' b' la' s' z' c' e' hk' ht' => absurd ht' (rd_miss HN.out (rdb_bits hk'))⟩
  obtain ⟨f0, f1, f2, f3, f4, rfl⟩ := five_of h5
  have hi0 : f0.size ≤ 1048576 := by have := hmem f0 (by simp); omega
  have hi1 : f1.size ≤ 1048576 := by have := hmem f1 (by simp); omega
  have hi2 : f2.size ≤ 1048576 := by have := hmem f2 (by simp); omega
  have hi3 : f3.size ≤ 1048576 := by have := hmem f3 (by simp); omega
  have hi4 : f4.size ≤ 1048576 := by have := hmem f4 (by simp); omega
  have HPT := Lib.hid (fun o l m ps b la s z c e => rd_parts HX.out (o := o) (l := l) (m := m) (ps := ps) (b := b) (la := la) (s := s) (z := z) (c := c) (e := e))
  clear hmem HSP h5
  simp only [List.map_cons, List.map_nil] at rb
  go_wp2_with fail
  refine (ParseKnown_any f0 _ hi0 (HL.out.below (by repeat (first | (with_reducible exact HB.out) | refine below_plus ?_ (by first | omega | (simp <;> omega)) _ | refine Below.alloc ?_ (by first | omega | (simp <;> omega)) _ | refine below_patch ?_ (by omega) _ | refine Below.drew ?_)))).mono ?_
  rintro E w' ⟨o, l, m, ps, b, la, ok0, ⟨A, c0, rfl, hown, ⟨x1, rfl⟩⟩, ha0, _, hg0⟩
  have HA0 := Lib.hid ha0
  have HG0 := Lib.hid hg0
  have HO := Lib.hid hown
  clear ha0 hg0 hown
  go_wp2_with fail
  refine calls_nmF (fun V => RkS w V bt X.heap.size ([f0, f1, f2, f3, f4].map Value.string).toArray #[.int .i64 o, .int .i64 l, .int .i64 m, .slice A ps.length c0, .int .i64 b, .int .i64 la, .string ⟨#[]⟩, .int .i64 0, .int .i64 0, .int .i64 0] A c0 ps) ⟨(by repeat (first | (with_reducible exact HZ.out) | (with_reducible apply plusF) | (with_reducible apply allocF) | (with_reducible apply drewF))), (by repeat (first | exact pushF _ _ _ rfl | apply plusF)), (by repeat (first | (with_reducible exact HBT.out) | (with_reducible apply plusF) | (with_reducible apply allocF) | (with_reducible apply drewF))), ((own_swap HO.out (by simp <;> omega) (by simp <;> omega)).lower (by simp <;> omega)), (by repeat (first | (with_reducible exact HB.out) | refine below_plus ?_ (by first | omega | (simp <;> omega)) _ | refine Below.alloc ?_ (by first | omega | (simp <;> omega)) _ | refine below_patch ?_ (by omega) _ | refine Below.drew ?_)), by omega⟩ ?_
  intro V hV
  clear rz fz sz rb HBT HO HB HZ
  generalize X.heap.size = B at *
  have HS := Lib.hid hV
  clear hV
  have HB := Lib.hid HS.out.bel
  have hlo := HS.out.low
  have hV1 : w.heap.size < V.heap.size := (Array.getElem?_eq_some_iff.1 HS.out.z).1
  have hV2 : B < V.heap.size := (Array.getElem?_eq_some_iff.1 HS.out.k).1
  have hV3 : bt < V.heap.size := (Array.getElem?_eq_some_iff.1 HS.out.t).1
  have rz := cell_of HS.out.z
  have fz := free_of HS.out.z
  have sz := fun i v => setCell_patch HS.out.z i v
  have rk := cell_of HS.out.k
  have fk := free_of HS.out.k
  have sk := fun i v => setCell_patch HS.out.k i v
  have rb := cell_of HS.out.t
  simp only [List.map_cons, List.map_nil] at rb
  have hAo : ∀ X, A = some X → B < X.block := fun X hX => (own_lt HS.out.own X hX).1
  have HRd := Lib.hid (show Rd encP V A c0 ps from HS.out.own.rd)
  have HOw := Lib.hid (show Own encP 81 V A c0 ps w.heap.size from HS.out.own.lower (by omega))
  refine (withoutDash_any f1 V).mono ?_
  rintro E w' ⟨s, ok1, rfl, ⟨x2, rfl⟩, hsz, ha1, hg1⟩
  have HA1 := Lib.hid ha1
  have HG1 := Lib.hid hg1
  clear ha1 hg1
  go_wp2_with fail
  refine (parseNumber_any f2 _ hi2 (HL.out.below (by repeat (first | (with_reducible exact HB.out) | refine below_plus ?_ (by first | omega | (simp <;> omega)) _ | refine Below.alloc ?_ (by first | omega | (simp <;> omega)) _ | refine below_patch ?_ (by omega) _ | refine Below.drew ?_)))).mono ?_
  rintro E w' ⟨z, ok2, rfl, ⟨x3, rfl⟩, ha2, hg2⟩
  have HA2 := Lib.hid ha2
  have HG2 := Lib.hid hg2
  clear ha2 hg2
  go_wp2_with fail
  refine (parseNumber_any f3 _ hi3 (HL.out.below (by repeat (first | (with_reducible exact HB.out) | refine below_plus ?_ (by first | omega | (simp <;> omega)) _ | refine Below.alloc ?_ (by first | omega | (simp <;> omega)) _ | refine below_patch ?_ (by omega) _ | refine Below.drew ?_)))).mono ?_
  rintro E w' ⟨c, ok3, rfl, ⟨x4, rfl⟩, ha3, hg3⟩
  have HA3 := Lib.hid ha3
  have HG3 := Lib.hid hg3
  clear ha3 hg3
  go_wp2_with fail
  refine (parseNumber_any f4 _ hi4 (HL.out.below (by repeat (first | (with_reducible exact HB.out) | refine below_plus ?_ (by first | omega | (simp <;> omega)) _ | refine Below.alloc ?_ (by first | omega | (simp <;> omega)) _ | refine below_patch ?_ (by omega) _ | refine Below.drew ?_)))).mono ?_
  rintro E w' ⟨e, ok4, rfl, ⟨x5, rfl⟩, ha4, hg4⟩
  have HA4 := Lib.hid ha4
  have HG4 := Lib.hid hg4
  clear ha4 hg4
  have HU := Lib.hid (show ∀ (o' l' m' : Int) (ps' : List Pr) (b' la' : Int) (s' : ByteArray) (z' c' e' : Int), rdb o' l' m' ps' b' la' s' z' c' e' = true → t = rdT o' l' m' ps' b' la' s' z' c' e' → (ok0 = true ∧ ok1 = true ∧ ok2 = true ∧ ok3 = true ∧ ok4 = true) ∧ o = o' ∧ l = l' ∧ m = m' ∧ ps = ps' ∧ b = b' ∧ la = la' ∧ s = s' ∧ z = z' ∧ c = c' ∧ e = e' from fun o' l' m' ps' b' la' s' z' c' e' hk' ht' => by
    obtain ⟨e0, e1, e2, e3, e4⟩ := HPT.out _ _ _ _ _ _ _ _ _ _ (rdb_bits hk') ht'
    obtain ⟨n1, n2, n3⟩ := (rdb_parts hk').2.nums
    obtain ⟨a1, a2, a3, a4, a5, a6, a7⟩ := HG0.out o' l' m' ps' b' la' (rdb_kvb hk') e0
    obtain ⟨b1, b2⟩ := HG1.out s' (bits_nodash (rdb_bits hk')) e1
    obtain ⟨c1, c2⟩ := HG2.out z' n1.i64 e2
    obtain ⟨d1, d2⟩ := HG3.out c' n2.i64 e3
    obtain ⟨g1, g2⟩ := HG4.out e' n3.i64 e4
    exact ⟨⟨a1, b2, c2, d2, g2⟩, a2, a3, a4, a5, a6, a7, b1, c1, d1, g1⟩)
  clear HG0 HG1 HG2 HG3 HG4 HPT
  cases ok0
  · go_wp2_with fail
    exact bodyPost_ret (v := .tuple #[.agg #[.int .i64 0, .int .i64 0, .int .i64 0, .slice none 0 0, .int .i64 0, .int .i64 0, .string ⟨#[]⟩, .int .i64 0, .int .i64 0, .int .i64 0], .bool false]) (by simp [results, Tryz.results8, go_sem, ↓IntWalk.iteOmega]) rfl ⟨0, 0, 0, [], 0, 0, ⟨#[]⟩, 0, 0, 0, false, ⟨none, 0, rfl, .inl ⟨rfl, rfl, rfl⟩, below_more (by repeat (first | (with_reducible exact HB.out) | refine below_plus ?_ (by first | omega | (simp <;> omega)) _ | refine Below.alloc ?_ (by first | omega | (simp <;> omega)) _ | refine below_patch ?_ (by omega) _ | refine Below.drew ?_))⟩, fun h => by (cases h), fun _ => ⟨rfl, rfl, rfl, rfl, rfl, rfl, rfl, rfl, rfl, rfl⟩, fun o' l' m' ps' b' la' s' z' c' e' hk' ht' => (by have h9 := (HU.out _ _ _ _ _ _ _ _ _ _ hk' ht').1; simp at h9)⟩
  cases ok1
  · go_wp2_with fail
    exact bodyPost_ret (v := .tuple #[.agg #[.int .i64 0, .int .i64 0, .int .i64 0, .slice none 0 0, .int .i64 0, .int .i64 0, .string ⟨#[]⟩, .int .i64 0, .int .i64 0, .int .i64 0], .bool false]) (by simp [results, Tryz.results8, go_sem, ↓IntWalk.iteOmega]) rfl ⟨0, 0, 0, [], 0, 0, ⟨#[]⟩, 0, 0, 0, false, ⟨none, 0, rfl, .inl ⟨rfl, rfl, rfl⟩, below_more (by repeat (first | (with_reducible exact HB.out) | refine below_plus ?_ (by first | omega | (simp <;> omega)) _ | refine Below.alloc ?_ (by first | omega | (simp <;> omega)) _ | refine below_patch ?_ (by omega) _ | refine Below.drew ?_))⟩, fun h => by (cases h), fun _ => ⟨rfl, rfl, rfl, rfl, rfl, rfl, rfl, rfl, rfl, rfl⟩, fun o' l' m' ps' b' la' s' z' c' e' hk' ht' => (by have h9 := (HU.out _ _ _ _ _ _ _ _ _ _ hk' ht').1; simp at h9)⟩
  cases ok2
  · go_wp2_with fail
    exact bodyPost_ret (v := .tuple #[.agg #[.int .i64 0, .int .i64 0, .int .i64 0, .slice none 0 0, .int .i64 0, .int .i64 0, .string ⟨#[]⟩, .int .i64 0, .int .i64 0, .int .i64 0], .bool false]) (by simp [results, Tryz.results8, go_sem, ↓IntWalk.iteOmega]) rfl ⟨0, 0, 0, [], 0, 0, ⟨#[]⟩, 0, 0, 0, false, ⟨none, 0, rfl, .inl ⟨rfl, rfl, rfl⟩, below_more (by repeat (first | (with_reducible exact HB.out) | refine below_plus ?_ (by first | omega | (simp <;> omega)) _ | refine Below.alloc ?_ (by first | omega | (simp <;> omega)) _ | refine below_patch ?_ (by omega) _ | refine Below.drew ?_))⟩, fun h => by (cases h), fun _ => ⟨rfl, rfl, rfl, rfl, rfl, rfl, rfl, rfl, rfl, rfl⟩, fun o' l' m' ps' b' la' s' z' c' e' hk' ht' => (by have h9 := (HU.out _ _ _ _ _ _ _ _ _ _ hk' ht').1; simp at h9)⟩
  cases ok3
  · go_wp2_with fail
    exact bodyPost_ret (v := .tuple #[.agg #[.int .i64 0, .int .i64 0, .int .i64 0, .slice none 0 0, .int .i64 0, .int .i64 0, .string ⟨#[]⟩, .int .i64 0, .int .i64 0, .int .i64 0], .bool false]) (by simp [results, Tryz.results8, go_sem, ↓IntWalk.iteOmega]) rfl ⟨0, 0, 0, [], 0, 0, ⟨#[]⟩, 0, 0, 0, false, ⟨none, 0, rfl, .inl ⟨rfl, rfl, rfl⟩, below_more (by repeat (first | (with_reducible exact HB.out) | refine below_plus ?_ (by first | omega | (simp <;> omega)) _ | refine Below.alloc ?_ (by first | omega | (simp <;> omega)) _ | refine below_patch ?_ (by omega) _ | refine Below.drew ?_))⟩, fun h => by (cases h), fun _ => ⟨rfl, rfl, rfl, rfl, rfl, rfl, rfl, rfl, rfl, rfl⟩, fun o' l' m' ps' b' la' s' z' c' e' hk' ht' => (by have h9 := (HU.out _ _ _ _ _ _ _ _ _ _ hk' ht').1; simp at h9)⟩
  cases ok4
  · go_wp2_with fail
    exact bodyPost_ret (v := .tuple #[.agg #[.int .i64 0, .int .i64 0, .int .i64 0, .slice none 0 0, .int .i64 0, .int .i64 0, .string ⟨#[]⟩, .int .i64 0, .int .i64 0, .int .i64 0], .bool false]) (by simp [results, Tryz.results8, go_sem, ↓IntWalk.iteOmega]) rfl ⟨0, 0, 0, [], 0, 0, ⟨#[]⟩, 0, 0, 0, false, ⟨none, 0, rfl, .inl ⟨rfl, rfl, rfl⟩, below_more (by repeat (first | (with_reducible exact HB.out) | refine below_plus ?_ (by first | omega | (simp <;> omega)) _ | refine Below.alloc ?_ (by first | omega | (simp <;> omega)) _ | refine below_patch ?_ (by omega) _ | refine Below.drew ?_))⟩, fun h => by (cases h), fun _ => ⟨rfl, rfl, rfl, rfl, rfl, rfl, rfl, rfl, rfl, rfl⟩, fun o' l' m' ps' b' la' s' z' c' e' hk' ht' => (by have h9 := (HU.out _ _ _ _ _ _ _ _ _ _ hk' ht').1; simp at h9)⟩
  have HW := Lib.hid (rd_whole HX.out (HA0.out rfl).2 (HA1.out rfl) (HA2.out rfl).1 (HA3.out rfl).1 (HA4.out rfl).1)
  have HQ := Lib.hid (fun o' l' m' ps' b' la' s' z' c' e' hk' ht' => (HU.out o' l' m' ps' b' la' s' z' c' e' hk' ht').2)
  clear HU HA0 HA1 HA2 HA3 HA4
  go_wp2_with fail
  refine (ReaderValid_any o l m A c0 ps b la s z c e _ (by (try unfold RdP); repeat (first | (with_reducible exact HRd.out) | (with_reducible apply rd_seq) | (with_reducible apply Rd.plus) | (with_reducible apply Rd.alloc) | (with_reducible refine rd_patch ?_ _ _ (fun X hX e => by have := hAo X hX; omega)))) (by unfold maxLen; omega)).mono ?_
  rintro E w' ⟨rfl, x6, rfl⟩
  cases hk : rdb o l m ps b la s z c e
  · have HK := Lib.hid hk
    clear hk
    go_wp2_with fail
    exact bodyPost_ret (v := .tuple #[.agg #[.int .i64 0, .int .i64 0, .int .i64 0, .slice none 0 0, .int .i64 0, .int .i64 0, .string ⟨#[]⟩, .int .i64 0, .int .i64 0, .int .i64 0], .bool false]) (by simp [results, Tryz.results8, go_sem, ↓IntWalk.iteOmega]) rfl ⟨0, 0, 0, [], 0, 0, ⟨#[]⟩, 0, 0, 0, false, ⟨none, 0, rfl, .inl ⟨rfl, rfl, rfl⟩, below_more (by repeat (first | (with_reducible exact HB.out) | refine below_plus ?_ (by first | omega | (simp <;> omega)) _ | refine Below.alloc ?_ (by first | omega | (simp <;> omega)) _ | refine below_patch ?_ (by omega) _ | refine Below.drew ?_))⟩, fun h => by (cases h), fun _ => ⟨rfl, rfl, rfl, rfl, rfl, rfl, rfl, rfl, rfl, rfl⟩, fun o' l' m' ps' b' la' s' z' c' e' hk' ht' => (by obtain ⟨rfl, rfl, rfl, rfl, rfl, rfl, rfl, rfl, rfl, rfl⟩ := HQ.out _ _ _ _ _ _ _ _ _ _ hk' ht'; rw [HK.out] at hk'; cases hk')⟩
  · have HK := Lib.hid hk
    clear hk
    go_wp2_with fail
    exact bodyPost_ret (v := .tuple #[.agg #[.int .i64 o, .int .i64 l, .int .i64 m, .slice A ps.length c0, .int .i64 b, .int .i64 la, .string s, .int .i64 z, .int .i64 c, .int .i64 e], .bool true]) (by simp [results, Tryz.results8, go_sem, ↓IntWalk.iteOmega]) rfl ⟨o, l, m, ps, b, la, s, z, c, e, true, ⟨A, c0, rfl, (by repeat (first | (with_reducible exact HOw.out) | (with_reducible apply own_seq) | (with_reducible apply Own.plus) | (with_reducible refine own_ptF ?_ (fun X hX e => by have := hAo X hX; omega)))), below_more (by repeat (first | (with_reducible exact HB.out) | refine below_plus ?_ (by first | omega | (simp <;> omega)) _ | refine Below.alloc ?_ (by first | omega | (simp <;> omega)) _ | refine below_patch ?_ (by omega) _ | refine Below.drew ?_))⟩, fun _ => ⟨HK.out, HW.out⟩, fun h => by (cases h), fun o' l' m' ps' b' la' s' z' c' e' hk' ht' => ⟨rfl, HQ.out _ _ _ _ _ _ _ _ _ _ hk' ht'⟩⟩

end Go.Proofs.YtmddcbebaijjkaaGreatDoor
