/- The law Learn: the walk. -/
import Derived.Test.YtlihhlihcjncoaaLlb
namespace Go.Proofs.Ytlihhlihcjncoaa
open Go.RowKit
set_option linter.unusedVariables false
set_option linter.unusedSimpArgs false

theorem words_W {l : Int} {ps : List Pr} {k : Nat} {s : ByteArray} (h : (wordsL l ps)[k]? = some s) : s.data.toList = W l ps (nw l k) := by
  have e : lkw l (wordsL l ps) (nw l k) = s := by
    unfold lkw nw
    rw [if_pos (by omega), show (two l + 1 + 1 + (k : Int) - (two l + 1)).toNat - 1 = k by omega, h]
    rfl
  unfold W wb
  rw [e]

set_option maxRecDepth 100000 in
set_option maxHeartbeats 8000000 in
theorem lawLearn_any (a : Option Addr) (cap : Nat) (bs : List UInt8) (w : World) (hr : Rd encB w a cap bs) :
    Calls Try.prog 7 #[.slice a bs.length cap] w (fun e w' => e = .returned (.bool true) ∧ Below w.heap.size w w') := by
  have g1 := hr.1
  have g2 := hr.2.1
  by_cases h1 : bs.length ≤ 1048576
  case neg =>
    go_enter Try.func7, Try.ntmps7
    go_wp2
    go_ret
    exact ⟨rfl, (by repeat (first | exact Below.refl _ _ | refine below_plus ?_ (by first | omega | (simp <;> omega)) _ | refine Below.alloc ?_ (by first | omega | (simp <;> omega)) _ | refine below_patch ?_ (by omega) _ | refine Below.drew ?_))⟩
  go_enter Try.func7, Try.ntmps7
  go_wp2_with fail
  refine (DrawLearnKnown_any a cap bs _ (by repeat (first | exact hr | apply rd_seq | apply Rd.plus | apply Rd.alloc | apply Rd.drew | apply Rd.drewN | refine rd_patch ?_ _ _ (by intro A hA; first | (cases hA; show _ ≠ _; omega) | (have := hal A hA; omega))))).mono ?_
  rintro e w' ⟨o, l, m, pa, pc, ps, base, last, s, rfl, hl3, hs5, hrd, x1, rfl⟩
  have hm : s.size ≤ maxLen := by unfold maxLen; omega
  have HR := Lib.hid (show Rd encP _ pa pc ps from hrd)
  clear hrd
  by_cases hbad : kvb o l m ps base last = false ∨ dfB o l m s = false
  · have HI := Lib.hid (fun (W : World) (h : RdP W pa pc ps) => implLearnKnown_no o l m pa pc ps base last s W h hm hbad)
    have HS := Lib.hid (fun (W : World) (h : RdP W pa pc ps) => specLearnKnown_no o l m pa pc ps base last s W h hm hbad)
    cases hk : kvb o l m ps base last
    · have HK := Lib.hid hk
      clear hk hbad
      go_wp2_with fail
      refine (HI.out _ (by (try unfold RdP); repeat (first | (with_reducible exact HR.out) | (with_reducible apply rd_seq) | (with_reducible apply Rd.plus) | (with_reducible apply Rd.alloc) | (with_reducible apply Rd.drew) | (with_reducible apply Rd.drewN)))).mono ?_
      rintro e w' ⟨ia, ic, rfl, hown, y1, rfl⟩
      (try simp only [plus_plus] at hown)
      have HX := Lib.hid hown.rd
      clear hown
      go_wp2_with fail
      refine (HS.out _ (by (try unfold RdP); repeat (first | (with_reducible exact HR.out) | (with_reducible apply rd_seq) | (with_reducible apply Rd.plus) | (with_reducible apply Rd.alloc) | (with_reducible apply Rd.drew) | (with_reducible apply Rd.drewN)))).mono ?_
      rintro e w' ⟨ja, jc, rfl, hown, y2, rfl⟩
      (try simp only [plus_plus] at hown)
      have HW := Lib.hid hown.rd
      clear hown
      go_wp2_with fail
      refine (soKnown_yes 0 0 0 ia ja ic jc [] 0 0 _ (by (try unfold RdP); repeat (first | (with_reducible exact HX.out) | (with_reducible apply rd_seq) | (with_reducible apply Rd.plus) | (with_reducible apply Rd.alloc) | (with_reducible apply Rd.drew) | (with_reducible apply Rd.drewN))) (by (try unfold RdP); repeat (first | (with_reducible exact HW.out) | (with_reducible apply rd_seq) | (with_reducible apply Rd.plus) | (with_reducible apply Rd.alloc) | (with_reducible apply Rd.drew) | (with_reducible apply Rd.drewN)))).mono ?_
      rintro e w' ⟨rfl, y3, rfl⟩
      go_wp2_with fail
      refine (KnownValid_any o l m pa pc ps base last _ (by (try unfold RdP); repeat (first | (with_reducible exact HR.out) | (with_reducible apply rd_seq) | (with_reducible apply Rd.plus) | (with_reducible apply Rd.alloc) | (with_reducible apply Rd.drew) | (with_reducible apply Rd.drewN)))).mono ?_
      rintro e w' ⟨rfl, y4, rfl⟩
      rw [HK.out]
      go_wp2_with fail
      refine (soKnown_yes 0 0 0 ia ja ic jc [] 0 0 _ (by (try unfold RdP); repeat (first | (with_reducible exact HX.out) | (with_reducible apply rd_seq) | (with_reducible apply Rd.plus) | (with_reducible apply Rd.alloc) | (with_reducible apply Rd.drew) | (with_reducible apply Rd.drewN))) (by (try unfold RdP); repeat (first | (with_reducible exact HW.out) | (with_reducible apply rd_seq) | (with_reducible apply Rd.plus) | (with_reducible apply Rd.alloc) | (with_reducible apply Rd.drew) | (with_reducible apply Rd.drewN)))).mono ?_
      rintro e w' ⟨rfl, y5, rfl⟩
      go_wp2_with fail
      refine (KnownValid_any o l m pa pc ps base last _ (by (try unfold RdP); repeat (first | (with_reducible exact HR.out) | (with_reducible apply rd_seq) | (with_reducible apply Rd.plus) | (with_reducible apply Rd.alloc) | (with_reducible apply Rd.drew) | (with_reducible apply Rd.drewN)))).mono ?_
      rintro e w' ⟨rfl, y6, rfl⟩
      rw [HK.out]
      go_wp2_with fail
      go_ret
      exact ⟨rfl, (by repeat (first | exact Below.refl _ _ | refine below_plus ?_ (by first | omega | (simp <;> omega)) _ | refine Below.alloc ?_ (by first | omega | (simp <;> omega)) _ | refine below_patch ?_ (by omega) _ | refine Below.drew ?_))⟩
    · have HK := Lib.hid hk
      have hdf : dfB o l m s = false := hbad.resolve_left (fun h => by rw [hk] at h; cases h)
      have HDF := Lib.hid hdf
      clear hk hbad hdf
      go_wp2_with fail
      refine (HI.out _ (by (try unfold RdP); repeat (first | (with_reducible exact HR.out) | (with_reducible apply rd_seq) | (with_reducible apply Rd.plus) | (with_reducible apply Rd.alloc) | (with_reducible apply Rd.drew) | (with_reducible apply Rd.drewN)))).mono ?_
      rintro e w' ⟨ia, ic, rfl, hown, y1, rfl⟩
      (try simp only [plus_plus] at hown)
      have HX := Lib.hid hown.rd
      clear hown
      go_wp2_with fail
      refine (HS.out _ (by (try unfold RdP); repeat (first | (with_reducible exact HR.out) | (with_reducible apply rd_seq) | (with_reducible apply Rd.plus) | (with_reducible apply Rd.alloc) | (with_reducible apply Rd.drew) | (with_reducible apply Rd.drewN)))).mono ?_
      rintro e w' ⟨ja, jc, rfl, hown, y2, rfl⟩
      (try simp only [plus_plus] at hown)
      have HW := Lib.hid hown.rd
      clear hown
      go_wp2_with fail
      refine (soKnown_yes 0 0 0 ia ja ic jc [] 0 0 _ (by (try unfold RdP); repeat (first | (with_reducible exact HX.out) | (with_reducible apply rd_seq) | (with_reducible apply Rd.plus) | (with_reducible apply Rd.alloc) | (with_reducible apply Rd.drew) | (with_reducible apply Rd.drewN))) (by (try unfold RdP); repeat (first | (with_reducible exact HW.out) | (with_reducible apply rd_seq) | (with_reducible apply Rd.plus) | (with_reducible apply Rd.alloc) | (with_reducible apply Rd.drew) | (with_reducible apply Rd.drewN)))).mono ?_
      rintro e w' ⟨rfl, y3, rfl⟩
      go_wp2_with fail
      refine (KnownValid_any o l m pa pc ps base last _ (by (try unfold RdP); repeat (first | (with_reducible exact HR.out) | (with_reducible apply rd_seq) | (with_reducible apply Rd.plus) | (with_reducible apply Rd.alloc) | (with_reducible apply Rd.drew) | (with_reducible apply Rd.drewN)))).mono ?_
      rintro e w' ⟨rfl, y4, rfl⟩
      rw [HK.out]
      go_wp2_with fail
      refine (DataFits_any o l m s _ hm).mono ?_
      rintro e w' ⟨rfl, y7, rfl⟩
      rw [HDF.out]
      go_wp2_with fail
      refine (soKnown_yes 0 0 0 ia ja ic jc [] 0 0 _ (by (try unfold RdP); repeat (first | (with_reducible exact HX.out) | (with_reducible apply rd_seq) | (with_reducible apply Rd.plus) | (with_reducible apply Rd.alloc) | (with_reducible apply Rd.drew) | (with_reducible apply Rd.drewN))) (by (try unfold RdP); repeat (first | (with_reducible exact HW.out) | (with_reducible apply rd_seq) | (with_reducible apply Rd.plus) | (with_reducible apply Rd.alloc) | (with_reducible apply Rd.drew) | (with_reducible apply Rd.drewN)))).mono ?_
      rintro e w' ⟨rfl, y5, rfl⟩
      go_wp2_with fail
      refine (KnownValid_any o l m pa pc ps base last _ (by (try unfold RdP); repeat (first | (with_reducible exact HR.out) | (with_reducible apply rd_seq) | (with_reducible apply Rd.plus) | (with_reducible apply Rd.alloc) | (with_reducible apply Rd.drew) | (with_reducible apply Rd.drewN)))).mono ?_
      rintro e w' ⟨rfl, y6, rfl⟩
      rw [HK.out]
      go_wp2_with fail
      refine (DataFits_any o l m s _ hm).mono ?_
      rintro e w' ⟨rfl, y8, rfl⟩
      rw [HDF.out]
      go_wp2_with fail
      go_ret
      exact ⟨rfl, (by repeat (first | exact Below.refl _ _ | refine below_plus ?_ (by first | omega | (simp <;> omega)) _ | refine Below.alloc ?_ (by first | omega | (simp <;> omega)) _ | refine below_patch ?_ (by omega) _ | refine Below.drew ?_))⟩
  have hk : kvb o l m ps base last = true := by
    cases hk : kvb o l m ps base last
    · exact absurd (.inl hk) hbad
    · rfl
  have hd : dfB o l m s = true := by
    cases hd : dfB o l m s
    · exact absurd (.inr hd) hbad
    · rfl
  have hkv := kvb_iff.1 hk
  obtain ⟨b, rfl⟩ : ∃ b : Nat, base = b := ⟨base.toNat, by have := hkv.b0; omega⟩
  have hbp : b ≤ ps.length := by have := hkv.b1; omega
  obtain ⟨P, hP⟩ : ∃ P, (lrn l m s.size (ps.take b) (-1) s.data.toList).1 = P := ⟨_, rfl⟩
  have hlk := lrn_kv s.size (ps.take b) (-1) s.data.toList (by simpa using hkv.cleared) (by rw [bstr_bytes]; exact hd)
  obtain ⟨⟨r, hpre⟩, hdif⟩ := lrn_differ hkv (by rw [bstr_bytes]; exact hd) s.size (by rw [bytes_len]; omega) hP
  rw [hP] at hlk
  have hkP : KV o l m P ((P.length : Nat) : Int) (-1) := ⟨hlk.s, hlk.len, hlk.ok, by omega, by omega, .inl ⟨rfl, rfl⟩⟩
  have hPl := kv_len (kvb_iff.2 hkP)
  have hbP : b ≤ P.length := by rw [hpre, List.length_append, List.length_take]; omega
  have hget : ∀ k x, k < b → ps[k]? = some x → P[k]? = some x := fun k x hk hx => by
    rw [hpre, List.getElem?_append_left (by rw [List.length_take]; omega), List.getElem?_take, if_pos hk]; exact hx
  have HI := Lib.hid (fun (W : World) (h : RdP W pa pc ps) => implLearnKnown_yes o l m pa pc ps b last s W h hm hk hd P (by simpa using hP))
  have HS := Lib.hid (fun (W : World) (h : RdP W pa pc ps) => specLearnKnown_yes o l m pa pc ps b last s W h hm hk hd P (by simpa using hP))
  have HGT := Lib.hid hget
  have HDIF := Lib.hid (fun (i n : Nat) (si sn : ByteArray) (h1 : b ≤ i) (h2 : i < P.length) (h3 : n < i) (hi : (wordsL l P)[i]? = some si) (hn : (wordsL l P)[n]? = some sn) => show (sn.toList == si.toList) = false by
    rw [ByteArray.toList_eq, ByteArray.toList_eq, beq_eq_false_iff_ne, words_W hi, words_W hn]
    exact hdif i n h1 h2 h3)
  obtain ⟨L, hL⟩ : ∃ L, wordsL l P = L := ⟨_, rfl⟩
  have HLL := Lib.hid (show L.length = P.length by rw [← hL]; exact wordsL_len l P)
  have hL2 : L.length ≤ 2000 := by rw [HLL.out]; omega
  have HKW := Lib.hid (fun (W : World) (xa : Option Addr) (xc : Nat) (h : RdP W xa xc P) => implKnownWords_yes o l m xa xc P P.length (-1) W h (kvb_iff.2 hkP))
  rw [hL] at HKW HDIF
  clear hL
  have HKP := Lib.hid (kvb_iff.2 hkP)
  have HK := Lib.hid hk
  have HDF := Lib.hid hd
  clear hbad hk hd hkv hP hlk hpre hdif hkP hget
  have hbase : ∃ z : Int, (b : Int) = z := ⟨_, rfl⟩
  go_wp2_with fail
  refine (HI.out _ (by (try unfold RdP); repeat (first | (with_reducible exact HR.out) | (with_reducible apply rd_seq) | (with_reducible apply Rd.plus) | (with_reducible apply Rd.alloc) | (with_reducible apply Rd.drew) | (with_reducible apply Rd.drewN)))).mono ?_
  rintro e w' ⟨ia, ic, rfl, hown, y1, rfl⟩
  (try simp only [plus_plus] at hown)
  have HX := Lib.hid hown.rd
  clear hown
  go_wp2_with fail
  refine (HS.out _ (by (try unfold RdP); repeat (first | (with_reducible exact HR.out) | (with_reducible apply rd_seq) | (with_reducible apply Rd.plus) | (with_reducible apply Rd.alloc) | (with_reducible apply Rd.drew) | (with_reducible apply Rd.drewN)))).mono ?_
  rintro e w' ⟨ja, jc, rfl, hown, y2, rfl⟩
  (try simp only [plus_plus] at hown)
  have HW := Lib.hid hown.rd
  clear hown
  go_wp2_with fail
  refine (soKnown_yes o l m ia ja ic jc P P.length (-1) _ (by (try unfold RdP); repeat (first | (with_reducible exact HX.out) | (with_reducible apply rd_seq) | (with_reducible apply Rd.plus) | (with_reducible apply Rd.alloc) | (with_reducible apply Rd.drew) | (with_reducible apply Rd.drewN))) (by (try unfold RdP); repeat (first | (with_reducible exact HW.out) | (with_reducible apply rd_seq) | (with_reducible apply Rd.plus) | (with_reducible apply Rd.alloc) | (with_reducible apply Rd.drew) | (with_reducible apply Rd.drewN)))).mono ?_
  rintro e w' ⟨rfl, y3, rfl⟩
  go_wp2_with fail
  refine (KnownValid_any o l m pa pc ps b last _ (by (try unfold RdP); repeat (first | (with_reducible exact HR.out) | (with_reducible apply rd_seq) | (with_reducible apply Rd.plus) | (with_reducible apply Rd.alloc) | (with_reducible apply Rd.drew) | (with_reducible apply Rd.drewN)))).mono ?_
  rintro e w' ⟨rfl, y4, rfl⟩
  rw [HK.out]
  go_wp2_with fail
  refine (DataFits_any o l m s _ hm).mono ?_
  rintro e w' ⟨rfl, y5, rfl⟩
  rw [HDF.out]
  go_wp2_with fail
  refine wpn (fun X => X.heap[w.heap.size + x1.n]? = some (.cells #[.int .i64 o, .int .i64 l, .int .i64 m, .slice pa ps.length pc, .int .i64 b, .int .i64 last] 27 (0, 0)) ∧
    X.heap[w.heap.size + x1.n + 1 + y1.n]? = some (.cells #[.int .i64 o, .int .i64 l, .int .i64 m, .slice ia P.length ic, .int .i64 P.length, .int .i64 (-1)] 27 (0, 0)) ∧ Rd encP X pa pc ps ∧ Rd encP X ia ic P ∧ Below w.heap.size w X) ⟨?_, ?_, (by (try unfold RdP); repeat (first | (with_reducible exact HR.out) | (with_reducible apply rd_seq) | (with_reducible apply Rd.plus) | (with_reducible apply Rd.alloc) | (with_reducible apply Rd.drew) | (with_reducible apply Rd.drewN))), (by (try unfold RdP); repeat (first | (with_reducible exact HX.out) | (with_reducible apply rd_seq) | (with_reducible apply Rd.plus) | (with_reducible apply Rd.alloc) | (with_reducible apply Rd.drew) | (with_reducible apply Rd.drewN))), (by repeat (first | exact Below.refl _ _ | refine below_plus ?_ (by first | omega | (simp <;> omega)) _ | refine Below.alloc ?_ (by first | omega | (simp <;> omega)) _ | refine below_patch ?_ (by omega) _ | refine Below.drew ?_))⟩ ?_
  · (repeat (first | exact push_new _ _ _ (by simp <;> omega) | apply blk_plus | apply blk_alloc | apply blk_drew))
  · (repeat (first | exact push_new _ _ _ (by simp <;> omega) | apply blk_plus | apply blk_alloc | apply blk_drew))
  generalize w.heap.size + x1.n + 1 + y1.n = bx
  generalize w.heap.size + x1.n = bk
  clear HX HR HW HI HS
  rintro X ⟨hbk, hbx, hR, hX, hB⟩
  have zk := (Array.getElem?_eq_some_iff.1 hbk).1
  have zx := (Array.getElem?_eq_some_iff.1 hbx).1
  have ck := cell_of hbk
  have cx := cell_of hbx
  have HR := Lib.hid hR
  have HX := Lib.hid hX
  have HB := Lib.hid hB
  have zw := hB.size
  have HBK := Lib.hid hbk
  have HBX := Lib.hid hbx
  have HOR := Lib.hid (RdP.open hR).2.2
  have HOX := Lib.hid (RdP.open hX).2.2
  have zr := hR.1
  have zr2 := hR.2.1
  have zx1 := hX.1
  have zx2 := hX.2.1
  clear hbk hbx hR hX hB
  go_wp2_with fail
  go_loopw [9] (fun i wr => ∃ (k : Nat) (z : Ext), k ≤ b ∧ i = .int .i64 k ∧ wr = plus X z) (fun i _ => b - (intOf i).toNat)
  case atStart => exact ⟨0, _, Nat.zero_le _, rfl, (plus_self _).symm⟩
  case round =>
    obtain ⟨k, z, hk1, rfl, rfl⟩ := hrel
    rcases dec (k < b) with ⟨hlt, blt⟩ | ⟨hlt, blt⟩
    · obtain ⟨p, hp⟩ : ∃ p, ps[k]? = some p := ⟨ps[k], List.getElem?_eq_getElem (by omega)⟩
      rcases HOR.out with h9 | ⟨b1, off, rfl, hb, hc⟩
      · exact absurd hlt (by omega)
      rcases HOX.out with h9 | ⟨b2, off', rfl, hb', hc'⟩
      · exact absurd hlt (by omega)
      obtain ⟨c1, c2⟩ := hc k p hp
      obtain ⟨d1, d2⟩ := hc' k p (HGT.out k p hlt hp)
      clear hc hc' hp
      go_wp2_with fail
      refine wp_region_pu 10 (fun w' => ∃ y, w' = plus _ y) (Plan.quiet 0 (Plan.quiet 1 (Plan.quiet 2 (Plan.quiet 3 (Plan.quiet 4 (Plan.quiet 5 (Plan.quiet 6 (Plan.quiet 7 (Plan.quiet 8 (Plan.quiet 9 (Plan.one 10 Plan.done))))))))))) (by kernel_rfl) (by kernel_rfl) (⟨_, drew_is_plus _⟩) ?_
      refine wpPt_val rfl rfl ?_
      apply Exists.intro
      refine ⟨fun w' hS => ?_, ?_⟩
      focus (obtain ⟨y3, rfl⟩ := hS; simp [go_sem, ↓IntWalk.iteOmega, c1, c2, d1, d2, ck, cx] <;> first | done | exact rfl | (rw [IntWalk.i64_in _ (by omega)]; exact rfl) | trace_state)
      refine wpPt_val rfl rfl ?_
      apply Exists.intro
      refine ⟨fun w' hS => ?_, ?_⟩
      focus (obtain ⟨y3, rfl⟩ := hS; simp [go_sem, ↓IntWalk.iteOmega, c1, c2, d1, d2, ck, cx] <;> first | done | exact rfl | (rw [IntWalk.i64_in _ (by omega)]; exact rfl) | trace_state)
      refine wpPt_val rfl rfl ?_
      apply Exists.intro
      refine ⟨fun w' hS => ?_, ?_⟩
      focus (obtain ⟨y3, rfl⟩ := hS; simp [go_sem, ↓IntWalk.iteOmega, c1, c2, d1, d2, ck, cx] <;> first | done | exact rfl | (rw [IntWalk.i64_in _ (by omega)]; exact rfl) | trace_state)
      refine wpPt_val rfl rfl ?_
      apply Exists.intro
      refine ⟨fun w' hS => ?_, ?_⟩
      focus (obtain ⟨y3, rfl⟩ := hS; simp [go_sem, ↓IntWalk.iteOmega, c1, c2, d1, d2, ck, cx] <;> first | done | exact rfl | (rw [IntWalk.i64_in _ (by omega)]; exact rfl) | trace_state)
      refine wpPt_val rfl rfl ?_
      apply Exists.intro
      refine ⟨fun w' hS => ?_, ?_⟩
      focus (obtain ⟨y3, rfl⟩ := hS; simp [go_sem, ↓IntWalk.iteOmega, c1, c2, d1, d2, ck, cx] <;> first | done | exact rfl | (rw [IntWalk.i64_in _ (by omega)]; exact rfl) | trace_state)
      refine wpPt_val rfl rfl ?_
      apply Exists.intro
      refine ⟨fun w' hS => ?_, ?_⟩
      focus (obtain ⟨y3, rfl⟩ := hS; simp [go_sem, ↓IntWalk.iteOmega, c1, c2, d1, d2, ck, cx] <;> first | done | exact rfl | (rw [IntWalk.i64_in _ (by omega)]; exact rfl) | trace_state)
      refine wpPt_val rfl rfl ?_
      apply Exists.intro
      refine ⟨fun w' hS => ?_, ?_⟩
      focus (obtain ⟨y3, rfl⟩ := hS; simp [go_sem, ↓IntWalk.iteOmega, c1, c2, d1, d2, ck, cx] <;> first | done | exact rfl | (rw [IntWalk.i64_in _ (by omega)]; exact rfl) | trace_state)
      refine wpPt_val rfl rfl ?_
      apply Exists.intro
      refine ⟨fun w' hS => ?_, ?_⟩
      focus (obtain ⟨y3, rfl⟩ := hS; simp [go_sem, ↓IntWalk.iteOmega, c1, c2, d1, d2, ck, cx] <;> first | done | exact rfl | (rw [IntWalk.i64_in _ (by omega)]; exact rfl) | trace_state)
      refine wpPt_val rfl rfl ?_
      apply Exists.intro
      refine ⟨fun w' hS => ?_, ?_⟩
      focus (obtain ⟨y3, rfl⟩ := hS; simp [go_sem, ↓IntWalk.iteOmega, c1, c2, d1, d2, ck, cx] <;> first | done | exact rfl | (rw [IntWalk.i64_in _ (by omega)]; exact rfl) | trace_state)
      refine wpPt_val rfl rfl ?_
      apply Exists.intro
      refine ⟨fun w' hS => ?_, ?_⟩
      focus (obtain ⟨y3, rfl⟩ := hS; simp [go_sem, ↓IntWalk.iteOmega, c1, c2, d1, d2, ck, cx] <;> first | done | exact rfl | (rw [IntWalk.i64_in _ (by omega)]; exact rfl) | trace_state)
      refine wpPt_one rfl rfl (fun K hK => ?_)
      go_simp
      refine hK _ _ (fun hkn => absurd hkn (by decide)) ?_
      clear hK K
      refine NoPanic.normal ?_
      go_wp2_with fail
      go_roundw
      case rel => exact ⟨k + 1, _, by omega, by go_num, rfl⟩
      case measure => simp [intOf]; omega
    · go_wp2_with fail
      refine (HKW.out _ ia ic (by (try unfold RdP); repeat (first | (with_reducible exact HX.out) | (with_reducible apply rd_seq) | (with_reducible apply Rd.plus) | (with_reducible apply Rd.alloc) | (with_reducible apply Rd.drew) | (with_reducible apply Rd.drewN)))).mono ?_
      rintro e w' ⟨la, lc, rfl, hown, y6, rfl⟩
      (try simp only [plus_plus] at hown)
      have HLR := Lib.hid (show Rd encS _ la lc L from hown.rd)
      clear hown
      go_wp2_with fail
      have hll := HLL.out
      have HB6 := Lib.hid hbP
      have hbL : b ≤ L.length := by omega
      have v21 : ((L.length : Int) == (P.length : Int)) = true := by simp; omega
      clear hll
      refine wpn (fun Y => Y.heap[bk]? = some (.cells #[.int .i64 o, .int .i64 l, .int .i64 m, .slice pa ps.length pc, .int .i64 b, .int .i64 last] 27 (0, 0)) ∧
        Y.heap[bx]? = some (.cells #[.int .i64 o, .int .i64 l, .int .i64 m, .slice ia P.length ic, .int .i64 P.length, .int .i64 (-1)] 27 (0, 0)) ∧
        Rd encP Y ia ic P ∧ Rd encS Y la lc L ∧ Below w.heap.size w Y) ⟨(by repeat (first | (with_reducible exact HBK.out) | (with_reducible apply blk_seq) | (with_reducible apply blk_draw) | (with_reducible apply blk_plus) | (with_reducible apply blk_alloc) | (with_reducible apply blk_drew) | (with_reducible refine blk_patch ?_ (by omega)) | exact HBK.out)), (by repeat (first | (with_reducible exact HBX.out) | (with_reducible apply blk_seq) | (with_reducible apply blk_draw) | (with_reducible apply blk_plus) | (with_reducible apply blk_alloc) | (with_reducible apply blk_drew) | (with_reducible refine blk_patch ?_ (by omega)) | exact HBX.out)), (by (try unfold RdP); repeat (first | (with_reducible exact HX.out) | (with_reducible apply rd_seq) | (with_reducible apply Rd.plus) | (with_reducible apply Rd.alloc) | (with_reducible apply Rd.drew) | (with_reducible apply Rd.drewN))), (by (try unfold RdP); repeat (first | (with_reducible exact HLR.out) | (with_reducible apply rd_seq) | (with_reducible apply Rd.plus) | (with_reducible apply Rd.alloc) | (with_reducible apply Rd.drew) | (with_reducible apply Rd.drewN))), (by repeat (first | (with_reducible exact HB.out) | refine below_plus ?_ (by first | omega | (simp <;> omega)) _ | refine Below.alloc ?_ (by first | omega | (simp <;> omega)) _ | refine below_patch ?_ (by omega) _ | refine Below.drew ?_))⟩ ?_
      rintro Y ⟨hbk, hbx, hX, hL, hB⟩
      clear ck cx zk zx HR HX HB HBX HBK HLR HOR HOX
      have zk := (Array.getElem?_eq_some_iff.1 hbk).1
      have zx := (Array.getElem?_eq_some_iff.1 hbx).1
      have ck := cell_of hbk
      have cx := cell_of hbx
      have HX := Lib.hid hX
      have HB := Lib.hid hB
      have zw2 := hB.size
      have zl1 := hL.1
      have zl2 := hL.2.1
      have HOL := Lib.hid (RdS.open hL).2.2
      clear hbk hbx hX hB hL
      go_loopw [11] (fun i wr => ∃ (k : Nat) (z : Ext), b ≤ k ∧ k ≤ L.length ∧ i = .int .i64 k ∧ wr = plus Y z) (fun i _ => L.length - (intOf i).toNat)
      case atStart => exact ⟨b, _, Nat.le_refl _, hbL, rfl, (plus_self _).symm⟩
      case round =>
        obtain ⟨k, z, hk0, hk1, rfl, rfl⟩ := hrel
        rcases dec (k < L.length) with ⟨hlt, blt⟩ | ⟨hlt, blt⟩
        · rcases dec (L.length ≤ 60) with ⟨h60, b60⟩ | ⟨h60, b60⟩
          · obtain ⟨si, hsi⟩ : ∃ si, L[k]? = some si := ⟨_, List.getElem?_eq_getElem hlt⟩
            rcases HOL.out with h9 | ⟨b2, off', rfl, hb', hc'⟩
            · exact absurd hlt (by omega)
            have c1 := hc' k si hsi
            have HC := Lib.hid hc'
            have HSI := Lib.hid hsi
            clear hc' hsi
            have b61 : decide ((L.length : Int) ≤ 60) = true := by simp; omega
            go_wp2_with fail
            clear b60 h60 b61
            go_loopw [12] (fun i wr => ∃ (j : Nat) (z : Ext), j ≤ k ∧ i = .int .i64 j ∧ wr = plus Y z) (fun i _ => k - (intOf i).toNat)
            case atStart => exact ⟨0, _, Nat.zero_le _, rfl, rfl⟩
            case round =>
              obtain ⟨j, z, hj1, rfl, rfl⟩ := hrel
              rcases dec (j < k) with ⟨hjt, bjt⟩ | ⟨hjt, bjt⟩
              · obtain ⟨sj, hsj⟩ : ∃ sj, L[j]? = some sj := ⟨_, List.getElem?_eq_getElem (by omega)⟩
                have d1 := HC.out j sj hsj
                have v6 := HDIF.out k j si sj hk0 (by have := HLL.out; omega) hjt HSI.out hsj
                clear hsj
                go_wp2_with fail
                refine wp_region_pu 8 (fun w' => ∃ y, w' = plus _ y) (Plan.quiet 0 (Plan.quiet 1 (Plan.quiet 2 (Plan.quiet 3 (Plan.quiet 4 (Plan.quiet 5 (Plan.quiet 6 (Plan.quiet 7 (Plan.one 8 Plan.done))))))))) (by kernel_rfl) (by kernel_rfl) (⟨_, drew_is_plus _⟩) ?_
                refine wpPt_val rfl rfl ?_
                apply Exists.intro
                refine ⟨fun w' hS => ?_, ?_⟩
                focus (obtain ⟨y3, rfl⟩ := hS; simp [go_sem, ↓IntWalk.iteOmega, c1, d1, v6] <;> first | done | exact rfl | (rw [IntWalk.i64_in _ (by omega)]; exact rfl) | trace_state)
                refine wpPt_val rfl rfl ?_
                apply Exists.intro
                refine ⟨fun w' hS => ?_, ?_⟩
                focus (obtain ⟨y3, rfl⟩ := hS; simp [go_sem, ↓IntWalk.iteOmega, c1, d1, v6] <;> first | done | exact rfl | (rw [IntWalk.i64_in _ (by omega)]; exact rfl) | trace_state)
                refine wpPt_val rfl rfl ?_
                apply Exists.intro
                refine ⟨fun w' hS => ?_, ?_⟩
                focus (obtain ⟨y3, rfl⟩ := hS; simp [go_sem, ↓IntWalk.iteOmega, c1, d1, v6] <;> first | done | exact rfl | (rw [IntWalk.i64_in _ (by omega)]; exact rfl) | trace_state)
                refine wpPt_val rfl rfl ?_
                apply Exists.intro
                refine ⟨fun w' hS => ?_, ?_⟩
                focus (obtain ⟨y3, rfl⟩ := hS; simp [go_sem, ↓IntWalk.iteOmega, c1, d1, v6] <;> first | done | exact rfl | (rw [IntWalk.i64_in _ (by omega)]; exact rfl) | trace_state)
                refine wpPt_val rfl rfl ?_
                apply Exists.intro
                refine ⟨fun w' hS => ?_, ?_⟩
                focus (obtain ⟨y3, rfl⟩ := hS; simp [go_sem, ↓IntWalk.iteOmega, c1, d1, v6] <;> first | done | exact rfl | (rw [IntWalk.i64_in _ (by omega)]; exact rfl) | trace_state)
                refine wpPt_val rfl rfl ?_
                apply Exists.intro
                refine ⟨fun w' hS => ?_, ?_⟩
                focus (obtain ⟨y3, rfl⟩ := hS; simp [go_sem, ↓IntWalk.iteOmega, c1, d1, v6] <;> first | done | exact rfl | (rw [IntWalk.i64_in _ (by omega)]; exact rfl) | trace_state)
                refine wpPt_val rfl rfl ?_
                apply Exists.intro
                refine ⟨fun w' hS => ?_, ?_⟩
                focus (obtain ⟨y3, rfl⟩ := hS; simp [go_sem, ↓IntWalk.iteOmega, c1, d1, v6] <;> first | done | exact rfl | (rw [IntWalk.i64_in _ (by omega)]; exact rfl) | trace_state)
                refine wpPt_val rfl rfl ?_
                apply Exists.intro
                refine ⟨fun w' hS => ?_, ?_⟩
                focus (obtain ⟨y3, rfl⟩ := hS; simp [go_sem, ↓IntWalk.iteOmega, c1, d1, v6] <;> first | done | exact rfl | (rw [IntWalk.i64_in _ (by omega)]; exact rfl) | trace_state)
                refine wpPt_one rfl rfl (fun K hK => ?_)
                go_simp
                refine hK _ _ (fun hkn => absurd hkn (by decide)) ?_
                clear hK K
                refine NoPanic.normal ?_
                go_wp2_with fail
                go_roundw
                case rel => exact ⟨j + 1, _, by omega, by go_num, rfl⟩
                case measure => simp [intOf]; omega
              · go_wp2_with fail
                go_roundw
                case rel => exact ⟨k + 1, _, by omega, by omega, by go_num, rfl⟩
                case measure => simp [intOf]; omega
          · go_wp2_with fail
            refine (KnownValid_any o l m ia ic P P.length (-1) _ (by (try unfold RdP); repeat (first | (with_reducible exact HX.out) | (with_reducible apply rd_seq) | (with_reducible apply Rd.plus) | (with_reducible apply Rd.alloc) | (with_reducible apply Rd.drew) | (with_reducible apply Rd.drewN)))).mono ?_
            rintro e w' ⟨rfl, y9, rfl⟩
            rw [HKP.out]
            go_wp2_with fail
            go_ret
            exact ⟨rfl, (by repeat (first | (with_reducible exact HB.out) | refine below_plus ?_ (by first | omega | (simp <;> omega)) _ | refine Below.alloc ?_ (by first | omega | (simp <;> omega)) _ | refine below_patch ?_ (by omega) _ | refine Below.drew ?_))⟩
        · go_wp2_with fail
          refine (KnownValid_any o l m ia ic P P.length (-1) _ (by (try unfold RdP); repeat (first | (with_reducible exact HX.out) | (with_reducible apply rd_seq) | (with_reducible apply Rd.plus) | (with_reducible apply Rd.alloc) | (with_reducible apply Rd.drew) | (with_reducible apply Rd.drewN)))).mono ?_
          rintro e w' ⟨rfl, y9, rfl⟩
          rw [HKP.out]
          go_wp2_with fail
          go_ret
          exact ⟨rfl, (by repeat (first | (with_reducible exact HB.out) | refine below_plus ?_ (by first | omega | (simp <;> omega)) _ | refine Below.alloc ?_ (by first | omega | (simp <;> omega)) _ | refine below_patch ?_ (by omega) _ | refine Below.drew ?_))⟩

end Go.Proofs.Ytlihhlihcjncoaa
