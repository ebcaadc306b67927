/- After of a code that has a word; NextWord. -/
import Derived.Test.YtlihhlihcjncoaaWof
import Derived.Test.YtlihhlihcjncoaaSok
import Derived.Test.YtlihhlihcjncoaaDrm
namespace Go.Proofs.Ytlihhlihcjncoaa
open Go.RowKit
set_option linter.unusedVariables false
set_option linter.unusedSimpArgs false

set_option maxRecDepth 100000 in
set_option maxHeartbeats 1000000 in
theorem implNextWord_yes (o l m : Int) (a : Option Addr) (cap : Nat) (ps : List Pr) (base last : Int) (w : World) (hr : RdP w a cap ps) (hk : kvb o l m ps base last = true) :
    Calls Try.prog 47 #[.agg #[.int .i64 o, .int .i64 l, .int .i64 m, .slice a ps.length cap, .int .i64 base, .int .i64 last]] w (Ret w (.int .i64 (nw l ps.length))) := by
  have hlen := kv_len hk
  have hs := (kvb_iff.1 hk).s
  have HR := Lib.hid (show Rd encP w a cap ps from hr)
  have HK := Lib.hid hk
  clear hr hk
  go_enter Try.func47, Try.ntmps47
  go_wp2_with fail
  refine (KnownValid_any o l m a cap ps base last _ (by (try unfold RdP); repeat (first | (with_reducible exact HR.out) | (with_reducible apply rd_seq) | (with_reducible apply Rd.plus) | (with_reducible apply Rd.alloc) | (with_reducible apply Rd.drew) | (with_reducible apply Rd.drewN)))).mono ?_
  rintro e w' ⟨rfl, x1, rfl⟩
  rw [HK.out]
  go_wp2_with fail
  refine (nextWord_any _ _ _ _ _ _ _ _ _ hs (by omega)).mono ?_
  rintro e w' ⟨rfl, x2, rfl⟩
  go_wp2_with fail
  go_ret
  exact Ret.mk (by repeat (first | exact More.refl _ | apply More.plus | apply More.alloc | apply More.drew | apply More.drewN))

set_option maxRecDepth 100000 in
set_option maxHeartbeats 2000000 in
theorem implAfter_code (o l m : Int) (a : Option Addr) (cap : Nat) (ps : List Pr) (b : Nat) (last c : Int) (w : World) (hr : RdP w a cap ps) (hkv : KV o l m ps (b : Int) last) (hc : Okc l m ps.length last c) :
    Calls Try.prog 37 #[.agg #[.int .i64 o, .int .i64 l, .int .i64 m, .slice a ps.length cap, .int .i64 b, .int .i64 last], .int .i64 c] w (RetO w (fun a0 c0 => .tuple #[.agg #[.int .i64 o, .int .i64 l, .int .i64 m, .slice a0 (aftP l m ps last c).length c0, .int .i64 b, .int .i64 c], .bool true]) (aftP l m ps last c)) := by
  have hlen := kv_len (kvb_iff.2 hkv)
  have hs := hkv.s
  obtain ⟨_, _, _, _, t1, t2, t4, _⟩ := hkv.lim.bds
  have hcan := okc_can t1 hc
  have hk := kvb_iff.2 hkv
  obtain ⟨hcl, hce⟩ := okc_not hc
  have v1 : (c == two l + 1) = false := by simp [hce]
  have v2 : (c != two l) = true := by simp [hcl]
  have hpos := any_len hkv.ok (hkv.last.imp (fun h => h.1) id) hc
  have hf := bstr_first hpos
  have hql := kv_len (kvb_iff.2 (hkv.after hc))
  obtain ⟨y2, hy2⟩ : ∃ y2, bstr (anyW l ps last c) = y2 := ⟨_, rfl⟩
  have hzl : y2.size = (anyW l ps last c).length := by rw [← hy2, bstr_size]
  have hy0 : 0 < y2.size := by omega
  have hfy : ((y2[0]'hy0).toNat : Int) = hd (anyW l ps last c) := by subst hy2; exact hf
  obtain ⟨f, hff⟩ : ∃ f : Int, ((y2[0]'hy0).toNat : Int) = f := ⟨_, rfl⟩
  have HFY := Lib.hid (show f = hd (anyW l ps last c) by rw [← hff]; exact hfy)
  obtain ⟨qs, hqs⟩ : ∃ qs, aftP l m ps last c = qs := ⟨_, rfl⟩
  have HADV := Lib.hid (fun (A : Option Addr) (cap : Nat) (lo : Nat) (W : World) (h1 : Own encP 44 W A cap ps lo) (h2 : lo ≤ W.heap.size) => advance_code o l m A cap ps b last c f lo W h1 h2 hs (by omega) hcl HFY.out)
  rw [hqs] at HADV hql ⊢
  have HR := Lib.hid (show Rd encP w a cap ps from hr)
  have HW := Lib.hid (fun (W : World) (h : RdP W a cap ps) => wordText_any o l m a cap ps b last c W h hkv hc)
  rw [hy2] at HW
  have HFF := Lib.hid hff
  clear hr hqs hf hy2 hpos hc hkv hfy hff
  go_enter Try.func37, Try.ntmps37
  go_wp2_with fail
  refine (KnownValid_any o l m a cap ps b last _ (by (try unfold RdP); repeat (first | (with_reducible exact HR.out) | (with_reducible apply rd_seq) | (with_reducible apply Rd.plus) | (with_reducible apply Rd.alloc) | (with_reducible apply Rd.drew) | (with_reducible apply Rd.drewN)))).mono ?_
  rintro e w' ⟨rfl, x1, rfl⟩
  rw [hk]
  go_wp2_with fail
  refine (canFollow_any o l m a ps.length cap b last c _ hs (by omega)).mono ?_
  rintro e w' ⟨rfl, x2, rfl⟩
  rw [hcan]
  go_wp2_with fail
  refine (EndCode_yes _ _ _ hs _).mono ?_
  rintro e w' ⟨rfl, x3, rfl⟩
  go_wp2_with fail
  refine (ClearCode_yes _ _ _ hs _).mono ?_
  rintro e w' ⟨rfl, x4, rfl⟩
  go_wp2_with fail
  refine (HW.out _ (by (try unfold RdP); repeat (first | (with_reducible exact HR.out) | (with_reducible apply rd_seq) | (with_reducible apply Rd.plus) | (with_reducible apply Rd.alloc) | (with_reducible apply Rd.drew) | (with_reducible apply Rd.drewN)))).mono ?_
  rintro e w' ⟨rfl, x5, rfl⟩
  go_wp2_with fail
  rw [HFF.out]
  refine callsn (fun X => X.heap[w.heap.size + 1]? = some (.cells #[.int .i64 0, .int .i64 0, .int .i64 0, .slice none 0 0, .int .i64 0, .int .i64 0] 27 (0, 0)) ∧ Rd encP X a cap ps ∧ Below w.heap.size w X) ⟨?_, (by (try unfold RdP); repeat (first | (with_reducible exact HR.out) | (with_reducible apply rd_seq) | (with_reducible apply Rd.plus) | (with_reducible apply Rd.alloc) | (with_reducible apply Rd.drew) | (with_reducible apply Rd.drewN))), (by repeat (first | exact Below.refl _ _ | refine below_plus ?_ (by first | omega | (simp <;> omega)) _ | refine Below.alloc ?_ (by first | omega | (simp <;> omega)) _ | refine below_patch ?_ (by omega) _ | refine Below.drew ?_))⟩ ?_
  · (repeat (first | exact push_new _ _ _ (by simp <;> omega) | apply blk_plus | apply blk_alloc | apply blk_drew))
  rintro X ⟨hbr, hR, hB⟩
  have zr := (Array.getElem?_eq_some_iff.1 hbr).1
  have HB := Lib.hid hB
  have HBR := Lib.hid hbr
  have sc := fun i v => setCell_patch hbr i v
  have rc := cell_of hbr
  have rf := free_of hbr
  clear hbr hB
  refine (copyKnown_any o l m a cap ps b last _ hR (by omega)).mono ?_
  rintro e w' ⟨pa, pc, rfl, hown, x6, rfl⟩
  have HO := Lib.hid hown
  clear hown
  go_wp2_with fail
  refine (HADV.out pa pc X.heap.size _ HO.out (by simp)).mono ?_
  rintro e w8 ⟨A8, c8, rfl, hown8, hg8, hwi8⟩
  have hb8 : Below X.heap.size X w8 := Below.trans (below_plus (Below.refl _ _) (Nat.le_refl _) _) (hg8.below (B := X.heap.size) (by simp) (fun Y hY => own_lo HO.out Y hY))
  obtain ⟨x8, rfl⟩ := below_more hb8
  have HO8 := Lib.hid hown8
  clear hown8 hg8 hwi8 hb8
  go_wp2_with fail
  refine (copyKnown_any o l m A8 c8 qs b c _ HO8.out.rd (by omega)).mono ?_
  rintro e w' ⟨qa, qc, rfl, hown, x9, rfl⟩
  (try simp only [plus_plus] at hown)
  have HO9 := Lib.hid hown
  clear hown
  go_wp2_with fail
  refine bodyPost_ret (v := .tuple #[.agg #[.int .i64 o, .int .i64 l, .int .i64 m, .slice qa qs.length qc, .int .i64 b, .int .i64 c], .bool true]) (by simp [results, Try.results37, go_sem, ↓IntWalk.iteOmega]) rfl ⟨qa, qc, rfl, ?_, below_more (by repeat (first | (with_reducible exact HB.out) | refine below_plus ?_ (by first | omega | (simp <;> omega)) _ | refine Below.alloc ?_ (by first | omega | (simp <;> omega)) _ | refine below_patch ?_ (by omega) _ | refine Below.drew ?_))⟩
  have hz := HB.out.size
  exact (by repeat (first | exact (own_swap HO9.out (by simp) (by simp <;> omega)).lower (by simp <;> omega) | (with_reducible apply Own.alloc) | (with_reducible apply Own.drew) | (with_reducible apply own_draw) | (with_reducible apply own_seq)))

end Go.Proofs.Ytlihhlihcjncoaa
