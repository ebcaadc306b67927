/- The word of a code, by the program: the walk of wordText. -/
import Derived.Test.YtibfkfinghcpaaaFol
namespace Go.Proofs.Ytibfkfinghcpaaa
open Go.RowKit
set_option linter.unusedVariables false
set_option linter.unusedSimpArgs false

theorem rd_under {α : Type} {E : Enc α} {w w' : World} {a : Option Addr} {cap : Nat} {xs : List α} (h : Rd E w a cap xs) (hb : Below w.heap.size w w') : Rd E w' a cap xs :=
  h.of_block fun A hA hl => ⟨by have := hb.size; omega, hb.block _ hl⟩

set_option maxRecDepth 100000 in
set_option maxHeartbeats 4000000 in
theorem wordText_hw (o l m : Int) (a : Option Addr) (cap : Nat) (ps : List Pr) (base last : Int) (c0 : Int) (w : World) (hr : RdP w a cap ps) (hkv : KV o l m ps base last) (hc0 : hw l ps.length c0 = true) :
    Calls Try.prog 124 #[.agg #[.int .i64 o, .int .i64 l, .int .i64 m, .slice a ps.length cap, .int .i64 base, .int .i64 last], .int .i64 c0] w (Ret w (.string (bstr (W l ps c0)))) := by
  have hs := hkv.s
  have hn := kv_len (kvb_iff.2 hkv)
  obtain ⟨_, l1, l2, _, _⟩ := sv_iff.1 hs
  obtain ⟨t1, t2⟩ := two_lit l1 l2
  obtain ⟨i0, hi, hz0, hz1, hz2⟩ := info_parts infoByte
  have hc1 := hw_iff.1 hc0
  have v0 : (c0 == nw l ps.length) = false := by simp; unfold nw; omega
  have HKV := Lib.hid hkv
  have HRP := Lib.hid hr
  have HC0 := Lib.hid hc0
  clear hkv hc1 hr hc0
  go_enter Try.func124, Try.ntmps124
  go_wp2_with (first | (go_at_call 141; refine (nextWord_any _ _ _ _ _ _ _ _ _ hs (by omega)).mono ?_; rintro e w' ⟨rfl, xc, rfl⟩) | (go_at_call 21; refine (EndCode_yes _ _ _ hs _).mono ?_; rintro e w' ⟨rfl, xc, rfl⟩))
  go_loopw [1, 7] (fun q s wr => ∃ (c : Int) (bs : List UInt8) (A : Option Addr) (cp : Nat), hw l ps.length c = true ∧ q = .int .i64 c ∧ s = .slice A bs.length cp ∧ Own encB 5 wr A cp bs (w.heap.size + 1) ∧
      W l ps c0 = W l ps c ++ bs.reverse ∧ wr.heap[w.heap.size]? = some (.cells #[.int .i64 o, .int .i64 l, .int .i64 m, .slice a ps.length cap, .int .i64 base, .int .i64 last] 27 (0, 0)) ∧ Below w.heap.size w wr) (fun q _ _ => (intOf q).toNat)
  case atStart => exact ⟨c0, [], none, 0, HC0.out, rfl, rfl, .inl ⟨rfl, rfl, rfl⟩, by simp, blk_plus (push_new _ _ _ rfl) _, (by repeat (first | exact Below.refl _ _ | refine below_plus ?_ (by first | omega | (simp <;> omega)) _ | refine Below.alloc ?_ (by first | omega | (simp <;> omega)) _ | refine below_patch ?_ (by omega) _ | refine Below.drew ?_))⟩
  case round =>
    obtain ⟨c, bs, A, cp, hcw, rfl, rfl, hown, hwb, hblk, hbl⟩ := hrel
    have HB := Lib.hid hbl
    have HO := Lib.hid hown
    have HW := Lib.hid hwb
    have hsz := (Array.getElem?_eq_some_iff.1 hblk).1
    have rk := cell_of hblk
    have HBK := Lib.hid hblk
    have hbs : bs.length ≤ 3000 := by
      have h1 := congrArg List.length hwb
      have h2 := W_len HC0.out
      simp at h1
      omega
    obtain ⟨r1, r2, r3⟩ := RdP.open (rd_under HRP.out hbl)
    have hAlt := fun A hA => (own_lt hown A hA).2
    have hAlo := fun A hA => (own_lt hown A hA).1
    have hcw2 := hw_iff.1 hcw
    have HCW := Lib.hid hcw
    clear hbl hown hwb hblk hcw
    rcases dec (two l + 1 < c) with ⟨g1, v1⟩ | ⟨g1, v1⟩
    · obtain ⟨k, hk, hck⟩ := hw_pair HCW.out g1
      have hk : k < ps.length := by omega
      have hkk : k = (c - (two l + 1)).toNat - 1 := by rw [hck]; unfold nw; omega
      have hcub : c ≤ 5000 := by omega
      have hcl : (c - (two l + 1)).toNat - 1 < ps.length := by omega
      have hex : ∃ p, ps[k]? = some p := ⟨_, List.getElem?_eq_getElem hk⟩
      obtain ⟨p, hp⟩ := hex
      obtain ⟨ok1, ok2, ok3⟩ := HKV.out.ok _ p hp
      have okw := hw_iff.1 ok1
      rcases r3 with rfl | ⟨b, off, rfl, hb, hc⟩
      · exact absurd hk (by omega)
      obtain ⟨c1, c2⟩ := hc _ p hp
      rw [hkk] at c1 c2
      have HP := Lib.hid (show W l ps c = W l ps p.p ++ [UInt8.ofNat p.b.toNat] by rw [hck]; exact W_pair HKV.out.ok hp)
      have HN := Lib.hid (show hw l ps.length p.p = true from hw_iff.2 (by omega))
      have hdec : p.p < c := by rw [hck]; unfold nw; omega
      have hb3 : p.b ≤ 255 := by omega
      clear hp hc okw hcw2 ok1 hck hkk hk
      go_wp2_with (at_builtin; refine wpList_append_at encB _ _ _ _ i0 _ 1 rfl rfl Try.underlying22 hi hz0 hz1 hz2 rfl (by decide) bs A cp (w.heap.size + 1) (by repeat (first | (with_reducible exact HO.out) | (with_reducible apply Own.plus) | (with_reducible apply Own.alloc) | (with_reducible apply Own.drew))) rfl [UInt8.ofNat p.b.toNat] _ 0 1 (one_cells _ _ p.b ok2 hb3 (by simp)) rfl (by first | omega | rfl | (simp <;> omega) | (simp only [List.length_cons, List.length_nil, plus_size, World.size_alloc]; omega)) (by first | omega | rfl | (simp <;> omega) | (simp only [List.length_cons, List.length_nil, plus_size, World.size_alloc]; omega)) (by simp <;> omega) ?_; intro A6 c6 w6 hw6 hg6 hx6; have HO6 := Lib.hid hw6; have HG6 := Lib.hid hg6; have hrule6 := grew_rule hg6 hAlt; have z6 := hg6.size; simp at z6; clear hw6 hg6 hx6)
      go_roundw
      case rel =>
        refine ⟨p.p, bs ++ [UInt8.ofNat p.b.toNat], A6, c6, HN.out, rfl, by simp, HO6.out, by rw [HW.out, HP.out]; simp, ?_, HB.out.trans (Below.trans (b := _) (by repeat (first | exact Below.refl _ _ | refine below_plus ?_ (by first | omega | (simp <;> omega)) _ | refine Below.alloc ?_ (by first | omega | (simp <;> omega)) _ | refine below_patch ?_ (by omega) _ | refine Below.drew ?_)) (HG6.out.below (by simp <;> omega) fun X hX => by have := hAlo X hX; omega))⟩
        exact blk_grew HG6.out (by repeat (first | (with_reducible exact HBK.out) | (with_reducible apply blk_seq) | (with_reducible apply blk_draw) | (with_reducible apply blk_plus) | (with_reducible apply blk_alloc) | (with_reducible apply blk_drew) | (with_reducible refine blk_patch ?_ (by omega)) | exact HBK.out)) (fun X hX e => by have := hAlo X hX; omega)
      case measure => simp [intOf]; omega
    · have ok1 : 0 ≤ c := by omega
      have ok2 : c ≤ 255 := by omega
      have HWL := Lib.hid (show W l ps c0 = (bs ++ [UInt8.ofNat c.toNat]).reverse by rw [HW.out, W_lit (by omega)]; simp)
      go_wp2_with (at_builtin; refine wpList_append_at encB _ _ _ _ i0 _ 1 rfl rfl Try.underlying22 hi hz0 hz1 hz2 rfl (by decide) bs A cp (w.heap.size + 1) (by repeat (first | (with_reducible exact HO.out) | (with_reducible apply Own.plus) | (with_reducible apply Own.alloc) | (with_reducible apply Own.drew))) rfl [UInt8.ofNat c.toNat] _ 0 1 (one_cells _ _ c ok1 ok2 (by simp)) rfl (by first | omega | rfl | (simp <;> omega) | (simp only [List.length_cons, List.length_nil, plus_size, World.size_alloc]; omega)) (by first | omega | rfl | (simp <;> omega) | (simp only [List.length_cons, List.length_nil, plus_size, World.size_alloc]; omega)) (by simp <;> omega) ?_; intro A6 c6 w6 hw6 hg6 hx6; have HO6 := Lib.hid hw6; have HG6 := Lib.hid hg6; have z6 := hg6.size; simp at z6; clear hw6 hg6 hx6)
      obtain ⟨b6, cu6, rfl, q1, q2, q3, q4, q5, q6, q7⟩ := own_some HO6.out (by simp)
      have HBL6 := Lib.hid (HB.out.trans (Below.trans (b := _) (by repeat (first | exact Below.refl _ _ | refine below_plus ?_ (by first | omega | (simp <;> omega)) _ | refine Below.alloc ?_ (by first | omega | (simp <;> omega)) _ | refine below_patch ?_ (by omega) _ | refine Below.drew ?_)) (HG6.out.below (by simp <;> omega) fun X hX => by have := hAlo X hX; omega)))
      have hxl : (bs ++ [UInt8.ofNat c.toNat]).length = bs.length + 1 := by simp
      have hcall := Reverse_any b6 c6 (bs ++ [UInt8.ofNat c.toNat]) cu6 w6 q3 q5 (by simp) q6 (by have : cu6.size = c6 := by simpa [encB] using q4
                                                                                                  omega) q7
      have HCS := Lib.hid (show cu6.size = c6 by simpa [encB] using q4)
      rw [hxl] at hcall q6
      clear q3 q4 q5 hxl
      refine hcall.mono ?_
      rintro e w' ⟨rfl, cu, x9, hcu, hrow, rfl⟩
      have hrd : Rd encB (plus (patch w6 b6 (.cells cu 5)) x9) (some ⟨b6, 0, none⟩) c6 (bs ++ [UInt8.ofNat c.toNat]).reverse := (rd_patched q2 hrow (by simpa using q6) q7).plus _
      have hst := run_str (P := Try.prog) Try.underlying22 Try.underlying5 Try.underlying9 hrd (by simp)
      rw [List.length_reverse, List.length_append, List.length_singleton, ← HWL.out] at hst
      have HF := Lib.hid (below_plus (below_patch HBL6.out (b := b6) (by omega) (.cells cu 5)) (by simp; omega) x9)
      clear hrd hrow hcall
      go_wp2_with fail
      go_ret
      exact ret_of (by simp; rfl) (below_more HF.out)

end Go.Proofs.Ytibfkfinghcpaaa
