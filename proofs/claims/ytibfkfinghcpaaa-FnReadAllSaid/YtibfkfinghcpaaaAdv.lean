/- What is known after a code: the walks of wordText at every code, advance, l2Step. -/
import Derived.Test.YtibfkfinghcpaaaWtx
import Derived.Test.YtibfkfinghcpaaaGf
namespace Go.Proofs.Ytibfkfinghcpaaa
open Go.RowKit
set_option linter.unusedVariables false
set_option linter.unusedSimpArgs false

set_option maxHeartbeats 1000000 in
theorem wordText_any (o l m : Int) (a : Option Addr) (cap : Nat) (ps : List Pr) (base last : Int) (c : Int) (w : World) (hr : RdP w a cap ps) (hkv : KV o l m ps base last) (hc : Okc l m ps.length last c) :
    Calls Try.prog 124 #[.agg #[.int .i64 o, .int .i64 l, .int .i64 m, .slice a ps.length cap, .int .i64 base, .int .i64 last], .int .i64 c] w (Ret w (.string (bstr (anyW l ps last c)))) := by
  have hlen := kv_len (kvb_iff.2 hkv)
  have hs := hkv.s
  by_cases hcn : c = nw l ps.length
  · have hl : hw l ps.length last = true := by
      rcases hc with h | ⟨hg, _⟩
      · have := hw_iff.1 h
        unfold nw at hcn; omega
      · rcases hkv.last with ⟨rfl, _⟩ | h
        · exact absurd rfl (grB_iff.1 hg).1
        · exact h
    have hw2 := W_len hl
    have hw1 := W_pos hkv.ok hl
    have z1 : (bstr (W l ps last)).size ≤ 3000 := by rw [bstr_size]; omega
    have z2 : 1 ≤ (bstr (W l ps last)).size := by rw [bstr_size]; omega
    have v1 : (c == nw l ps.length) = true := by simp [hcn]
    have HV := Lib.hid hkv
    have HA := Lib.hid (any_nw (l := l) (ps := ps) (last := last))
    rw [← hcn] at HA
    clear hc hkv hcn
    go_enter Try.func124, Try.ntmps124
    go_wp2_with (first | (go_at_call 141; refine (nextWord_any _ _ _ _ _ _ _ _ _ hs (by omega)).mono ?_; rintro e w' ⟨rfl, xc, rfl⟩) | (go_at_call 124; refine (wordText_hw (hr := (by repeat (first | exact hr | apply rd_seq | apply Rd.plus | apply Rd.alloc | apply Rd.drew | apply Rd.drewN | refine rd_patch ?_ _ _ (by intro A hA; first | (cases hA; show _ ≠ _; omega) | (have := hal A hA; omega))))) (hkv := HV.out) (hc0 := hl)).mono ?_; rintro e w' ⟨rfl, x, rfl⟩))
    go_ret
    exact ret_of (by rw [HA.out, ← bstr_app, bstr_pre]; rfl) (by repeat (first | exact More.refl _ | apply More.plus | apply More.alloc | apply More.drew | apply More.drewN))
  · have hl : hw l ps.length c = true := by
      rcases hc with h | ⟨_, h⟩
      · exact h
      · exact absurd h hcn
    rw [any_hw hl]
    exact wordText_hw o l m a cap ps base last c w hr hkv hl

set_option maxRecDepth 100000 in
set_option maxHeartbeats 1000000 in
theorem advance_clear (o l m : Int) (a : Option Addr) (cap n b : Nat) (last f : Int) (w : World) (hs : sv o l m = true) (hb : b ≤ n) (hn : n ≤ cap) (hc : cap ≤ 9223372036854775807) :
    Calls Try.prog 123 #[.agg #[.int .i64 o, .int .i64 l, .int .i64 m, .slice a n cap, .int .i64 b, .int .i64 last], .int .i64 (two l), .int .u8 f] w
      (Ret w (.agg #[.int .i64 o, .int .i64 l, .int .i64 m, .slice a b cap, .int .i64 b, .int .i64 (-1)])) := by
  have hbc : b ≤ cap := by omega
  go_enter Try.func123, Try.ntmps123
  go_wp2_with (go_at_call 121; refine (ClearCode_yes _ _ _ hs _).mono ?_; rintro e w' ⟨rfl, xc, rfl⟩)
  exact bodyPost_ret (v := .agg #[.int .i64 o, .int .i64 l, .int .i64 m, .slice a b cap, .int .i64 b, .int .i64 (-1)]) (by simp [results, Try.results123, go_sem, ↓IntWalk.iteOmega]) rfl (Ret.mk (by repeat (first | exact More.refl _ | apply More.plus | apply More.alloc | apply More.drew | apply More.drewN)))

/-- what a step leaves that grows the own pairs -/
def RetAd (w : World) (o l m base last : Int) (A : Option Addr) (qs : List Pr) (lo : Nat) (e : Ending) (w' : World) : Prop :=
  ∃ A' c', e = .returned (.agg #[.int .i64 o, .int .i64 l, .int .i64 m, .slice A' qs.length c', .int .i64 base, .int .i64 last]) ∧ Own encP 137 w' A' c' qs lo ∧ Grew A w w' ∧ Within A A' w.heap.size

theorem more_grew {A : Option Addr} {w w' : World} (h : More w w') : Grew A w w' := by
  obtain ⟨x, rfl⟩ := h
  exact grew_plus (grew_refl _ _) x

theorem grew_turn {A : Option Addr} {w w' : World} {b : Nat} {ob : Obj} (h : Grew A w w') (hb : w.heap.size ≤ b) : Grew A w (patch w' b ob) :=
  ⟨h.os, h.tape, h.output, by have := h.size; simp; omega, fun k hk ha => by rw [patch_other _ _ _ (by omega)]; exact h.block k hk ha⟩

set_option maxRecDepth 100000 in
set_option maxHeartbeats 2000000 in
theorem advance_code (o l m : Int) (A : Option Addr) (cap : Nat) (ps : List Pr) (base last c f : Int) (lo : Nat) (w : World) (hown : Own encP 137 w A cap ps lo) (hlo : lo ≤ w.heap.size) (hs : sv o l m = true) (hlen : ps.length ≤ 2000) (hc : c ≠ two l) (hf : f = hd (anyW l ps last c)) :
    Calls Try.prog 123 #[.agg #[.int .i64 o, .int .i64 l, .int .i64 m, .slice A ps.length cap, .int .i64 base, .int .i64 last], .int .i64 c, .int .u8 f] w
      (RetAd w o l m base c A (aftP l m ps last c) lo) := by
  have HO := Lib.hid hown
  have v1 : (c == two l) = false := by simp [hc]
  have hfb := hd_bd (anyW l ps last c)
  rw [← hf] at hfb
  obtain ⟨f0, f1⟩ := hfb
  have hcap : ps.length ≤ cap ∧ cap ≤ 9223372036854775807 := ⟨hown.rd.1, hown.rd.2.1⟩
  obtain ⟨cp1, cp2⟩ := hcap
  obtain ⟨i0, hi, hz0, hz1, hz2⟩ := info_parts infoPair
  have HF := Lib.hid hf
  have hAlt := fun X hX => (own_lt hown X hX).2
  have HBK := Lib.hid (show ((w.alloc (.cells #[.int .i64 o, .int .i64 l, .int .i64 m, .slice A ps.length cap, .int .i64 base, .int .i64 last] 27)).alloc (.cells #[.int .i64 0, .int .i64 0, .int .i64 0, .slice none 0 0, .int .i64 0, .int .i64 0] 27)).heap[w.heap.size]? = some _ from blk_alloc (push_new _ _ _ rfl) _)
  have HBR := Lib.hid (show ((w.alloc (.cells #[.int .i64 o, .int .i64 l, .int .i64 m, .slice A ps.length cap, .int .i64 base, .int .i64 last] 27)).alloc (.cells #[.int .i64 0, .int .i64 0, .int .i64 0, .slice none 0 0, .int .i64 0, .int .i64 0] 27)).heap[w.heap.size + 1]? = some _ from push_new _ _ _ (by simp))
  clear hown hc hf
  cases hg : grB l m ps.length last
  · have HA := Lib.hid (show aftP l m ps last c = ps by unfold aftP; rw [hg]; rfl)
    go_enter Try.func123, Try.ntmps123
    go_wp2_with (first | (go_at_call 121; refine (ClearCode_yes _ _ _ hs _).mono ?_; rintro e w' ⟨rfl, xc, rfl⟩) | (go_at_call 140; refine (grows_any _ _ _ _ _ _ _ _ _ hs (by omega)).mono ?_; rintro e w' ⟨rfl, xc, rfl⟩))
    rw [HA.out]
    exact bodyPost_ret (v := .agg #[.int .i64 o, .int .i64 l, .int .i64 m, .slice A ps.length cap, .int .i64 base, .int .i64 c]) (by simp [results, Try.results123, go_sem, ↓IntWalk.iteOmega]) rfl ⟨A, cap, rfl, (by repeat (first | (with_reducible exact HO.out) | (with_reducible apply own_seq) | (with_reducible apply own_draw) | (with_reducible apply Own.plus) | (with_reducible apply Own.alloc) | (with_reducible apply Own.drew) | (with_reducible apply Own.drewN))), more_grew (by repeat (first | exact More.refl _ | apply More.plus | apply More.alloc | apply More.drew | apply More.drewN)), within_refl _ _⟩
  · have HA := Lib.hid (show aftP l m ps last c = ps ++ [⟨last, f⟩] by unfold aftP; rw [hg, HF.out]; rfl)
    go_enter Try.func123, Try.ntmps123
    go_wp2_with (first | (go_at_call 121; refine (ClearCode_yes _ _ _ hs _).mono ?_; rintro e w' ⟨rfl, xc, rfl⟩) | (go_at_call 140; refine (grows_any _ _ _ _ _ _ _ _ _ hs (by omega)).mono ?_; rintro e w' ⟨rfl, xc, rfl⟩) | (at_builtin; refine wpList_append_at encP _ _ _ _ i0 _ 16 rfl rfl Try.underlying25 hi hz0 hz1 hz2 rfl (by decide) ps A cap lo (by repeat (first | (with_reducible exact HO.out) | (with_reducible apply Own.plus) | (with_reducible apply Own.alloc) | (with_reducible apply Own.drew))) rfl [⟨last, f⟩] _ 0 1 (new_cells encP ⟨last, f⟩ _ _ (by first | omega | rfl | (simp <;> omega) | (simp only [List.length_cons, List.length_nil, plus_size, World.size_alloc]; omega))) rfl (by first | omega | rfl | (simp <;> omega) | (simp only [List.length_cons, List.length_nil, plus_size, World.size_alloc]; omega)) (by first | omega | rfl | (simp <;> omega) | (simp only [List.length_cons, List.length_nil, plus_size, World.size_alloc]; omega)) (by simp <;> omega) ?_; intro A6 c6 w6 hw6 hg6 hx6; have HO6 := Lib.hid hw6; have HG6 := Lib.hid hg6; have HX6 := Lib.hid hx6; have HK6 := Lib.hid (blk_grew hg6 (by repeat (first | (with_reducible exact HBK.out) | (with_reducible apply blk_seq) | (with_reducible apply blk_draw) | (with_reducible apply blk_plus) | (with_reducible apply blk_alloc) | (with_reducible apply blk_drew) | (with_reducible refine blk_patch ?_ (by omega)) | exact HBK.out)) (fun X hX e => by have := hAlt X hX; omega)); have HR6 := Lib.hid (blk_grew hg6 (by repeat (first | (with_reducible exact HBR.out) | (with_reducible apply blk_seq) | (with_reducible apply blk_draw) | (with_reducible apply blk_plus) | (with_reducible apply blk_alloc) | (with_reducible apply blk_drew) | (with_reducible refine blk_patch ?_ (by omega)) | exact HBR.out)) (fun X hX e => by have := hAlt X hX; omega)); have r6 := cell_of HK6.out; have f6 := free_of HK6.out; have s6 := fun v => setCell_patch HK6.out 3 v; have g6 := free_of HR6.out; have q6 := cell_of HR6.out; have u6 := fun v => setCell_patch HR6.out 0 v; have hk6 := (Array.getElem?_eq_some_iff.1 HK6.out).1; have hr6 := (Array.getElem?_eq_some_iff.1 HR6.out).1; clear hw6 hg6 hx6))
    have hn : ∀ k, w.heap.size ≤ k → k < w.heap.size + 2 → Off A6 k := fun k h1 h2 X hX e => by
      rcases HX6.out X hX with ⟨Y, hY, he⟩ | he
      · have := hAlt Y hY; omega
      · simp at he; omega
    rw [HA.out]
    refine bodyPost_ret (v := .agg #[.int .i64 o, .int .i64 l, .int .i64 m, .slice A6 (ps ++ [Pr.mk last f]).length c6, .int .i64 base, .int .i64 c]) (by simp [results, Try.results123, go_sem, ↓IntWalk.iteOmega, hk6, hr6]) rfl ?_
    exact ⟨A6, c6, rfl, own_patch (own_patch HO6.out (hn _ (by omega) (by omega))) (hn _ (by omega) (by omega)), grew_turn (grew_turn (grew_trans (more_grew (by repeat (first | exact More.refl _ | apply More.plus | apply More.alloc | apply More.drew | apply More.drewN))) HG6.out) (by omega)) (Nat.le_refl _), HX6.out.within (by simp <;> omega)⟩

theorem l2Step_clear (o l m : Int) (a : Option Addr) (cap : Nat) (ps : List Pr) (b : Nat) (last : Int) (w : World) (hr : RdP w a cap ps) (hs : sv o l m = true) (hb : b ≤ ps.length) (hn : ps.length ≤ 2000) :
    Calls Try.prog 71 #[.agg #[.int .i64 o, .int .i64 l, .int .i64 m, .slice a ps.length cap, .int .i64 b, .int .i64 last], .int .i64 (two l)] w (RetK w o l m (ps.take b) (b : Int) (-1)) := by
  obtain ⟨_, l1, l2, _, _⟩ := sv_iff.1 hs
  have l0 : 0 ≤ l := by omega
  have l10 : l ≤ 10 := by omega
  go_enter Try.func71, Try.ntmps71
  go_wp2_with (first | (go_at_call 68; refine (l1Clear_any _ _ _ l0 l10 _).mono ?_; rintro e w' ⟨rfl, xc, rfl⟩) | fail)
  refine (l2Cleared_any o l m a cap ps b last _ (by repeat (first | exact hr | apply rd_seq | apply Rd.plus | apply Rd.alloc | apply Rd.drew | apply Rd.drewN | refine rd_patch ?_ _ _ (by intro A hA; first | (cases hA; show _ ≠ _; omega) | (have := hal A hA; omega)))) hb hn).mono ?_
  rintro e w' ⟨pa, pc, rfl, hown, x2, rfl⟩
  try simp only [plus_plus] at hown
  have HO := Lib.hid hown
  clear hown
  go_wp2_with fail
  exact bodyPost_ret (v := .agg #[.int .i64 o, .int .i64 l, .int .i64 m, .slice pa (ps.take b).length pc, .int .i64 b, .int .i64 (-1)]) (by simp [results, Try.results71, go_sem, ↓IntWalk.iteOmega, Nat.min_eq_left hb]) rfl ⟨pa, pc, rfl, ((own_swap HO.out (by simp <;> omega) (by simp <;> omega)).lower (by simp <;> omega)), (by repeat (first | exact More.refl _ | apply More.plus | apply More.alloc | apply More.drew | apply More.drewN))⟩

theorem l2Step_code (o l m : Int) (a : Option Addr) (cap : Nat) (ps : List Pr) (base last : Int) (c : Int) (w : World) (hr : RdP w a cap ps) (hkv : KV o l m ps base last) (hc : Okc l m ps.length last c) (hc2 : c ≠ two l) :
    Calls Try.prog 71 #[.agg #[.int .i64 o, .int .i64 l, .int .i64 m, .slice a ps.length cap, .int .i64 base, .int .i64 last], .int .i64 c] w (RetK w o l m (aftP l m ps last c) base c) := by
  obtain ⟨_, l1, l2, _, _⟩ := sv_iff.1 hkv.s
  have l0 : 0 ≤ l := by omega
  have l10 : l ≤ 10 := by omega
  have v1 : (c == two l) = false := by simp [hc2]
  have HV := Lib.hid hkv
  have HC := Lib.hid hc
  clear hkv hc hc2
  go_enter Try.func71, Try.ntmps71
  go_wp2_with (first | (go_at_call 68; refine (l1Clear_any _ _ _ l0 l10 _).mono ?_; rintro e w' ⟨rfl, xc, rfl⟩) | fail)
  refine (l2After_any o l m a cap ps base last c _ (by repeat (first | exact hr | apply rd_seq | apply Rd.plus | apply Rd.alloc | apply Rd.drew | apply Rd.drewN | refine rd_patch ?_ _ _ (by intro A hA; first | (cases hA; show _ ≠ _; omega) | (have := hal A hA; omega)))) HV.out HC.out).mono ?_
  rintro e w' ⟨pa, pc, rfl, hown, x2, rfl⟩
  try simp only [plus_plus] at hown
  have HO := Lib.hid hown
  clear hown
  go_wp2_with fail
  exact bodyPost_ret (v := .agg #[.int .i64 o, .int .i64 l, .int .i64 m, .slice pa (aftP l m ps last c).length pc, .int .i64 base, .int .i64 c]) (by simp [results, Try.results71, go_sem, ↓IntWalk.iteOmega]) rfl ⟨pa, pc, rfl, ((own_swap HO.out (by simp <;> omega) (by simp <;> omega)).lower (by simp <;> omega)), (by repeat (first | exact More.refl _ | apply More.plus | apply More.alloc | apply More.drew | apply More.drewN))⟩

end Go.Proofs.Ytibfkfinghcpaaa
