/- The bits of codes: the walks of PackCodes and l2Pack. -/
import Derived.Test.YtmddcbebaijjkaaGreatDoorWks
import Derived.Test.YtmddcbebaijjkaaGreatDoorBtl
namespace Go.Proofs.YtmddcbebaijjkaaGreatDoor
open Go.RowKit
set_option linter.unusedVariables false
set_option linter.unusedSimpArgs false

/-- the bits of codes with their widths -/
def cbits (o : Int) (is W : List Int) : List UInt8 := (is.zip W).flatMap fun x => bitsL o x.1 x.2.toNat

theorem cbits_len {o : Int} : ∀ (is W : List Int), (∀ x, x ∈ W → x ≤ 10) → (cbits o is W).length ≤ 10 * is.length
  | [], _, _ => by simp [cbits]
  | _ :: _, [], _ => by simp [cbits]
  | c :: is, x :: W, h => by
    have e : cbits o (c :: is) (x :: W) = bitsL o c x.toNat ++ cbits o is W := by simp [cbits]
    have h1 := h x (by simp)
    have h2 := cbits_len (o := o) is W fun y hy => h y (by simp [hy])
    rw [e, List.length_append, bitsL_len, List.length_cons]
    omega

theorem cbits_take {o : Int} {is W : List Int} {k : Nat} {c x : Int} (hc : is[k]? = some c) (hx : W[k]? = some x) : cbits o (is.take (k + 1)) (W.take (k + 1)) = cbits o (is.take k) (W.take k) ++ bitsL o c x.toNat := by
  have h1 : is.take (k + 1) = is.take k ++ [c] := by rw [List.take_add_one, hc]; rfl
  have h2 : W.take (k + 1) = W.take k ++ [x] := by rw [List.take_add_one, hx]; rfl
  have l1 : (is.take k).length = (W.take k).length := by
    have := (List.getElem?_eq_some_iff.1 hc).1
    have := (List.getElem?_eq_some_iff.1 hx).1
    rw [List.length_take, List.length_take]; omega
  unfold cbits
  rw [h1, h2, List.zip_append l1]
  simp

theorem bt_bv (n : Int) (i : Nat) : bt n i = 48 ∨ bt n i = 49 := by unfold bt; split <;> simp

theorem bitsL_bv (o n : Int) (w : Nat) : BV (bitsL o n w) := by
  intro b hb
  unfold bitsL lowL at hb
  have : b ∈ (List.range w).map (bt n) := by
    split at hb
    · exact List.mem_reverse.1 hb
    · exact hb
  obtain ⟨i, _, rfl⟩ := List.mem_map.1 this
  exact bt_bv n i

theorem cbits_bv (o : Int) (is W : List Int) : BV (cbits o is W) := by
  intro b hb
  obtain ⟨x, _, hx⟩ := List.mem_flatMap.1 hb
  exact bitsL_bv o _ _ b hx

theorem wd_ten {o l m n last : Int} (h : Lim o l m n last) : 1 ≤ wd l m n last ∧ wd l m n last ≤ 10 := by
  have h1 := gt_bd h
  obtain ⟨a1, a2, _⟩ := h.bds
  unfold wd need
  omega

theorem wlk_bd {o l m : Int} {b : Nat} : ∀ (is : List Int) (ps : List Pr) (last : Int) (W0 : List Int) (D0 : List UInt8) (W : List Int) (D : List UInt8), KV o l m ps (b : Int) last → wlk l m b is ps last W0 D0 = some (W, D) →
    W.length = W0.length + is.length ∧ (∀ x, x ∈ W → x ∈ W0 ∨ (1 ≤ x ∧ x ≤ 10)) ∧ ∀ c, c ∈ is → 0 ≤ c ∧ c < 1024
  | [], ps, last, W0, D0, W, D, hkv, h => by
    rw [wlk_nil] at h
    cases h
    exact ⟨by simp, fun x hx => .inl hx, fun c hc => by simp at hc⟩
  | c :: cs, ps, last, W0, D0, W, D, hkv, h => by
    have hb := hkv.lim.bds
    obtain ⟨_, _, _, _, t1, t2, t3, t4⟩ := hb
    have hw := wd_ten hkv.lim
    have hg := gt_bd hkv.lim
    have key : ∀ (ps' : List Pr) (last' : Int) (D0' : List UInt8), KV o l m ps' (b : Int) last' → (0 ≤ c ∧ c < 1024) → wlk l m b cs ps' last' (W0 ++ [wd l m ps.length last]) D0' = some (W, D) →
        W.length = W0.length + (c :: cs).length ∧ (∀ x, x ∈ W → x ∈ W0 ∨ (1 ≤ x ∧ x ≤ 10)) ∧ ∀ c', c' ∈ c :: cs → 0 ≤ c' ∧ c' < 1024 := fun ps' last' D0' hk hc hh => by
      obtain ⟨q1, q2, q3⟩ := wlk_bd cs ps' last' _ _ W D hk hh
      refine ⟨by rw [q1]; simp; omega, fun x hx => ?_, fun c' hc' => ?_⟩
      · rcases q2 x hx with h1 | h1
        · rcases List.mem_append.1 h1 with h1 | h1
          · exact .inl h1
          · simp at h1; subst h1; exact .inr hw
        · exact .inr h1
      · rcases List.mem_cons.1 hc' with rfl | hc'
        · exact hc
        · exact q3 c' hc'
    by_cases he : c = two l + 1
    · rw [he, wlk_end] at h
      split at h
      · rename_i hn
        have : wlk l m b cs ps last (W0 ++ [wd l m ps.length last]) D0 = some (W, D) := by rw [hn, wlk_nil]; exact h
        exact key _ _ _ hkv (by omega) this
      · cases h
    · by_cases hcl : c = two l
      · rw [hcl, wlk_clear] at h
        exact key _ _ _ (by simpa using hkv.cleared) (by omega) h
      · by_cases hok : Okc l m ps.length last c ∧ D0.length + (anyW l ps last c).length ≤ 2000
        · rw [wlk_word hok.1 hok.2] at h
          exact key _ _ _ (hkv.after hok.1) ⟨hok.1.nonneg t1, by have := okc_le hok.1 t1; omega⟩ h
        · rw [wlk_bad hcl he hok] at h
          cases h

theorem grew_rule2 {b0 : Nat} {w w' : World} (h : Grew (some ⟨b0, 0, none⟩) w w') (n i : Nat) : w'.cell? ⟨n, i, none⟩ = if n < w.heap.size then (if n = b0 then cellPast w' ⟨n, i, none⟩ else w.cell? ⟨n, i, none⟩) else cellPast w' ⟨n, i, none⟩ := by
  split
  · split
    · rfl
    · rename_i h1 h2
      exact World.cell?_of_block (a := ⟨n, i, none⟩) (h.block n h1 fun X hX e => by cases hX; exact h2 e.symm)
  · rfl

set_option maxRecDepth 100000 in
set_option maxHeartbeats 4000000 in
theorem l2Pack_any (o l m : Int) (a : Option Addr) (cap : Nat) (ps : List Pr) (base last : Int) (ia : Option Addr) (icap : Nat) (is : List Int) (w : World) (hr : RdP w a cap ps) (hri : Rd encI w ia icap is) (hk : kvb o l m ps base last = true) (hil : is.length ≤ 3100) (b : Nat) (hb : base = b) (W : List Int) (D : List UInt8) (hR : wlk l m b is ps last [] [] = some (W, D)) :
    Calls Tryz.prog 81 #[.agg #[.int .i64 o, .int .i64 l, .int .i64 m, .slice a ps.length cap, .int .i64 base, .int .i64 last], .slice ia is.length icap] w (Ret w (.string (bstr (cbits o is W)))) := by
  subst hb
  have hkv := kvb_iff.1 hk
  have hs := hkv.s
  obtain ⟨ho, _⟩ := sv_iff.1 hs
  obtain ⟨q1, q2, q3⟩ := wlk_bd is ps last [] [] W D hkv hR
  have q1 : W.length = is.length := by simpa using q1
  have q2 : ∀ x, x ∈ W → 1 ≤ x ∧ x ≤ 10 := fun x hx => by have := q2 x hx; simpa using this
  have hcl := cbits_len (o := o) is W fun x hx => (q2 x hx).2
  have HRR := Lib.hid hR
  have HRI := Lib.hid hri
  have HK := Lib.hid hk
  have HQ1 := Lib.hid q1
  have HQ2 := Lib.hid q2
  have HQ3 := Lib.hid q3
  obtain ⟨j0, hj, jz0, jz1, jz2⟩ := info_parts infoByte
  clear hkv hR hri q1 q2 q3 hk
  go_enter Tryz.func81, Tryz.ntmps81
  go_wp2_with fail
  refine (l2Walk_any o l m a cap ps b last ia icap is _ (by repeat (first | exact hr | apply rd_seq | apply Rd.plus | apply Rd.alloc | apply Rd.drew | apply Rd.drewN | refine rd_patch ?_ _ _ (by intro A hA; first | (cases hA; show _ ≠ _; omega) | (have := hal A hA; omega)))) (by repeat (first | exact HRI.out | apply rd_seq | apply Rd.plus | apply Rd.alloc | apply Rd.drew | apply Rd.drewN | refine rd_patch ?_ _ _ (by intro A hA; first | (cases hA; show _ ≠ _; omega) | (have := hal A hA; omega)))) HK.out hil b rfl _ HRR.out).mono ?_
  rintro e w1 ⟨pa, pn, pc, la, wa, wc, W1, y1, bb, rfl, hown, hy1, hmt, hx⟩
  obtain ⟨rfl, _, _, _⟩ := hmt
  have hblk : w1.heap[w.heap.size]? = some (.cells #[.int .i64 o, .int .i64 l, .int .i64 m, .slice a ps.length cap, .int .i64 b, .int .i64 last] 26 (0, 0)) := by
    obtain ⟨x, rfl⟩ := hx
    exact blk_plus (blk_alloc (push_new _ _ _ rfl) _) _
  have hblk2 : w1.heap[w.heap.size + 1]? = some (.cells #[] 5 (0, 0)) := by
    obtain ⟨x, rfl⟩ := hx
    exact blk_plus (push_new _ _ _ (by simp)) _
  have hbl : Below w.heap.size w w1 := by
    obtain ⟨x, rfl⟩ := hx
    exact (by repeat (first | exact Below.refl _ _ | refine below_plus ?_ (by first | omega | (simp <;> omega)) _ | refine Below.alloc ?_ (by first | omega | (simp <;> omega)) _ | refine below_patch ?_ (by omega) _ | refine Below.drew ?_))
  have hsz1 := (Array.getElem?_eq_some_iff.1 hblk).1
  have hsz2 := (Array.getElem?_eq_some_iff.1 hblk2).1
  have HBK := Lib.hid hblk
  have HBK2 := Lib.hid hblk2
  have HBL := Lib.hid hbl
  have hrw := hown.rd
  obtain ⟨s1, s2, s3⟩ := rdI_open hrw
  obtain ⟨r1, r2, r3⟩ := rdI_open (rd_under HRI.out hbl)
  have hlw := own_lt hown
  clear hown hx hblk hblk2 hrw hbl
  have hr0 := rdI_open HRI.out
  go_wp2_with fail
  go_loopw [5, 10] (fun p z wr => ∃ (k : Nat) (ys : List UInt8) (A : Option Addr) (c : Nat), p = .slice A ys.length c ∧ z = .int .i64 k ∧ k ≤ is.length ∧ ys = cbits o (is.take k) (W1.take k) ∧ Own encB 5 wr A c ys (w.heap.size + 1) ∧ Grew (some ⟨w.heap.size + 1, 0, none⟩) w1 wr ∧ Within (some ⟨w.heap.size + 1, 0, none⟩) A w1.heap.size) (fun _ z _ => is.length - (intOf z).toNat)
  case atStart =>
    have h0 : Own encB 5 w1 (some ⟨w.heap.size + 1, 0, none⟩) 0 [] (w.heap.size + 1) := .inr ⟨w.heap.size + 1, #[], rfl, Nat.le_refl _, HBK2.out, rfl, fun j u hj => by simp [flat] at hj, by simp, by omega⟩
    exact ⟨0, [], _, 0, rfl, rfl, by omega, by simp [cbits], (by repeat (first | (with_reducible exact h0) | (with_reducible apply own_seq) | (with_reducible apply own_draw) | (with_reducible apply Own.plus) | (with_reducible apply Own.alloc) | (with_reducible apply Own.drew) | (with_reducible apply Own.drewN))), more_grew (by repeat (first | exact More.refl _ | apply More.plus | apply More.alloc | apply More.drew | apply More.drewN)), within_refl _ _⟩
  case round =>
    obtain ⟨k, ys, A, ac, rfl, rfl, hk1, hys, hown, hg, hwi⟩ := hrel
    have HO := Lib.hid hown
    have hsz := hg.size
    have HG := Lib.hid hg
    have HW := Lib.hid hwi
    have HY := Lib.hid hys
    have hyl : ys.length ≤ 40000 := by
      rw [hys]
      have := cbits_len (o := o) (is.take k) (W1.take k) fun x hx => (HQ2.out x (List.mem_of_mem_take hx)).2
      rw [List.length_take] at this
      omega
    clear hown hg hys hwi
    rcases dec (k < is.length) with ⟨hlt, v1⟩ | ⟨hlt, v1⟩
    · obtain ⟨c, hc⟩ : ∃ c, is[k]? = some c := ⟨_, List.getElem?_eq_getElem hlt⟩
      obtain ⟨x, hx⟩ : ∃ x, W1[k]? = some x := ⟨_, List.getElem?_eq_getElem (by rw [HQ1.out]; exact hlt)⟩
      rcases hr0 with ⟨_, _, rfl | ⟨bg, off, rfl, hbg, hcells⟩⟩
      · exact absurd hlt (by omega)
      rcases s3 with rfl | ⟨bw, off2, rfl, hbw, hcells2⟩
      · have := HQ1.out; exact absurd hlt (by omega)
      have c1 : w1.cell? ⟨bg, off + k, none⟩ = some (.int .i64 c) := by rw [World.cell?_of_block (a := ⟨bg, off + k, none⟩) (HBL.out.block bg hbg)]; exact hcells k c hc
      have d1 := hcells2 k x hx
      have k1 := cell_of HBK.out
      have hbw2 := (hlw _ rfl).1
      simp at hbw2
      have hcb := HQ3.out c (List.mem_of_getElem? hc)
      have hxb := HQ2.out x (List.mem_of_getElem? hx)
      obtain ⟨n, rfl⟩ : ∃ n : Nat, x = n := ⟨x.toNat, by omega⟩
      have HT := Lib.hid (cbits_take (o := o) hc hx)
      have hwl : k < W1.length := by rw [HQ1.out]; exact hlt
      have hbg2 : bg < w1.heap.size := by omega
      have z5 : (bstr (bitsL o c n)).size = n := by rw [bstr_size, bitsL_len]
      have D5 := Lib.hid (bytes_bstr (bitsL o c n))
      clear hc hx hcells hcells2 r3
      go_wp2_with fail
      refine wp_region_pt 14 (fun w' => Grew (some ⟨w.heap.size + 1, 0, none⟩) w1 w') (Plan.quiet 0 (Plan.quiet 1 (Plan.quiet 2 (Plan.quiet 3 (Plan.quiet 4 (Plan.quiet 5 (Plan.quiet 6 (Plan.quiet 7 (Plan.quiet 8 (Plan.quiet 9 (Plan.quiet 10 (Plan.quiet 11 (Plan.one 12 (Plan.one 13 (Plan.one 14 Plan.done))))))))))))))) (by kernel_rfl) (by kernel_rfl) (grew_drew HG.out) ?_
      refine wpPt_val rfl rfl ?_
      apply Exists.intro
      refine ⟨fun w' hS => ?_, ?_⟩
      focus (have hrl := grew_rule2 hS; simp [go_sem, ↓IntWalk.iteOmega, hrl, k1, c1, d1] <;> first | done | exact rfl | (rw [IntWalk.i64_in _ (by omega)]; exact rfl) | trace_state)
      refine wpPt_val rfl rfl ?_
      apply Exists.intro
      refine ⟨fun w' hS => ?_, ?_⟩
      focus (have hrl := grew_rule2 hS; simp [go_sem, ↓IntWalk.iteOmega, hrl, k1, c1, d1] <;> first | done | exact rfl | (rw [IntWalk.i64_in _ (by omega)]; exact rfl) | trace_state)
      refine wpPt_val rfl rfl ?_
      apply Exists.intro
      refine ⟨fun w' hS => ?_, ?_⟩
      focus (have hrl := grew_rule2 hS; simp [go_sem, ↓IntWalk.iteOmega, hrl, k1, c1, d1] <;> first | done | exact rfl | (rw [IntWalk.i64_in _ (by omega)]; exact rfl) | trace_state)
      refine wpPt_val rfl rfl ?_
      apply Exists.intro
      refine ⟨fun w' hS => ?_, ?_⟩
      focus (have hrl := grew_rule2 hS; simp [go_sem, ↓IntWalk.iteOmega, hrl, k1, c1, d1] <;> first | done | exact rfl | (rw [IntWalk.i64_in _ (by omega)]; exact rfl) | trace_state)
      refine wpPt_val rfl rfl ?_
      apply Exists.intro
      refine ⟨fun w' hS => ?_, ?_⟩
      focus (have hrl := grew_rule2 hS; simp [go_sem, ↓IntWalk.iteOmega, hrl, k1, c1, d1] <;> first | done | exact rfl | (rw [IntWalk.i64_in _ (by omega)]; exact rfl) | trace_state)
      refine wpPt_val rfl rfl ?_
      apply Exists.intro
      refine ⟨fun w' hS => ?_, ?_⟩
      focus (have hrl := grew_rule2 hS; simp [go_sem, ↓IntWalk.iteOmega, hrl, k1, c1, d1] <;> first | done | exact rfl | (rw [IntWalk.i64_in _ (by omega)]; exact rfl) | trace_state)
      refine wpPt_val rfl rfl ?_
      apply Exists.intro
      refine ⟨fun w' hS => ?_, ?_⟩
      focus (have hrl := grew_rule2 hS; simp [go_sem, ↓IntWalk.iteOmega, hrl, k1, c1, d1] <;> first | done | exact rfl | (rw [IntWalk.i64_in _ (by omega)]; exact rfl) | trace_state)
      refine wpPt_val rfl rfl ?_
      apply Exists.intro
      refine ⟨fun w' hS => ?_, ?_⟩
      focus (have hrl := grew_rule2 hS; simp [go_sem, ↓IntWalk.iteOmega, hrl, k1, c1, d1] <;> first | done | exact rfl | (rw [IntWalk.i64_in _ (by omega)]; exact rfl) | trace_state)
      refine wpPt_val rfl rfl ?_
      apply Exists.intro
      refine ⟨fun w' hS => ?_, ?_⟩
      focus (have hrl := grew_rule2 hS; simp [go_sem, ↓IntWalk.iteOmega, hrl, k1, c1, d1] <;> first | done | exact rfl | (rw [IntWalk.i64_in _ (by omega)]; exact rfl) | trace_state)
      refine wpPt_val rfl rfl ?_
      apply Exists.intro
      refine ⟨fun w' hS => ?_, ?_⟩
      focus (have hrl := grew_rule2 hS; simp [go_sem, ↓IntWalk.iteOmega, hrl, k1, c1, d1] <;> first | done | exact rfl | (rw [IntWalk.i64_in _ (by omega)]; exact rfl) | trace_state)
      refine wpPt_val rfl rfl ?_
      apply Exists.intro
      refine ⟨fun w' hS => ?_, ?_⟩
      focus (have hrl := grew_rule2 hS; simp [go_sem, ↓IntWalk.iteOmega, hrl, k1, c1, d1] <;> first | done | exact rfl | (rw [IntWalk.i64_in _ (by omega)]; exact rfl) | trace_state)
      refine wpPt_val rfl rfl ?_
      apply Exists.intro
      refine ⟨fun w' hS => ?_, ?_⟩
      focus (have hrl := grew_rule2 hS; simp [go_sem, ↓IntWalk.iteOmega, hrl, k1, c1, d1] <;> first | done | exact rfl | (rw [IntWalk.i64_in _ (by omega)]; exact rfl) | trace_state)
      refine wpPt_one rfl rfl (fun K hK => ?_)
      go_simp
      refine (l1Code_any o c n _ ho hcb.1 hcb.2 (by omega)).mono ?_
      rintro e w' ⟨rfl, x12, rfl⟩
      refine hK _ _ (fun hkn => (by repeat (first | exact HG.out | apply grew_plus | apply grew_drew))) ?_
      clear hK K
      refine wpPt_one rfl rfl (fun K hK => ?_)
      refine oper_append_str _ _ _ _ _ j0 rfl Tryz.underlying34 Tryz.underlying9 hj jz0 jz1 jz2 ys A ac (w.heap.size + 1) (by repeat (first | (with_reducible exact HO.out) | (with_reducible apply own_seq) | (with_reducible apply own_draw) | (with_reducible apply Own.plus) | (with_reducible apply Own.alloc) | (with_reducible apply Own.drew) | (with_reducible apply Own.drewN))) rfl _ rfl (by omega) (by simp <;> omega) ?_
      intro A7 c7 w7 hw7 hg7 hx7
      rw [D5.out] at hw7 ⊢
      have HO7 := Lib.hid hw7
      have HG7 := Lib.hid (grew_within HG.out HW.out (grew_trans (grew_plus (grew_drew (grew_refl _ _)) _) hg7))
      have HW7 := Lib.hid (HW.out.trans (hx7.within (m := w1.heap.size) (by simp <;> omega)) (Nat.le_refl _))
      clear hw7 hg7 hx7
      refine hK _ _ (fun hkn => HG7.out) ?_
      clear hK K
      refine wpPt_one rfl rfl (fun K hK => ?_)
      go_simp
      refine hK _ _ (fun hkn => absurd hkn (by decide)) ?_
      clear hK K
      refine NoPanic.normal ?_
      go_wp2
      go_roundw
      case rel => exact ⟨k + 1, ys ++ bitsL o c n, A7, c7, by simp, by go_num, by omega, by rw [HT.out, ← HY.out, Int.toNat_natCast], HO7.out, HG7.out, HW7.out⟩
      case measure => simp [intOf]; omega
    · obtain rfl : k = is.length := by omega
      have HS := Lib.hid (show bstr ys = bstr (cbits o is W1) by rw [HY.out, List.take_length, List.take_of_length_le (by rw [HQ1.out]; exact Nat.le_refl _)])
      have hcv := run_str_own (P := Tryz.prog) (W := wr) Tryz.underlying34 Tryz.underlying5 Tryz.underlying9 HO.out
      rw [HS.out] at hcv
      go_wp2
      go_ret
      exact ret_of (by simp) (below_more (HBL.out.trans (HG.out.below (by omega) (fun X hX => by cases hX; show w.heap.size ≤ w.heap.size + 1; omega))))

end Go.Proofs.YtmddcbebaijjkaaGreatDoor
