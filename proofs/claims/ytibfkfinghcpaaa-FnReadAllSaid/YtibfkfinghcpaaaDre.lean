/- Draws: l2Pick. -/
import Derived.Test.YtibfkfinghcpaaaDrd
import Derived.Test.YtibfkfinghcpaaaGf
namespace Go.Proofs.Ytibfkfinghcpaaa
open Go.RowKit
set_option linter.unusedVariables false
set_option linter.unusedSimpArgs false

/-- a draw of a code that can follow -/
def RetC (w : World) (B n : Nat) (l m : Int) (k : Nat) (last : Int) (e : Ending) (w' : World) : Prop := ∃ c : Int, e = .returned (.int .i64 c) ∧ Okc l m k last c ∧ c ≠ two l ∧ Drn w B n w'

set_option maxRecDepth 100000 in
set_option maxHeartbeats 4000000 in
theorem l2Pick_d (B n : Nat) (o l m : Int) (a : Option Addr) (cap k : Nat) (base last : Int) (w : World) (hd : Dsrc w B n) (hn : n ≤ 900000) (hlim : Lim o l m k last) (hk : k ≤ 2000) :
    Calls Try.prog 106 #[.pointer (some ⟨B, 0, none⟩), .agg #[.int .i64 o, .int .i64 l, .int .i64 m, .slice a k cap, .int .i64 base, .int .i64 last]] w (RetC w B (n + 3) l m k last) := by
  have hB := hd.B_lt
  have HD := Lib.hid hd
  have hs := hlim.s
  obtain ⟨l1, l2, m2, lm, t1, t2, t4, t3⟩ := hlim.bds
  have hla := hlim.last
  have l0 : 0 ≤ l := by omega
  have l10 : l ≤ 10 := by omega
  clear hd hlim
  go_enter Try.func106, Try.ntmps106
  go_wp2_with fail
  refine (pick_d B n _ _ (by repeat (first | (with_reducible exact HD.out) | (with_reducible apply dsrc_seq) | (with_reducible apply dsrc_draw) | (with_reducible apply Dsrc.plus) | (with_reducible apply Dsrc.alloc) | (with_reducible apply Dsrc.drew))) (by omega)).mono ?_
  rintro e w' ⟨v, rfl, hv, hdn⟩
  obtain ⟨hd1, cur1, x1, rfl⟩ := hdn
  have HD1 := Lib.hid hd1
  clear hd1
  rcases (by omega : v = 0 ∨ (v = 1 ∨ v = 2 ∨ v = 3) ∨ 3 < v) with hv0 | hv0 | hv0
  · have q0 : ((v : Int) == 0) = true := by simp; omega
    clear hv0
    cases hg : grB l m k last
    · go_wp2_with (go_at_call 119; refine (l2Grows_any o l m a k cap base last _ hs (by omega) hla).mono ?_; rintro e w' ⟨rfl, xg, rfl⟩; rw [hg])
      refine wp_region_pt 6 (fun w' => w'.heap[w.heap.size]? = some (.cells #[.int .i64 o, .int .i64 l, .int .i64 m, .slice a k cap, .int .i64 base, .int .i64 last] 27 (0, 0))) (Plan.quiet 0 (Plan.quiet 2 (Plan.quiet 3 (Plan.one 1 (Plan.one 4 (Plan.quiet 5 (Plan.one 6 Plan.done))))))) (by kernel_rfl) (by kernel_rfl) ((by repeat (first | (with_reducible exact push_new _ _ _ rfl) | (with_reducible exact push_new _ _ _ (by simp)) | (with_reducible apply blk_plus) | (with_reducible apply blk_alloc) | (with_reducible apply blk_drew) | (with_reducible refine blk_patch ?_ (by omega))))) ?_
      refine wpPt_val rfl rfl ?_
      apply Exists.intro
      refine ⟨fun w' hS => ?_, ?_⟩
      focus (have rS := cell_of hS; simp [go_sem, ↓IntWalk.iteOmega, rS] <;> first | done | exact rfl | (rw [IntWalk.i64_in _ (by omega)]; exact rfl) | trace_state)
      refine wpPt_val rfl rfl ?_
      apply Exists.intro
      refine ⟨fun w' hS => ?_, ?_⟩
      focus (have rS := cell_of hS; simp [go_sem, ↓IntWalk.iteOmega, rS] <;> first | done | exact rfl | (rw [IntWalk.i64_in _ (by omega)]; exact rfl) | trace_state)
      refine wpPt_val rfl rfl ?_
      apply Exists.intro
      refine ⟨fun w' hS => ?_, ?_⟩
      focus (have rS := cell_of hS; simp [go_sem, ↓IntWalk.iteOmega, rS] <;> first | done | exact rfl | (rw [IntWalk.i64_in _ (by omega)]; exact rfl) | trace_state)
      refine wpPt_one rfl rfl (fun K hK => ?_)
      go_simp
      refine (pick_d B (n + 1) _ _ (by repeat (first | (with_reducible exact HD1.out) | (with_reducible apply dsrc_seq) | (with_reducible apply dsrc_draw) | (with_reducible apply Dsrc.plus) | (with_reducible apply Dsrc.alloc) | (with_reducible apply Dsrc.drew))) (by omega)).mono ?_
      rintro e w' ⟨z, rfl, hz, hdn⟩
      obtain ⟨hdz, curz, xz, rfl⟩ := hdn
      have HDZ := Lib.hid hdz
      clear hdz
      refine hK _ _ (fun hkn => (by repeat (first | (with_reducible exact push_new _ _ _ rfl) | (with_reducible exact push_new _ _ _ (by simp)) | (with_reducible apply blk_plus) | (with_reducible apply blk_alloc) | (with_reducible apply blk_drew) | (with_reducible refine blk_patch ?_ (by omega))))) ?_
      clear hK K
      refine wpPt_one rfl rfl (fun K hK => ?_)
      go_simp
      refine (l1Clear_any _ _ _ l0 l10 _).mono ?_
      rintro e w' ⟨rfl, xcl, rfl⟩
      refine hK _ _ (fun hkn => (by repeat (first | (with_reducible exact push_new _ _ _ rfl) | (with_reducible exact push_new _ _ _ (by simp)) | (with_reducible apply blk_plus) | (with_reducible apply blk_alloc) | (with_reducible apply blk_drew) | (with_reducible refine blk_patch ?_ (by omega))))) ?_
      clear hK K
      refine wpPt_val rfl rfl ?_
      apply Exists.intro
      refine ⟨fun w' hS => ?_, ?_⟩
      focus (have rS := cell_of hS; simp [go_sem, ↓IntWalk.iteOmega, rS] <;> first | done | exact rfl | (rw [IntWalk.i64_in _ (by omega)]; exact rfl) | trace_state)
      refine wpPt_one rfl rfl (fun K hK => ?_)
      go_simp
      refine hK _ _ (fun hkn => absurd hkn (by decide)) ?_
      clear hK K
      refine NoPanic.normal ?_
      go_wp2_with fail
      go_ret
      exact ⟨(z : Int) % two l, rfl, .inl (hw_iff.2 (.inl ⟨Int.emod_nonneg (z : Int) (show two l ≠ 0 by omega), Int.emod_lt_of_pos (z : Int) (show 0 < two l by omega)⟩)), (fun e => by have := Int.emod_lt_of_pos (z : Int) (show 0 < two l by omega); omega), drn_of (Dsrc.mono (by repeat (first | (with_reducible exact HDZ.out) | (with_reducible apply dsrc_seq) | (with_reducible apply dsrc_draw) | (with_reducible apply Dsrc.plus) | (with_reducible apply Dsrc.alloc) | (with_reducible apply Dsrc.drew))) (by omega)) (by repeat (first | (with_reducible exact grew_refl _ _) | (with_reducible apply grew_plus) | (with_reducible apply grew_alloc) | (with_reducible apply grew_drew) | (with_reducible apply grew_pat))) hB⟩
    · go_wp2_with (first | (go_at_call 119; refine (l2Grows_any o l m a k cap base last _ hs (by omega) hla).mono ?_; rintro e w' ⟨rfl, xg, rfl⟩; rw [hg]) | (go_at_call 111; refine (l2Next_any o l m a k cap base last _ hs (by omega)).mono ?_; rintro e w' ⟨rfl, xc, rfl⟩))
      go_ret
      exact ⟨_, rfl, .inr ⟨hg, rfl⟩, by unfold nw; omega, drn_of (Dsrc.mono (by repeat (first | (with_reducible exact HD1.out) | (with_reducible apply dsrc_seq) | (with_reducible apply dsrc_draw) | (with_reducible apply Dsrc.plus) | (with_reducible apply Dsrc.alloc) | (with_reducible apply Dsrc.drew))) (by omega)) (by repeat (first | (with_reducible exact grew_refl _ _) | (with_reducible apply grew_plus) | (with_reducible apply grew_alloc) | (with_reducible apply grew_drew) | (with_reducible apply grew_pat))) hB⟩
  · rcases hv0 with hv0 | hv0 | hv0
    · have q0 : ((v : Int) == 0) = false := by simp; omega
      have q1 : ((v : Int) == 1) = true := by simp; omega
      clear hv0
      rcases dec ((0 : Int) < k) with ⟨hk0, vk⟩ | ⟨hk0, vk⟩
      · go_wp2_with (go_at_call 67; refine (l1End_any _ _ _ l0 l10 _).mono ?_; rintro e w' ⟨rfl, xc, rfl⟩)
        refine (pick_d B (n + 1) _ _ (by repeat (first | (with_reducible exact HD1.out) | (with_reducible apply dsrc_seq) | (with_reducible apply dsrc_draw) | (with_reducible apply Dsrc.plus) | (with_reducible apply Dsrc.alloc) | (with_reducible apply Dsrc.drew))) (by omega)).mono ?_
        rintro e w' ⟨z1, rfl, hz1, hdn⟩
        obtain ⟨hd2, cur2, x2, rfl⟩ := hdn
        have HD2 := Lib.hid hd2
        clear hd2
        go_wp2_with fail
        refine (pick_d B (n + 2) _ _ (by repeat (first | (with_reducible exact HD2.out) | (with_reducible apply dsrc_seq) | (with_reducible apply dsrc_draw) | (with_reducible apply Dsrc.plus) | (with_reducible apply Dsrc.alloc) | (with_reducible apply Dsrc.drew))) (by omega)).mono ?_
        rintro e w' ⟨z2, rfl, hz2, hdn⟩
        obtain ⟨hd3, cur3, x3, rfl⟩ := hdn
        have HD3 := Lib.hid hd3
        clear hd3
        have e1 := Int.emod_nonneg ((z1 : Int) * 256 + z2) (show (k : Int) ≠ 0 by omega)
        have e2 := Int.emod_lt_of_pos ((z1 : Int) * 256 + z2) hk0
        go_wp2_with fail
        go_ret
        exact ⟨two l + 1 + 1 + ((z1 : Int) * 256 + z2) % k, by first | rfl | exact congrArg (fun z => Ending.returned (.int .i64 z)) (by omega), .inl (hw_iff.2 (.inr (by omega))), by omega, drn_of (Dsrc.mono (by repeat (first | (with_reducible exact HD3.out) | (with_reducible apply dsrc_seq) | (with_reducible apply dsrc_draw) | (with_reducible apply Dsrc.plus) | (with_reducible apply Dsrc.alloc) | (with_reducible apply Dsrc.drew))) (by omega)) (by repeat (first | (with_reducible exact grew_refl _ _) | (with_reducible apply grew_plus) | (with_reducible apply grew_alloc) | (with_reducible apply grew_drew) | (with_reducible apply grew_pat))) hB⟩
      · go_wp2_with fail
        refine wp_region_pt 6 (fun w' => w'.heap[w.heap.size]? = some (.cells #[.int .i64 o, .int .i64 l, .int .i64 m, .slice a k cap, .int .i64 base, .int .i64 last] 27 (0, 0))) (Plan.quiet 0 (Plan.quiet 2 (Plan.quiet 3 (Plan.one 1 (Plan.one 4 (Plan.quiet 5 (Plan.one 6 Plan.done))))))) (by kernel_rfl) (by kernel_rfl) ((by repeat (first | (with_reducible exact push_new _ _ _ rfl) | (with_reducible exact push_new _ _ _ (by simp)) | (with_reducible apply blk_plus) | (with_reducible apply blk_alloc) | (with_reducible apply blk_drew) | (with_reducible refine blk_patch ?_ (by omega))))) ?_
        refine wpPt_val rfl rfl ?_
        apply Exists.intro
        refine ⟨fun w' hS => ?_, ?_⟩
        focus (have rS := cell_of hS; simp [go_sem, ↓IntWalk.iteOmega, rS] <;> first | done | exact rfl | (rw [IntWalk.i64_in _ (by omega)]; exact rfl) | trace_state)
        refine wpPt_val rfl rfl ?_
        apply Exists.intro
        refine ⟨fun w' hS => ?_, ?_⟩
        focus (have rS := cell_of hS; simp [go_sem, ↓IntWalk.iteOmega, rS] <;> first | done | exact rfl | (rw [IntWalk.i64_in _ (by omega)]; exact rfl) | trace_state)
        refine wpPt_val rfl rfl ?_
        apply Exists.intro
        refine ⟨fun w' hS => ?_, ?_⟩
        focus (have rS := cell_of hS; simp [go_sem, ↓IntWalk.iteOmega, rS] <;> first | done | exact rfl | (rw [IntWalk.i64_in _ (by omega)]; exact rfl) | trace_state)
        refine wpPt_one rfl rfl (fun K hK => ?_)
        go_simp
        refine (pick_d B (n + 1) _ _ (by repeat (first | (with_reducible exact HD1.out) | (with_reducible apply dsrc_seq) | (with_reducible apply dsrc_draw) | (with_reducible apply Dsrc.plus) | (with_reducible apply Dsrc.alloc) | (with_reducible apply Dsrc.drew))) (by omega)).mono ?_
        rintro e w' ⟨z, rfl, hz, hdn⟩
        obtain ⟨hdz, curz, xz, rfl⟩ := hdn
        have HDZ := Lib.hid hdz
        clear hdz
        refine hK _ _ (fun hkn => (by repeat (first | (with_reducible exact push_new _ _ _ rfl) | (with_reducible exact push_new _ _ _ (by simp)) | (with_reducible apply blk_plus) | (with_reducible apply blk_alloc) | (with_reducible apply blk_drew) | (with_reducible refine blk_patch ?_ (by omega))))) ?_
        clear hK K
        refine wpPt_one rfl rfl (fun K hK => ?_)
        go_simp
        refine (l1Clear_any _ _ _ l0 l10 _).mono ?_
        rintro e w' ⟨rfl, xcl, rfl⟩
        refine hK _ _ (fun hkn => (by repeat (first | (with_reducible exact push_new _ _ _ rfl) | (with_reducible exact push_new _ _ _ (by simp)) | (with_reducible apply blk_plus) | (with_reducible apply blk_alloc) | (with_reducible apply blk_drew) | (with_reducible refine blk_patch ?_ (by omega))))) ?_
        clear hK K
        refine wpPt_val rfl rfl ?_
        apply Exists.intro
        refine ⟨fun w' hS => ?_, ?_⟩
        focus (have rS := cell_of hS; simp [go_sem, ↓IntWalk.iteOmega, rS] <;> first | done | exact rfl | (rw [IntWalk.i64_in _ (by omega)]; exact rfl) | trace_state)
        refine wpPt_one rfl rfl (fun K hK => ?_)
        go_simp
        refine hK _ _ (fun hkn => absurd hkn (by decide)) ?_
        clear hK K
        refine NoPanic.normal ?_
        go_wp2_with fail
        go_ret
        exact ⟨(z : Int) % two l, rfl, .inl (hw_iff.2 (.inl ⟨Int.emod_nonneg (z : Int) (show two l ≠ 0 by omega), Int.emod_lt_of_pos (z : Int) (show 0 < two l by omega)⟩)), (fun e => by have := Int.emod_lt_of_pos (z : Int) (show 0 < two l by omega); omega), drn_of (Dsrc.mono (by repeat (first | (with_reducible exact HDZ.out) | (with_reducible apply dsrc_seq) | (with_reducible apply dsrc_draw) | (with_reducible apply Dsrc.plus) | (with_reducible apply Dsrc.alloc) | (with_reducible apply Dsrc.drew))) (by omega)) (by repeat (first | (with_reducible exact grew_refl _ _) | (with_reducible apply grew_plus) | (with_reducible apply grew_alloc) | (with_reducible apply grew_drew) | (with_reducible apply grew_pat))) hB⟩
    · have q0 : ((v : Int) == 0) = false := by simp; omega
      have q1 : ((v : Int) == 1) = false := by simp; omega
      have q2 : ((v : Int) == 2) = true := by simp; omega
      clear hv0
      rcases dec ((0 : Int) < k) with ⟨hk0, vk⟩ | ⟨hk0, vk⟩
      · go_wp2_with (go_at_call 67; refine (l1End_any _ _ _ l0 l10 _).mono ?_; rintro e w' ⟨rfl, xc, rfl⟩)
        refine (pick_d B (n + 1) _ _ (by repeat (first | (with_reducible exact HD1.out) | (with_reducible apply dsrc_seq) | (with_reducible apply dsrc_draw) | (with_reducible apply Dsrc.plus) | (with_reducible apply Dsrc.alloc) | (with_reducible apply Dsrc.drew))) (by omega)).mono ?_
        rintro e w' ⟨z1, rfl, hz1, hdn⟩
        obtain ⟨hd2, cur2, x2, rfl⟩ := hdn
        have HD2 := Lib.hid hd2
        clear hd2
        go_wp2_with fail
        refine (pick_d B (n + 2) _ _ (by repeat (first | (with_reducible exact HD2.out) | (with_reducible apply dsrc_seq) | (with_reducible apply dsrc_draw) | (with_reducible apply Dsrc.plus) | (with_reducible apply Dsrc.alloc) | (with_reducible apply Dsrc.drew))) (by omega)).mono ?_
        rintro e w' ⟨z2, rfl, hz2, hdn⟩
        obtain ⟨hd3, cur3, x3, rfl⟩ := hdn
        have HD3 := Lib.hid hd3
        clear hd3
        have e1 := Int.emod_nonneg ((z1 : Int) * 256 + z2) (show (k : Int) ≠ 0 by omega)
        have e2 := Int.emod_lt_of_pos ((z1 : Int) * 256 + z2) hk0
        go_wp2_with fail
        go_ret
        exact ⟨two l + 1 + 1 + ((z1 : Int) * 256 + z2) % k, by first | rfl | exact congrArg (fun z => Ending.returned (.int .i64 z)) (by omega), .inl (hw_iff.2 (.inr (by omega))), by omega, drn_of (Dsrc.mono (by repeat (first | (with_reducible exact HD3.out) | (with_reducible apply dsrc_seq) | (with_reducible apply dsrc_draw) | (with_reducible apply Dsrc.plus) | (with_reducible apply Dsrc.alloc) | (with_reducible apply Dsrc.drew))) (by omega)) (by repeat (first | (with_reducible exact grew_refl _ _) | (with_reducible apply grew_plus) | (with_reducible apply grew_alloc) | (with_reducible apply grew_drew) | (with_reducible apply grew_pat))) hB⟩
      · go_wp2_with fail
        refine wp_region_pt 6 (fun w' => w'.heap[w.heap.size]? = some (.cells #[.int .i64 o, .int .i64 l, .int .i64 m, .slice a k cap, .int .i64 base, .int .i64 last] 27 (0, 0))) (Plan.quiet 0 (Plan.quiet 2 (Plan.quiet 3 (Plan.one 1 (Plan.one 4 (Plan.quiet 5 (Plan.one 6 Plan.done))))))) (by kernel_rfl) (by kernel_rfl) ((by repeat (first | (with_reducible exact push_new _ _ _ rfl) | (with_reducible exact push_new _ _ _ (by simp)) | (with_reducible apply blk_plus) | (with_reducible apply blk_alloc) | (with_reducible apply blk_drew) | (with_reducible refine blk_patch ?_ (by omega))))) ?_
        refine wpPt_val rfl rfl ?_
        apply Exists.intro
        refine ⟨fun w' hS => ?_, ?_⟩
        focus (have rS := cell_of hS; simp [go_sem, ↓IntWalk.iteOmega, rS] <;> first | done | exact rfl | (rw [IntWalk.i64_in _ (by omega)]; exact rfl) | trace_state)
        refine wpPt_val rfl rfl ?_
        apply Exists.intro
        refine ⟨fun w' hS => ?_, ?_⟩
        focus (have rS := cell_of hS; simp [go_sem, ↓IntWalk.iteOmega, rS] <;> first | done | exact rfl | (rw [IntWalk.i64_in _ (by omega)]; exact rfl) | trace_state)
        refine wpPt_val rfl rfl ?_
        apply Exists.intro
        refine ⟨fun w' hS => ?_, ?_⟩
        focus (have rS := cell_of hS; simp [go_sem, ↓IntWalk.iteOmega, rS] <;> first | done | exact rfl | (rw [IntWalk.i64_in _ (by omega)]; exact rfl) | trace_state)
        refine wpPt_one rfl rfl (fun K hK => ?_)
        go_simp
        refine (pick_d B (n + 1) _ _ (by repeat (first | (with_reducible exact HD1.out) | (with_reducible apply dsrc_seq) | (with_reducible apply dsrc_draw) | (with_reducible apply Dsrc.plus) | (with_reducible apply Dsrc.alloc) | (with_reducible apply Dsrc.drew))) (by omega)).mono ?_
        rintro e w' ⟨z, rfl, hz, hdn⟩
        obtain ⟨hdz, curz, xz, rfl⟩ := hdn
        have HDZ := Lib.hid hdz
        clear hdz
        refine hK _ _ (fun hkn => (by repeat (first | (with_reducible exact push_new _ _ _ rfl) | (with_reducible exact push_new _ _ _ (by simp)) | (with_reducible apply blk_plus) | (with_reducible apply blk_alloc) | (with_reducible apply blk_drew) | (with_reducible refine blk_patch ?_ (by omega))))) ?_
        clear hK K
        refine wpPt_one rfl rfl (fun K hK => ?_)
        go_simp
        refine (l1Clear_any _ _ _ l0 l10 _).mono ?_
        rintro e w' ⟨rfl, xcl, rfl⟩
        refine hK _ _ (fun hkn => (by repeat (first | (with_reducible exact push_new _ _ _ rfl) | (with_reducible exact push_new _ _ _ (by simp)) | (with_reducible apply blk_plus) | (with_reducible apply blk_alloc) | (with_reducible apply blk_drew) | (with_reducible refine blk_patch ?_ (by omega))))) ?_
        clear hK K
        refine wpPt_val rfl rfl ?_
        apply Exists.intro
        refine ⟨fun w' hS => ?_, ?_⟩
        focus (have rS := cell_of hS; simp [go_sem, ↓IntWalk.iteOmega, rS] <;> first | done | exact rfl | (rw [IntWalk.i64_in _ (by omega)]; exact rfl) | trace_state)
        refine wpPt_one rfl rfl (fun K hK => ?_)
        go_simp
        refine hK _ _ (fun hkn => absurd hkn (by decide)) ?_
        clear hK K
        refine NoPanic.normal ?_
        go_wp2_with fail
        go_ret
        exact ⟨(z : Int) % two l, rfl, .inl (hw_iff.2 (.inl ⟨Int.emod_nonneg (z : Int) (show two l ≠ 0 by omega), Int.emod_lt_of_pos (z : Int) (show 0 < two l by omega)⟩)), (fun e => by have := Int.emod_lt_of_pos (z : Int) (show 0 < two l by omega); omega), drn_of (Dsrc.mono (by repeat (first | (with_reducible exact HDZ.out) | (with_reducible apply dsrc_seq) | (with_reducible apply dsrc_draw) | (with_reducible apply Dsrc.plus) | (with_reducible apply Dsrc.alloc) | (with_reducible apply Dsrc.drew))) (by omega)) (by repeat (first | (with_reducible exact grew_refl _ _) | (with_reducible apply grew_plus) | (with_reducible apply grew_alloc) | (with_reducible apply grew_drew) | (with_reducible apply grew_pat))) hB⟩
    · have q0 : ((v : Int) == 0) = false := by simp; omega
      have q1 : ((v : Int) == 1) = false := by simp; omega
      have q2 : ((v : Int) == 2) = false := by simp; omega
      have q3 : ((v : Int) == 3) = true := by simp; omega
      clear hv0
      rcases dec ((0 : Int) < k) with ⟨hk0, vk⟩ | ⟨hk0, vk⟩
      · go_wp2_with (go_at_call 67; refine (l1End_any _ _ _ l0 l10 _).mono ?_; rintro e w' ⟨rfl, xc, rfl⟩)
        refine (pick_d B (n + 1) _ _ (by repeat (first | (with_reducible exact HD1.out) | (with_reducible apply dsrc_seq) | (with_reducible apply dsrc_draw) | (with_reducible apply Dsrc.plus) | (with_reducible apply Dsrc.alloc) | (with_reducible apply Dsrc.drew))) (by omega)).mono ?_
        rintro e w' ⟨z1, rfl, hz1, hdn⟩
        obtain ⟨hd2, cur2, x2, rfl⟩ := hdn
        have HD2 := Lib.hid hd2
        clear hd2
        go_wp2_with fail
        refine (pick_d B (n + 2) _ _ (by repeat (first | (with_reducible exact HD2.out) | (with_reducible apply dsrc_seq) | (with_reducible apply dsrc_draw) | (with_reducible apply Dsrc.plus) | (with_reducible apply Dsrc.alloc) | (with_reducible apply Dsrc.drew))) (by omega)).mono ?_
        rintro e w' ⟨z2, rfl, hz2, hdn⟩
        obtain ⟨hd3, cur3, x3, rfl⟩ := hdn
        have HD3 := Lib.hid hd3
        clear hd3
        have e1 := Int.emod_nonneg ((z1 : Int) * 256 + z2) (show (k : Int) ≠ 0 by omega)
        have e2 := Int.emod_lt_of_pos ((z1 : Int) * 256 + z2) hk0
        go_wp2_with fail
        go_ret
        exact ⟨two l + 1 + 1 + ((z1 : Int) * 256 + z2) % k, by first | rfl | exact congrArg (fun z => Ending.returned (.int .i64 z)) (by omega), .inl (hw_iff.2 (.inr (by omega))), by omega, drn_of (Dsrc.mono (by repeat (first | (with_reducible exact HD3.out) | (with_reducible apply dsrc_seq) | (with_reducible apply dsrc_draw) | (with_reducible apply Dsrc.plus) | (with_reducible apply Dsrc.alloc) | (with_reducible apply Dsrc.drew))) (by omega)) (by repeat (first | (with_reducible exact grew_refl _ _) | (with_reducible apply grew_plus) | (with_reducible apply grew_alloc) | (with_reducible apply grew_drew) | (with_reducible apply grew_pat))) hB⟩
      · go_wp2_with fail
        refine wp_region_pt 6 (fun w' => w'.heap[w.heap.size]? = some (.cells #[.int .i64 o, .int .i64 l, .int .i64 m, .slice a k cap, .int .i64 base, .int .i64 last] 27 (0, 0))) (Plan.quiet 0 (Plan.quiet 2 (Plan.quiet 3 (Plan.one 1 (Plan.one 4 (Plan.quiet 5 (Plan.one 6 Plan.done))))))) (by kernel_rfl) (by kernel_rfl) ((by repeat (first | (with_reducible exact push_new _ _ _ rfl) | (with_reducible exact push_new _ _ _ (by simp)) | (with_reducible apply blk_plus) | (with_reducible apply blk_alloc) | (with_reducible apply blk_drew) | (with_reducible refine blk_patch ?_ (by omega))))) ?_
        refine wpPt_val rfl rfl ?_
        apply Exists.intro
        refine ⟨fun w' hS => ?_, ?_⟩
        focus (have rS := cell_of hS; simp [go_sem, ↓IntWalk.iteOmega, rS] <;> first | done | exact rfl | (rw [IntWalk.i64_in _ (by omega)]; exact rfl) | trace_state)
        refine wpPt_val rfl rfl ?_
        apply Exists.intro
        refine ⟨fun w' hS => ?_, ?_⟩
        focus (have rS := cell_of hS; simp [go_sem, ↓IntWalk.iteOmega, rS] <;> first | done | exact rfl | (rw [IntWalk.i64_in _ (by omega)]; exact rfl) | trace_state)
        refine wpPt_val rfl rfl ?_
        apply Exists.intro
        refine ⟨fun w' hS => ?_, ?_⟩
        focus (have rS := cell_of hS; simp [go_sem, ↓IntWalk.iteOmega, rS] <;> first | done | exact rfl | (rw [IntWalk.i64_in _ (by omega)]; exact rfl) | trace_state)
        refine wpPt_one rfl rfl (fun K hK => ?_)
        go_simp
        refine (pick_d B (n + 1) _ _ (by repeat (first | (with_reducible exact HD1.out) | (with_reducible apply dsrc_seq) | (with_reducible apply dsrc_draw) | (with_reducible apply Dsrc.plus) | (with_reducible apply Dsrc.alloc) | (with_reducible apply Dsrc.drew))) (by omega)).mono ?_
        rintro e w' ⟨z, rfl, hz, hdn⟩
        obtain ⟨hdz, curz, xz, rfl⟩ := hdn
        have HDZ := Lib.hid hdz
        clear hdz
        refine hK _ _ (fun hkn => (by repeat (first | (with_reducible exact push_new _ _ _ rfl) | (with_reducible exact push_new _ _ _ (by simp)) | (with_reducible apply blk_plus) | (with_reducible apply blk_alloc) | (with_reducible apply blk_drew) | (with_reducible refine blk_patch ?_ (by omega))))) ?_
        clear hK K
        refine wpPt_one rfl rfl (fun K hK => ?_)
        go_simp
        refine (l1Clear_any _ _ _ l0 l10 _).mono ?_
        rintro e w' ⟨rfl, xcl, rfl⟩
        refine hK _ _ (fun hkn => (by repeat (first | (with_reducible exact push_new _ _ _ rfl) | (with_reducible exact push_new _ _ _ (by simp)) | (with_reducible apply blk_plus) | (with_reducible apply blk_alloc) | (with_reducible apply blk_drew) | (with_reducible refine blk_patch ?_ (by omega))))) ?_
        clear hK K
        refine wpPt_val rfl rfl ?_
        apply Exists.intro
        refine ⟨fun w' hS => ?_, ?_⟩
        focus (have rS := cell_of hS; simp [go_sem, ↓IntWalk.iteOmega, rS] <;> first | done | exact rfl | (rw [IntWalk.i64_in _ (by omega)]; exact rfl) | trace_state)
        refine wpPt_one rfl rfl (fun K hK => ?_)
        go_simp
        refine hK _ _ (fun hkn => absurd hkn (by decide)) ?_
        clear hK K
        refine NoPanic.normal ?_
        go_wp2_with fail
        go_ret
        exact ⟨(z : Int) % two l, rfl, .inl (hw_iff.2 (.inl ⟨Int.emod_nonneg (z : Int) (show two l ≠ 0 by omega), Int.emod_lt_of_pos (z : Int) (show 0 < two l by omega)⟩)), (fun e => by have := Int.emod_lt_of_pos (z : Int) (show 0 < two l by omega); omega), drn_of (Dsrc.mono (by repeat (first | (with_reducible exact HDZ.out) | (with_reducible apply dsrc_seq) | (with_reducible apply dsrc_draw) | (with_reducible apply Dsrc.plus) | (with_reducible apply Dsrc.alloc) | (with_reducible apply Dsrc.drew))) (by omega)) (by repeat (first | (with_reducible exact grew_refl _ _) | (with_reducible apply grew_plus) | (with_reducible apply grew_alloc) | (with_reducible apply grew_drew) | (with_reducible apply grew_pat))) hB⟩
  · have q0 : ((v : Int) == 0) = false := by simp; omega
    have q1 : ((v : Int) == 1) = false := by simp; omega
    have q2 : ((v : Int) == 2) = false := by simp; omega
    have q3 : ((v : Int) == 3) = false := by simp; omega
    clear hv0
    go_wp2_with fail
    refine wp_region_pt 6 (fun w' => w'.heap[w.heap.size]? = some (.cells #[.int .i64 o, .int .i64 l, .int .i64 m, .slice a k cap, .int .i64 base, .int .i64 last] 27 (0, 0))) (Plan.quiet 0 (Plan.quiet 2 (Plan.quiet 3 (Plan.one 1 (Plan.one 4 (Plan.quiet 5 (Plan.one 6 Plan.done))))))) (by kernel_rfl) (by kernel_rfl) ((by repeat (first | (with_reducible exact push_new _ _ _ rfl) | (with_reducible exact push_new _ _ _ (by simp)) | (with_reducible apply blk_plus) | (with_reducible apply blk_alloc) | (with_reducible apply blk_drew) | (with_reducible refine blk_patch ?_ (by omega))))) ?_
    refine wpPt_val rfl rfl ?_
    apply Exists.intro
    refine ⟨fun w' hS => ?_, ?_⟩
    focus (have rS := cell_of hS; simp [go_sem, ↓IntWalk.iteOmega, rS] <;> first | done | exact rfl | (rw [IntWalk.i64_in _ (by omega)]; exact rfl) | trace_state)
    refine wpPt_val rfl rfl ?_
    apply Exists.intro
    refine ⟨fun w' hS => ?_, ?_⟩
    focus (have rS := cell_of hS; simp [go_sem, ↓IntWalk.iteOmega, rS] <;> first | done | exact rfl | (rw [IntWalk.i64_in _ (by omega)]; exact rfl) | trace_state)
    refine wpPt_val rfl rfl ?_
    apply Exists.intro
    refine ⟨fun w' hS => ?_, ?_⟩
    focus (have rS := cell_of hS; simp [go_sem, ↓IntWalk.iteOmega, rS] <;> first | done | exact rfl | (rw [IntWalk.i64_in _ (by omega)]; exact rfl) | trace_state)
    refine wpPt_one rfl rfl (fun K hK => ?_)
    go_simp
    refine (pick_d B (n + 1) _ _ (by repeat (first | (with_reducible exact HD1.out) | (with_reducible apply dsrc_seq) | (with_reducible apply dsrc_draw) | (with_reducible apply Dsrc.plus) | (with_reducible apply Dsrc.alloc) | (with_reducible apply Dsrc.drew))) (by omega)).mono ?_
    rintro e w' ⟨z, rfl, hz, hdn⟩
    obtain ⟨hdz, curz, xz, rfl⟩ := hdn
    have HDZ := Lib.hid hdz
    clear hdz
    refine hK _ _ (fun hkn => (by repeat (first | (with_reducible exact push_new _ _ _ rfl) | (with_reducible exact push_new _ _ _ (by simp)) | (with_reducible apply blk_plus) | (with_reducible apply blk_alloc) | (with_reducible apply blk_drew) | (with_reducible refine blk_patch ?_ (by omega))))) ?_
    clear hK K
    refine wpPt_one rfl rfl (fun K hK => ?_)
    go_simp
    refine (l1Clear_any _ _ _ l0 l10 _).mono ?_
    rintro e w' ⟨rfl, xcl, rfl⟩
    refine hK _ _ (fun hkn => (by repeat (first | (with_reducible exact push_new _ _ _ rfl) | (with_reducible exact push_new _ _ _ (by simp)) | (with_reducible apply blk_plus) | (with_reducible apply blk_alloc) | (with_reducible apply blk_drew) | (with_reducible refine blk_patch ?_ (by omega))))) ?_
    clear hK K
    refine wpPt_val rfl rfl ?_
    apply Exists.intro
    refine ⟨fun w' hS => ?_, ?_⟩
    focus (have rS := cell_of hS; simp [go_sem, ↓IntWalk.iteOmega, rS] <;> first | done | exact rfl | (rw [IntWalk.i64_in _ (by omega)]; exact rfl) | trace_state)
    refine wpPt_one rfl rfl (fun K hK => ?_)
    go_simp
    refine hK _ _ (fun hkn => absurd hkn (by decide)) ?_
    clear hK K
    refine NoPanic.normal ?_
    go_wp2_with fail
    go_ret
    exact ⟨(z : Int) % two l, rfl, .inl (hw_iff.2 (.inl ⟨Int.emod_nonneg (z : Int) (show two l ≠ 0 by omega), Int.emod_lt_of_pos (z : Int) (show 0 < two l by omega)⟩)), (fun e => by have := Int.emod_lt_of_pos (z : Int) (show 0 < two l by omega); omega), drn_of (Dsrc.mono (by repeat (first | (with_reducible exact HDZ.out) | (with_reducible apply dsrc_seq) | (with_reducible apply dsrc_draw) | (with_reducible apply Dsrc.plus) | (with_reducible apply Dsrc.alloc) | (with_reducible apply Dsrc.drew))) (by omega)) (by repeat (first | (with_reducible exact grew_refl _ _) | (with_reducible apply grew_plus) | (with_reducible apply grew_alloc) | (with_reducible apply grew_drew) | (with_reducible apply grew_pat))) hB⟩

end Go.Proofs.Ytibfkfinghcpaaa
