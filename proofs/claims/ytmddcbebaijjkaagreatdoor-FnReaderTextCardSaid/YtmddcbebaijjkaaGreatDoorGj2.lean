/- Lemmas and walks, part Gj2. -/
import Derived.Test.YtmddcbebaijjkaaGreatDoorGj
import Derived.Test.YtmddcbebaijjkaaGreatDoorGf
import Derived.Test.YtmddcbebaijjkaaGreatDoorGb2

/- Draws: l2Pick. -/
namespace Go.Proofs.YtmddcbebaijjkaaGreatDoor
open Go.RowKit
set_option linter.unusedVariables false
set_option linter.unusedSimpArgs false

/-- a draw of a code that can follow -/
def RetC (w : World) (B n : Nat) (l m : Int) (k : Nat) (last : Int) (e : Ending) (w' : World) : Prop := ∃ c : Int, e = .returned (.int .i64 c) ∧ Okc l m k last c ∧ c ≠ two l ∧ Drn w B n w'



set_option maxRecDepth 100000 in
set_option maxHeartbeats 4000000 in
theorem l2Pick_d (B n : Nat) (o l m : Int) (a : Option Addr) (cap k : Nat) (base last : Int) (w : World) (hd : Dsrc w B n) (hn : n ≤ 900000) (hlim : Lim o l m k last) (hk : k ≤ 2000) :
    Calls Tryz.prog 113 #[.pointer (some ⟨B, 0, none⟩), .agg #[.int .i64 o, .int .i64 l, .int .i64 m, .slice a k cap, .int .i64 base, .int .i64 last]] w (RetC w B (n + 3) l m k last) := by
  have hB := hd.B_lt
  have HD := Lib.hid hd
  have hs := hlim.s
  obtain ⟨l1, l2, m2, lm, t1, t2, t4, t3⟩ := hlim.bds
  have hla := hlim.last
  have l0 : 0 ≤ l := by omega
  have l10 : l ≤ 10 := by omega
  clear hd hlim
  go_enter Tryz.func113, Tryz.ntmps113
  go_wp2_with fail
  refine (pick_d B n _ _ (by repeat (first | (with_reducible exact HD.out) | (with_reducible apply dsrc_seq) | (with_reducible apply dsrc_draw) | (with_reducible apply Dsrc.plus) | (with_reducible apply Dsrc.alloc) | (with_reducible apply Dsrc.drew))) (by omega)).mono ?_
  rintro e w' ⟨v, rfl, hv, hdn⟩
  obtain ⟨hd1, cur1, x1, rfl⟩ := hdn
  have HD1 := Lib.hid hd1
  clear hd1
  rcases (by omega : v = 0 ∨ (v = 1 ∨ v = 2 ∨ v = 3) ∨ 3 < v) with hv0 | hv0 | hv0
  · have q0 : ((v : Int) == 0) = true := by simp; omega
    clear hv0
    cases hg : grB l m k last
    · go_wp2_with (go_at_call 143; refine (l2Grows_any o l m a k cap base last _ hs (by omega) hla).mono ?_; rintro e w' ⟨rfl, xg, rfl⟩; rw [hg])
      refine wp_region_pt 6 (fun w' => w'.heap[w.heap.size]? = some (.cells #[.int .i64 o, .int .i64 l, .int .i64 m, .slice a k cap, .int .i64 base, .int .i64 last] 26 (0, 0))) (Plan.quiet 0 (Plan.quiet 2 (Plan.quiet 3 (Plan.one 1 (Plan.one 4 (Plan.quiet 5 (Plan.one 6 Plan.done))))))) (by kernel_rfl) (by kernel_rfl) ((by repeat (first | (with_reducible exact push_new _ _ _ rfl) | (with_reducible exact push_new _ _ _ (by simp)) | (with_reducible apply blk_plus) | (with_reducible apply blk_alloc) | (with_reducible apply blk_drew) | (with_reducible refine blk_patch ?_ (by omega))))) ?_
      refine wpPt_val rfl rfl ?_
      apply Exists.intro
      refine ⟨fun w' hS => ?_, ?_⟩
      focus (have rS := cell_of hS; simp [go_sem, ↓IntWalk.iteOmega, rS] <;> first | done | exact rfl | (rw [IntWalk.i64_in _ (by omega)]; exact rfl) | trace_state)
      refine wpPt_val rfl rfl ?_
      apply Exists.intro
      refine ⟨fun w' hS => ?_, ?_⟩
      focus (have rS := cell_of hS; simp [go_sem, ↓IntWalk.iteOmega, rS] <;> first | done | exact rfl | (rw [IntWalk.i64_in _ (by omega)]; exact rfl) | trace_state)
      refine wpPt_val rfl rfl ?_
      apply Exists.intro
      refine ⟨fun w' hS => ?_, ?_⟩
      focus (have rS := cell_of hS; simp [go_sem, ↓IntWalk.iteOmega, rS] <;> first | done | exact rfl | (rw [IntWalk.i64_in _ (by omega)]; exact rfl) | trace_state)
      refine wpPt_one rfl rfl (fun K hK => ?_)
      go_simp
      refine (pick_d B (n + 1) _ _ (by repeat (first | (with_reducible exact HD1.out) | (with_reducible apply dsrc_seq) | (with_reducible apply dsrc_draw) | (with_reducible apply Dsrc.plus) | (with_reducible apply Dsrc.alloc) | (with_reducible apply Dsrc.drew))) (by omega)).mono ?_
      rintro e w' ⟨z, rfl, hz, hdn⟩
      obtain ⟨hdz, curz, xz, rfl⟩ := hdn
      have HDZ := Lib.hid hdz
      clear hdz
      refine hK _ _ (fun hkn => (by repeat (first | (with_reducible exact push_new _ _ _ rfl) | (with_reducible exact push_new _ _ _ (by simp)) | (with_reducible apply blk_plus) | (with_reducible apply blk_alloc) | (with_reducible apply blk_drew) | (with_reducible refine blk_patch ?_ (by omega))))) ?_
      clear hK K
      refine wpPt_one rfl rfl (fun K hK => ?_)
      go_simp
      refine (l1Clear_any _ _ _ l0 l10 _).mono ?_
      rintro e w' ⟨rfl, xcl, rfl⟩
      refine hK _ _ (fun hkn => (by repeat (first | (with_reducible exact push_new _ _ _ rfl) | (with_reducible exact push_new _ _ _ (by simp)) | (with_reducible apply blk_plus) | (with_reducible apply blk_alloc) | (with_reducible apply blk_drew) | (with_reducible refine blk_patch ?_ (by omega))))) ?_
      clear hK K
      refine wpPt_val rfl rfl ?_
      apply Exists.intro
      refine ⟨fun w' hS => ?_, ?_⟩
      focus (have rS := cell_of hS; simp [go_sem, ↓IntWalk.iteOmega, rS] <;> first | done | exact rfl | (rw [IntWalk.i64_in _ (by omega)]; exact rfl) | trace_state)
      refine wpPt_one rfl rfl (fun K hK => ?_)
      go_simp
      refine hK _ _ (fun hkn => absurd hkn (by decide)) ?_
      clear hK K
      refine NoPanic.normal ?_
      go_wp2_with fail
      go_ret
      exact ⟨(z : Int) % two l, rfl, .inl (hw_iff.2 (.inl ⟨Int.emod_nonneg (z : Int) (show two l ≠ 0 by omega), Int.emod_lt_of_pos (z : Int) (show 0 < two l by omega)⟩)), (fun e => by have := Int.emod_lt_of_pos (z : Int) (show 0 < two l by omega); omega), drn_of (Dsrc.mono (by repeat (first | (with_reducible exact HDZ.out) | (with_reducible apply dsrc_seq) | (with_reducible apply dsrc_draw) | (with_reducible apply Dsrc.plus) | (with_reducible apply Dsrc.alloc) | (with_reducible apply Dsrc.drew))) (by omega)) (by repeat (first | (with_reducible exact grew_refl _ _) | (with_reducible apply grew_plus) | (with_reducible apply grew_alloc) | (with_reducible apply grew_drew) | (with_reducible apply grew_pat))) hB⟩
    · go_wp2_with (first | (go_at_call 143; refine (l2Grows_any o l m a k cap base last _ hs (by omega) hla).mono ?_; rintro e w' ⟨rfl, xg, rfl⟩; rw [hg]) | (go_at_call 127; refine (l2Next_any o l m a k cap base last _ hs (by omega)).mono ?_; rintro e w' ⟨rfl, xc, rfl⟩))
      go_ret
      exact ⟨_, rfl, .inr ⟨hg, rfl⟩, by unfold nw; omega, drn_of (Dsrc.mono (by repeat (first | (with_reducible exact HD1.out) | (with_reducible apply dsrc_seq) | (with_reducible apply dsrc_draw) | (with_reducible apply Dsrc.plus) | (with_reducible apply Dsrc.alloc) | (with_reducible apply Dsrc.drew))) (by omega)) (by repeat (first | (with_reducible exact grew_refl _ _) | (with_reducible apply grew_plus) | (with_reducible apply grew_alloc) | (with_reducible apply grew_drew) | (with_reducible apply grew_pat))) hB⟩
  · rcases hv0 with hv0 | hv0 | hv0
    · have q0 : ((v : Int) == 0) = false := by simp; omega
      have q1 : ((v : Int) == 1) = true := by simp; omega
      clear hv0
      rcases dec ((0 : Int) < k) with ⟨hk0, vk⟩ | ⟨hk0, vk⟩
      · go_wp2_with (go_at_call 105; refine (l1End_any _ _ _ l0 l10 _).mono ?_; rintro e w' ⟨rfl, xc, rfl⟩)
        refine (pick_d B (n + 1) _ _ (by repeat (first | (with_reducible exact HD1.out) | (with_reducible apply dsrc_seq) | (with_reducible apply dsrc_draw) | (with_reducible apply Dsrc.plus) | (with_reducible apply Dsrc.alloc) | (with_reducible apply Dsrc.drew))) (by omega)).mono ?_
        rintro e w' ⟨z1, rfl, hz1, hdn⟩
        obtain ⟨hd2, cur2, x2, rfl⟩ := hdn
        have HD2 := Lib.hid hd2
        clear hd2
        go_wp2_with fail
        refine (pick_d B (n + 2) _ _ (by repeat (first | (with_reducible exact HD2.out) | (with_reducible apply dsrc_seq) | (with_reducible apply dsrc_draw) | (with_reducible apply Dsrc.plus) | (with_reducible apply Dsrc.alloc) | (with_reducible apply Dsrc.drew))) (by omega)).mono ?_
        rintro e w' ⟨z2, rfl, hz2, hdn⟩
        obtain ⟨hd3, cur3, x3, rfl⟩ := hdn
        have HD3 := Lib.hid hd3
        clear hd3
        have e1 := Int.emod_nonneg ((z1 : Int) * 256 + z2) (show (k : Int) ≠ 0 by omega)
        have e2 := Int.emod_lt_of_pos ((z1 : Int) * 256 + z2) hk0
        go_wp2_with fail
        go_ret
        exact ⟨two l + 1 + 1 + ((z1 : Int) * 256 + z2) % k, by first | rfl | exact congrArg (fun z => Ending.returned (.int .i64 z)) (by omega), .inl (hw_iff.2 (.inr (by omega))), by omega, drn_of (Dsrc.mono (by repeat (first | (with_reducible exact HD3.out) | (with_reducible apply dsrc_seq) | (with_reducible apply dsrc_draw) | (with_reducible apply Dsrc.plus) | (with_reducible apply Dsrc.alloc) | (with_reducible apply Dsrc.drew))) (by omega)) (by repeat (first | (with_reducible exact grew_refl _ _) | (with_reducible apply grew_plus) | (with_reducible apply grew_alloc) | (with_reducible apply grew_drew) | (with_reducible apply grew_pat))) hB⟩
      · go_wp2_with fail
        refine wp_region_pt 6 (fun w' => w'.heap[w.heap.size]? = some (.cells #[.int .i64 o, .int .i64 l, .int .i64 m, .slice a k cap, .int .i64 base, .int .i64 last] 26 (0, 0))) (Plan.quiet 0 (Plan.quiet 2 (Plan.quiet 3 (Plan.one 1 (Plan.one 4 (Plan.quiet 5 (Plan.one 6 Plan.done))))))) (by kernel_rfl) (by kernel_rfl) ((by repeat (first | (with_reducible exact push_new _ _ _ rfl) | (with_reducible exact push_new _ _ _ (by simp)) | (with_reducible apply blk_plus) | (with_reducible apply blk_alloc) | (with_reducible apply blk_drew) | (with_reducible refine blk_patch ?_ (by omega))))) ?_
        refine wpPt_val rfl rfl ?_
        apply Exists.intro
        refine ⟨fun w' hS => ?_, ?_⟩
        focus (have rS := cell_of hS; simp [go_sem, ↓IntWalk.iteOmega, rS] <;> first | done | exact rfl | (rw [IntWalk.i64_in _ (by omega)]; exact rfl) | trace_state)
        refine wpPt_val rfl rfl ?_
        apply Exists.intro
        refine ⟨fun w' hS => ?_, ?_⟩
        focus (have rS := cell_of hS; simp [go_sem, ↓IntWalk.iteOmega, rS] <;> first | done | exact rfl | (rw [IntWalk.i64_in _ (by omega)]; exact rfl) | trace_state)
        refine wpPt_val rfl rfl ?_
        apply Exists.intro
        refine ⟨fun w' hS => ?_, ?_⟩
        focus (have rS := cell_of hS; simp [go_sem, ↓IntWalk.iteOmega, rS] <;> first | done | exact rfl | (rw [IntWalk.i64_in _ (by omega)]; exact rfl) | trace_state)
        refine wpPt_one rfl rfl (fun K hK => ?_)
        go_simp
        refine (pick_d B (n + 1) _ _ (by repeat (first | (with_reducible exact HD1.out) | (with_reducible apply dsrc_seq) | (with_reducible apply dsrc_draw) | (with_reducible apply Dsrc.plus) | (with_reducible apply Dsrc.alloc) | (with_reducible apply Dsrc.drew))) (by omega)).mono ?_
        rintro e w' ⟨z, rfl, hz, hdn⟩
        obtain ⟨hdz, curz, xz, rfl⟩ := hdn
        have HDZ := Lib.hid hdz
        clear hdz
        refine hK _ _ (fun hkn => (by repeat (first | (with_reducible exact push_new _ _ _ rfl) | (with_reducible exact push_new _ _ _ (by simp)) | (with_reducible apply blk_plus) | (with_reducible apply blk_alloc) | (with_reducible apply blk_drew) | (with_reducible refine blk_patch ?_ (by omega))))) ?_
        clear hK K
        refine wpPt_one rfl rfl (fun K hK => ?_)
        go_simp
        refine (l1Clear_any _ _ _ l0 l10 _).mono ?_
        rintro e w' ⟨rfl, xcl, rfl⟩
        refine hK _ _ (fun hkn => (by repeat (first | (with_reducible exact push_new _ _ _ rfl) | (with_reducible exact push_new _ _ _ (by simp)) | (with_reducible apply blk_plus) | (with_reducible apply blk_alloc) | (with_reducible apply blk_drew) | (with_reducible refine blk_patch ?_ (by omega))))) ?_
        clear hK K
        refine wpPt_val rfl rfl ?_
        apply Exists.intro
        refine ⟨fun w' hS => ?_, ?_⟩
        focus (have rS := cell_of hS; simp [go_sem, ↓IntWalk.iteOmega, rS] <;> first | done | exact rfl | (rw [IntWalk.i64_in _ (by omega)]; exact rfl) | trace_state)
        refine wpPt_one rfl rfl (fun K hK => ?_)
        go_simp
        refine hK _ _ (fun hkn => absurd hkn (by decide)) ?_
        clear hK K
        refine NoPanic.normal ?_
        go_wp2_with fail
        go_ret
        exact ⟨(z : Int) % two l, rfl, .inl (hw_iff.2 (.inl ⟨Int.emod_nonneg (z : Int) (show two l ≠ 0 by omega), Int.emod_lt_of_pos (z : Int) (show 0 < two l by omega)⟩)), (fun e => by have := Int.emod_lt_of_pos (z : Int) (show 0 < two l by omega); omega), drn_of (Dsrc.mono (by repeat (first | (with_reducible exact HDZ.out) | (with_reducible apply dsrc_seq) | (with_reducible apply dsrc_draw) | (with_reducible apply Dsrc.plus) | (with_reducible apply Dsrc.alloc) | (with_reducible apply Dsrc.drew))) (by omega)) (by repeat (first | (with_reducible exact grew_refl _ _) | (with_reducible apply grew_plus) | (with_reducible apply grew_alloc) | (with_reducible apply grew_drew) | (with_reducible apply grew_pat))) hB⟩
    · have q0 : ((v : Int) == 0) = false := by simp; omega
      have q1 : ((v : Int) == 1) = false := by simp; omega
      have q2 : ((v : Int) == 2) = true := by simp; omega
      clear hv0
      rcases dec ((0 : Int) < k) with ⟨hk0, vk⟩ | ⟨hk0, vk⟩
      · go_wp2_with (go_at_call 105; refine (l1End_any _ _ _ l0 l10 _).mono ?_; rintro e w' ⟨rfl, xc, rfl⟩)
        refine (pick_d B (n + 1) _ _ (by repeat (first | (with_reducible exact HD1.out) | (with_reducible apply dsrc_seq) | (with_reducible apply dsrc_draw) | (with_reducible apply Dsrc.plus) | (with_reducible apply Dsrc.alloc) | (with_reducible apply Dsrc.drew))) (by omega)).mono ?_
        rintro e w' ⟨z1, rfl, hz1, hdn⟩
        obtain ⟨hd2, cur2, x2, rfl⟩ := hdn
        have HD2 := Lib.hid hd2
        clear hd2
        go_wp2_with fail
        refine (pick_d B (n + 2) _ _ (by repeat (first | (with_reducible exact HD2.out) | (with_reducible apply dsrc_seq) | (with_reducible apply dsrc_draw) | (with_reducible apply Dsrc.plus) | (with_reducible apply Dsrc.alloc) | (with_reducible apply Dsrc.drew))) (by omega)).mono ?_
        rintro e w' ⟨z2, rfl, hz2, hdn⟩
        obtain ⟨hd3, cur3, x3, rfl⟩ := hdn
        have HD3 := Lib.hid hd3
        clear hd3
        have e1 := Int.emod_nonneg ((z1 : Int) * 256 + z2) (show (k : Int) ≠ 0 by omega)
        have e2 := Int.emod_lt_of_pos ((z1 : Int) * 256 + z2) hk0
        go_wp2_with fail
        go_ret
        exact ⟨two l + 1 + 1 + ((z1 : Int) * 256 + z2) % k, by first | rfl | exact congrArg (fun z => Ending.returned (.int .i64 z)) (by omega), .inl (hw_iff.2 (.inr (by omega))), by omega, drn_of (Dsrc.mono (by repeat (first | (with_reducible exact HD3.out) | (with_reducible apply dsrc_seq) | (with_reducible apply dsrc_draw) | (with_reducible apply Dsrc.plus) | (with_reducible apply Dsrc.alloc) | (with_reducible apply Dsrc.drew))) (by omega)) (by repeat (first | (with_reducible exact grew_refl _ _) | (with_reducible apply grew_plus) | (with_reducible apply grew_alloc) | (with_reducible apply grew_drew) | (with_reducible apply grew_pat))) hB⟩
      · go_wp2_with fail
        refine wp_region_pt 6 (fun w' => w'.heap[w.heap.size]? = some (.cells #[.int .i64 o, .int .i64 l, .int .i64 m, .slice a k cap, .int .i64 base, .int .i64 last] 26 (0, 0))) (Plan.quiet 0 (Plan.quiet 2 (Plan.quiet 3 (Plan.one 1 (Plan.one 4 (Plan.quiet 5 (Plan.one 6 Plan.done))))))) (by kernel_rfl) (by kernel_rfl) ((by repeat (first | (with_reducible exact push_new _ _ _ rfl) | (with_reducible exact push_new _ _ _ (by simp)) | (with_reducible apply blk_plus) | (with_reducible apply blk_alloc) | (with_reducible apply blk_drew) | (with_reducible refine blk_patch ?_ (by omega))))) ?_
        refine wpPt_val rfl rfl ?_
        apply Exists.intro
        refine ⟨fun w' hS => ?_, ?_⟩
        focus (have rS := cell_of hS; simp [go_sem, ↓IntWalk.iteOmega, rS] <;> first | done | exact rfl | (rw [IntWalk.i64_in _ (by omega)]; exact rfl) | trace_state)
        refine wpPt_val rfl rfl ?_
        apply Exists.intro
        refine ⟨fun w' hS => ?_, ?_⟩
        focus (have rS := cell_of hS; simp [go_sem, ↓IntWalk.iteOmega, rS] <;> first | done | exact rfl | (rw [IntWalk.i64_in _ (by omega)]; exact rfl) | trace_state)
        refine wpPt_val rfl rfl ?_
        apply Exists.intro
        refine ⟨fun w' hS => ?_, ?_⟩
        focus (have rS := cell_of hS; simp [go_sem, ↓IntWalk.iteOmega, rS] <;> first | done | exact rfl | (rw [IntWalk.i64_in _ (by omega)]; exact rfl) | trace_state)
        refine wpPt_one rfl rfl (fun K hK => ?_)
        go_simp
        refine (pick_d B (n + 1) _ _ (by repeat (first | (with_reducible exact HD1.out) | (with_reducible apply dsrc_seq) | (with_reducible apply dsrc_draw) | (with_reducible apply Dsrc.plus) | (with_reducible apply Dsrc.alloc) | (with_reducible apply Dsrc.drew))) (by omega)).mono ?_
        rintro e w' ⟨z, rfl, hz, hdn⟩
        obtain ⟨hdz, curz, xz, rfl⟩ := hdn
        have HDZ := Lib.hid hdz
        clear hdz
        refine hK _ _ (fun hkn => (by repeat (first | (with_reducible exact push_new _ _ _ rfl) | (with_reducible exact push_new _ _ _ (by simp)) | (with_reducible apply blk_plus) | (with_reducible apply blk_alloc) | (with_reducible apply blk_drew) | (with_reducible refine blk_patch ?_ (by omega))))) ?_
        clear hK K
        refine wpPt_one rfl rfl (fun K hK => ?_)
        go_simp
        refine (l1Clear_any _ _ _ l0 l10 _).mono ?_
        rintro e w' ⟨rfl, xcl, rfl⟩
        refine hK _ _ (fun hkn => (by repeat (first | (with_reducible exact push_new _ _ _ rfl) | (with_reducible exact push_new _ _ _ (by simp)) | (with_reducible apply blk_plus) | (with_reducible apply blk_alloc) | (with_reducible apply blk_drew) | (with_reducible refine blk_patch ?_ (by omega))))) ?_
        clear hK K
        refine wpPt_val rfl rfl ?_
        apply Exists.intro
        refine ⟨fun w' hS => ?_, ?_⟩
        focus (have rS := cell_of hS; simp [go_sem, ↓IntWalk.iteOmega, rS] <;> first | done | exact rfl | (rw [IntWalk.i64_in _ (by omega)]; exact rfl) | trace_state)
        refine wpPt_one rfl rfl (fun K hK => ?_)
        go_simp
        refine hK _ _ (fun hkn => absurd hkn (by decide)) ?_
        clear hK K
        refine NoPanic.normal ?_
        go_wp2_with fail
        go_ret
        exact ⟨(z : Int) % two l, rfl, .inl (hw_iff.2 (.inl ⟨Int.emod_nonneg (z : Int) (show two l ≠ 0 by omega), Int.emod_lt_of_pos (z : Int) (show 0 < two l by omega)⟩)), (fun e => by have := Int.emod_lt_of_pos (z : Int) (show 0 < two l by omega); omega), drn_of (Dsrc.mono (by repeat (first | (with_reducible exact HDZ.out) | (with_reducible apply dsrc_seq) | (with_reducible apply dsrc_draw) | (with_reducible apply Dsrc.plus) | (with_reducible apply Dsrc.alloc) | (with_reducible apply Dsrc.drew))) (by omega)) (by repeat (first | (with_reducible exact grew_refl _ _) | (with_reducible apply grew_plus) | (with_reducible apply grew_alloc) | (with_reducible apply grew_drew) | (with_reducible apply grew_pat))) hB⟩
    · have q0 : ((v : Int) == 0) = false := by simp; omega
      have q1 : ((v : Int) == 1) = false := by simp; omega
      have q2 : ((v : Int) == 2) = false := by simp; omega
      have q3 : ((v : Int) == 3) = true := by simp; omega
      clear hv0
      rcases dec ((0 : Int) < k) with ⟨hk0, vk⟩ | ⟨hk0, vk⟩
      · go_wp2_with (go_at_call 105; refine (l1End_any _ _ _ l0 l10 _).mono ?_; rintro e w' ⟨rfl, xc, rfl⟩)
        refine (pick_d B (n + 1) _ _ (by repeat (first | (with_reducible exact HD1.out) | (with_reducible apply dsrc_seq) | (with_reducible apply dsrc_draw) | (with_reducible apply Dsrc.plus) | (with_reducible apply Dsrc.alloc) | (with_reducible apply Dsrc.drew))) (by omega)).mono ?_
        rintro e w' ⟨z1, rfl, hz1, hdn⟩
        obtain ⟨hd2, cur2, x2, rfl⟩ := hdn
        have HD2 := Lib.hid hd2
        clear hd2
        go_wp2_with fail
        refine (pick_d B (n + 2) _ _ (by repeat (first | (with_reducible exact HD2.out) | (with_reducible apply dsrc_seq) | (with_reducible apply dsrc_draw) | (with_reducible apply Dsrc.plus) | (with_reducible apply Dsrc.alloc) | (with_reducible apply Dsrc.drew))) (by omega)).mono ?_
        rintro e w' ⟨z2, rfl, hz2, hdn⟩
        obtain ⟨hd3, cur3, x3, rfl⟩ := hdn
        have HD3 := Lib.hid hd3
        clear hd3
        have e1 := Int.emod_nonneg ((z1 : Int) * 256 + z2) (show (k : Int) ≠ 0 by omega)
        have e2 := Int.emod_lt_of_pos ((z1 : Int) * 256 + z2) hk0
        go_wp2_with fail
        go_ret
        exact ⟨two l + 1 + 1 + ((z1 : Int) * 256 + z2) % k, by first | rfl | exact congrArg (fun z => Ending.returned (.int .i64 z)) (by omega), .inl (hw_iff.2 (.inr (by omega))), by omega, drn_of (Dsrc.mono (by repeat (first | (with_reducible exact HD3.out) | (with_reducible apply dsrc_seq) | (with_reducible apply dsrc_draw) | (with_reducible apply Dsrc.plus) | (with_reducible apply Dsrc.alloc) | (with_reducible apply Dsrc.drew))) (by omega)) (by repeat (first | (with_reducible exact grew_refl _ _) | (with_reducible apply grew_plus) | (with_reducible apply grew_alloc) | (with_reducible apply grew_drew) | (with_reducible apply grew_pat))) hB⟩
      · go_wp2_with fail
        refine wp_region_pt 6 (fun w' => w'.heap[w.heap.size]? = some (.cells #[.int .i64 o, .int .i64 l, .int .i64 m, .slice a k cap, .int .i64 base, .int .i64 last] 26 (0, 0))) (Plan.quiet 0 (Plan.quiet 2 (Plan.quiet 3 (Plan.one 1 (Plan.one 4 (Plan.quiet 5 (Plan.one 6 Plan.done))))))) (by kernel_rfl) (by kernel_rfl) ((by repeat (first | (with_reducible exact push_new _ _ _ rfl) | (with_reducible exact push_new _ _ _ (by simp)) | (with_reducible apply blk_plus) | (with_reducible apply blk_alloc) | (with_reducible apply blk_drew) | (with_reducible refine blk_patch ?_ (by omega))))) ?_
        refine wpPt_val rfl rfl ?_
        apply Exists.intro
        refine ⟨fun w' hS => ?_, ?_⟩
        focus (have rS := cell_of hS; simp [go_sem, ↓IntWalk.iteOmega, rS] <;> first | done | exact rfl | (rw [IntWalk.i64_in _ (by omega)]; exact rfl) | trace_state)
        refine wpPt_val rfl rfl ?_
        apply Exists.intro
        refine ⟨fun w' hS => ?_, ?_⟩
        focus (have rS := cell_of hS; simp [go_sem, ↓IntWalk.iteOmega, rS] <;> first | done | exact rfl | (rw [IntWalk.i64_in _ (by omega)]; exact rfl) | trace_state)
        refine wpPt_val rfl rfl ?_
        apply Exists.intro
        refine ⟨fun w' hS => ?_, ?_⟩
        focus (have rS := cell_of hS; simp [go_sem, ↓IntWalk.iteOmega, rS] <;> first | done | exact rfl | (rw [IntWalk.i64_in _ (by omega)]; exact rfl) | trace_state)
        refine wpPt_one rfl rfl (fun K hK => ?_)
        go_simp
        refine (pick_d B (n + 1) _ _ (by repeat (first | (with_reducible exact HD1.out) | (with_reducible apply dsrc_seq) | (with_reducible apply dsrc_draw) | (with_reducible apply Dsrc.plus) | (with_reducible apply Dsrc.alloc) | (with_reducible apply Dsrc.drew))) (by omega)).mono ?_
        rintro e w' ⟨z, rfl, hz, hdn⟩
        obtain ⟨hdz, curz, xz, rfl⟩ := hdn
        have HDZ := Lib.hid hdz
        clear hdz
        refine hK _ _ (fun hkn => (by repeat (first | (with_reducible exact push_new _ _ _ rfl) | (with_reducible exact push_new _ _ _ (by simp)) | (with_reducible apply blk_plus) | (with_reducible apply blk_alloc) | (with_reducible apply blk_drew) | (with_reducible refine blk_patch ?_ (by omega))))) ?_
        clear hK K
        refine wpPt_one rfl rfl (fun K hK => ?_)
        go_simp
        refine (l1Clear_any _ _ _ l0 l10 _).mono ?_
        rintro e w' ⟨rfl, xcl, rfl⟩
        refine hK _ _ (fun hkn => (by repeat (first | (with_reducible exact push_new _ _ _ rfl) | (with_reducible exact push_new _ _ _ (by simp)) | (with_reducible apply blk_plus) | (with_reducible apply blk_alloc) | (with_reducible apply blk_drew) | (with_reducible refine blk_patch ?_ (by omega))))) ?_
        clear hK K
        refine wpPt_val rfl rfl ?_
        apply Exists.intro
        refine ⟨fun w' hS => ?_, ?_⟩
        focus (have rS := cell_of hS; simp [go_sem, ↓IntWalk.iteOmega, rS] <;> first | done | exact rfl | (rw [IntWalk.i64_in _ (by omega)]; exact rfl) | trace_state)
        refine wpPt_one rfl rfl (fun K hK => ?_)
        go_simp
        refine hK _ _ (fun hkn => absurd hkn (by decide)) ?_
        clear hK K
        refine NoPanic.normal ?_
        go_wp2_with fail
        go_ret
        exact ⟨(z : Int) % two l, rfl, .inl (hw_iff.2 (.inl ⟨Int.emod_nonneg (z : Int) (show two l ≠ 0 by omega), Int.emod_lt_of_pos (z : Int) (show 0 < two l by omega)⟩)), (fun e => by have := Int.emod_lt_of_pos (z : Int) (show 0 < two l by omega); omega), drn_of (Dsrc.mono (by repeat (first | (with_reducible exact HDZ.out) | (with_reducible apply dsrc_seq) | (with_reducible apply dsrc_draw) | (with_reducible apply Dsrc.plus) | (with_reducible apply Dsrc.alloc) | (with_reducible apply Dsrc.drew))) (by omega)) (by repeat (first | (with_reducible exact grew_refl _ _) | (with_reducible apply grew_plus) | (with_reducible apply grew_alloc) | (with_reducible apply grew_drew) | (with_reducible apply grew_pat))) hB⟩
  · have q0 : ((v : Int) == 0) = false := by simp; omega
    have q1 : ((v : Int) == 1) = false := by simp; omega
    have q2 : ((v : Int) == 2) = false := by simp; omega
    have q3 : ((v : Int) == 3) = false := by simp; omega
    clear hv0
    go_wp2_with fail
    refine wp_region_pt 6 (fun w' => w'.heap[w.heap.size]? = some (.cells #[.int .i64 o, .int .i64 l, .int .i64 m, .slice a k cap, .int .i64 base, .int .i64 last] 26 (0, 0))) (Plan.quiet 0 (Plan.quiet 2 (Plan.quiet 3 (Plan.one 1 (Plan.one 4 (Plan.quiet 5 (Plan.one 6 Plan.done))))))) (by kernel_rfl) (by kernel_rfl) ((by repeat (first | (with_reducible exact push_new _ _ _ rfl) | (with_reducible exact push_new _ _ _ (by simp)) | (with_reducible apply blk_plus) | (with_reducible apply blk_alloc) | (with_reducible apply blk_drew) | (with_reducible refine blk_patch ?_ (by omega))))) ?_
    refine wpPt_val rfl rfl ?_
    apply Exists.intro
    refine ⟨fun w' hS => ?_, ?_⟩
    focus (have rS := cell_of hS; simp [go_sem, ↓IntWalk.iteOmega, rS] <;> first | done | exact rfl | (rw [IntWalk.i64_in _ (by omega)]; exact rfl) | trace_state)
    refine wpPt_val rfl rfl ?_
    apply Exists.intro
    refine ⟨fun w' hS => ?_, ?_⟩
    focus (have rS := cell_of hS; simp [go_sem, ↓IntWalk.iteOmega, rS] <;> first | done | exact rfl | (rw [IntWalk.i64_in _ (by omega)]; exact rfl) | trace_state)
    refine wpPt_val rfl rfl ?_
    apply Exists.intro
    refine ⟨fun w' hS => ?_, ?_⟩
    focus (have rS := cell_of hS; simp [go_sem, ↓IntWalk.iteOmega, rS] <;> first | done | exact rfl | (rw [IntWalk.i64_in _ (by omega)]; exact rfl) | trace_state)
    refine wpPt_one rfl rfl (fun K hK => ?_)
    go_simp
    refine (pick_d B (n + 1) _ _ (by repeat (first | (with_reducible exact HD1.out) | (with_reducible apply dsrc_seq) | (with_reducible apply dsrc_draw) | (with_reducible apply Dsrc.plus) | (with_reducible apply Dsrc.alloc) | (with_reducible apply Dsrc.drew))) (by omega)).mono ?_
    rintro e w' ⟨z, rfl, hz, hdn⟩
    obtain ⟨hdz, curz, xz, rfl⟩ := hdn
    have HDZ := Lib.hid hdz
    clear hdz
    refine hK _ _ (fun hkn => (by repeat (first | (with_reducible exact push_new _ _ _ rfl) | (with_reducible exact push_new _ _ _ (by simp)) | (with_reducible apply blk_plus) | (with_reducible apply blk_alloc) | (with_reducible apply blk_drew) | (with_reducible refine blk_patch ?_ (by omega))))) ?_
    clear hK K
    refine wpPt_one rfl rfl (fun K hK => ?_)
    go_simp
    refine (l1Clear_any _ _ _ l0 l10 _).mono ?_
    rintro e w' ⟨rfl, xcl, rfl⟩
    refine hK _ _ (fun hkn => (by repeat (first | (with_reducible exact push_new _ _ _ rfl) | (with_reducible exact push_new _ _ _ (by simp)) | (with_reducible apply blk_plus) | (with_reducible apply blk_alloc) | (with_reducible apply blk_drew) | (with_reducible refine blk_patch ?_ (by omega))))) ?_
    clear hK K
    refine wpPt_val rfl rfl ?_
    apply Exists.intro
    refine ⟨fun w' hS => ?_, ?_⟩
    focus (have rS := cell_of hS; simp [go_sem, ↓IntWalk.iteOmega, rS] <;> first | done | exact rfl | (rw [IntWalk.i64_in _ (by omega)]; exact rfl) | trace_state)
    refine wpPt_one rfl rfl (fun K hK => ?_)
    go_simp
    refine hK _ _ (fun hkn => absurd hkn (by decide)) ?_
    clear hK K
    refine NoPanic.normal ?_
    go_wp2_with fail
    go_ret
    exact ⟨(z : Int) % two l, rfl, .inl (hw_iff.2 (.inl ⟨Int.emod_nonneg (z : Int) (show two l ≠ 0 by omega), Int.emod_lt_of_pos (z : Int) (show 0 < two l by omega)⟩)), (fun e => by have := Int.emod_lt_of_pos (z : Int) (show 0 < two l by omega); omega), drn_of (Dsrc.mono (by repeat (first | (with_reducible exact HDZ.out) | (with_reducible apply dsrc_seq) | (with_reducible apply dsrc_draw) | (with_reducible apply Dsrc.plus) | (with_reducible apply Dsrc.alloc) | (with_reducible apply Dsrc.drew))) (by omega)) (by repeat (first | (with_reducible exact grew_refl _ _) | (with_reducible apply grew_plus) | (with_reducible apply grew_alloc) | (with_reducible apply grew_drew) | (with_reducible apply grew_pat))) hB⟩

end Go.Proofs.YtmddcbebaijjkaaGreatDoor

/- Draws: l2Draw. -/
namespace Go.Proofs.YtmddcbebaijjkaaGreatDoor
open Go.RowKit
set_option linter.unusedVariables false
set_option linter.unusedSimpArgs false

/-- two worlds that differ in two blocks alone -/
def SameN (D1 D2 : Nat) (w1 w2 : World) : Prop := w1.heap.size = w2.heap.size ∧ ∀ k, k ≠ D1 → k ≠ D2 → w1.heap[k]? = w2.heap[k]?

section
variable {D1 D2 : Nat} {w1 w2 : World}

theorem sn_refl (D1 D2 : Nat) (w : World) : SameN D1 D2 w w := ⟨rfl, fun _ _ _ => rfl⟩

theorem sn_alloc (h : SameN D1 D2 w1 w2) (o : Obj) : SameN D1 D2 (w1.alloc o) (w2.alloc o) := ⟨by simp [h.1], fun k h1 h2 => by rw [push_at, push_at, h.1, h.2 k h1 h2]⟩

theorem sn_alloc2 (h : SameN D1 D2 w1 w2) (hD : w1.heap.size = D1 ∨ w1.heap.size = D2) (o o' : Obj) : SameN D1 D2 (w1.alloc o) (w2.alloc o') := ⟨by simp [h.1], fun k h1 h2 => by
  rw [push_at, push_at, h.1, h.2 k h1 h2]
  have := h.1
  by_cases hk : k < w2.heap.size
  · rw [if_pos hk, if_pos hk]
  · rw [if_neg hk, if_neg hk, if_neg (by omega), if_neg (by omega)]⟩

theorem sn_plus (h : SameN D1 D2 w1 w2) (x : Ext) : SameN D1 D2 (plus w1 x) (plus w2 x) := ⟨by simp [h.1], fun k h1 h2 => by
  show (w1.heap ++ x.os)[k]? = (w2.heap ++ x.os)[k]?
  rw [Array.getElem?_append, Array.getElem?_append, h.1, h.2 k h1 h2]⟩

theorem sn_drew (h : SameN D1 D2 w1 w2) : SameN D1 D2 w1.drew w2.drew := h

theorem sn_patch (h : SameN D1 D2 w1 w2) (b : Nat) (o : Obj) : SameN D1 D2 (patch w1 b o) (patch w2 b o) := ⟨by simp [h.1], fun k h1 h2 => by
  rw [patch_heap, patch_heap, h.1, h.2 k h1 h2]⟩

theorem sn_right (h : SameN D1 D2 w1 w2) {b : Nat} (hb : b = D1 ∨ b = D2) (o : Obj) : SameN D1 D2 w1 (patch w2 b o) := ⟨by simp [h.1], fun k h1 h2 => by
  rw [patch_other _ _ _ (by omega)]; exact h.2 k h1 h2⟩

theorem sn_left (h : SameN D1 D2 w1 w2) {b : Nat} (hb : b = D1 ∨ b = D2) (o : Obj) : SameN D1 D2 (patch w1 b o) w2 := ⟨by simp [h.1], fun k h1 h2 => by
  rw [patch_other _ _ _ (by omega)]; exact h.2 k h1 h2⟩

theorem Dsrc.sn {B n : Nat} (h : Dsrc w1 B n) (hs : SameN D1 D2 w1 w2) (hB : B < D1 ∧ B < D2) : Dsrc w2 B n :=
  h.of_block (fun k hk _ => (hs.2 k (by omega) (by omega)).symm) (by rw [hs.1]; exact Nat.le_refl _)

theorem rd_sn {α : Type} {E : Enc α} {a : Option Addr} {cap : Nat} {xs : List α} (h : Rd E w1 a cap xs) (hs : SameN D1 D2 w1 w2) (ha : ∀ X, a = some X → X.block ≠ D1 ∧ X.block ≠ D2) : Rd E w2 a cap xs :=
  h.of_block fun A hA hl => ⟨by rw [← hs.1]; exact hl, (hs.2 _ (ha A hA).1 (ha A hA).2).symm⟩

end

theorem grew_hi {A : Option Addr} {w w' : World} (h : Grew A w w') {D : Nat} (hD : w.heap.size ≤ D) (o : Obj) : Grew A w (patch w' D o) :=
  ⟨h.os, h.tape, h.output, by rw [patch_size]; exact h.size, fun k hk ha => by rw [patch_other _ _ _ (by omega)]; exact h.block k hk ha⟩

theorem rd_grew {α : Type} {E : Enc α} {A : Option Addr} {w w' : World} {a : Option Addr} {cap : Nat} {xs : List α} (h : Rd E w a cap xs) (hg : Grew A w w') (ha : ∀ X Y, A = some X → a = some Y → X.block ≠ Y.block) : Rd E w' a cap xs :=
  h.of_block fun Y hY hl => ⟨by have := hg.size; omega, hg.block _ hl fun X hX e => ha X Y hX hY e⟩

@[simp, go_sem] theorem plus_patch_drew (w : World) (b : Nat) (o : Obj) (x : Ext) : plus (patch w.drew b o) x = plus (patch w b o) x := rfl

/-- a draw of what is known -/
def RetKD (w : World) (B n : Nat) (e : Ending) (w' : World) : Prop := ∃ (o l m : Int) (pa : Option Addr) (pc : Nat) (ps : List Pr) (b : Nat) (last : Int),
  e = .returned (.agg #[.int .i64 o, .int .i64 l, .int .i64 m, .slice pa ps.length pc, .int .i64 b, .int .i64 last]) ∧ KV o l m ps (b : Int) last ∧ ps.length ≤ 14 ∧ RdP w' pa pc ps ∧ (∀ X, pa = some X → w.heap.size ≤ X.block) ∧ Drn w B n w'

theorem aft_len_le {l m : Int} {ps : List Pr} {last c : Int} : (aftP l m ps last c).length ≤ ps.length + 1 := by
  unfold aftP
  split <;> simp

theorem KV.base {o l m : Int} {ps : List Pr} {last : Int} (h : KV o l m ps 0 last) {b : Nat} (hb : b ≤ ps.length) : KV o l m ps (b : Int) last :=
  ⟨h.s, h.len, h.ok, by omega, by omega, by
    rcases h.last with ⟨h1, h2⟩ | h1
    · exact .inl ⟨h1, by omega⟩
    · exact .inr h1⟩



set_option maxRecDepth 100000 in
set_option maxHeartbeats 4000000 in
theorem l2Draw_d (B n : Nat) (w : World) (hd : Dsrc w B n) (hn : n ≤ 800000) :
    Calls Tryz.prog 71 #[.pointer (some ⟨B, 0, none⟩)] w (RetKD w B (n + 60)) := by
  have hB := hd.B_lt
  have HD := Lib.hid hd
  clear hd
  go_enter Tryz.func71, Tryz.ntmps71
  go_wp2_with fail
  refine (l1Some_d B n _ (by repeat (first | (with_reducible exact HD.out) | (with_reducible apply dsrc_seq) | (with_reducible apply dsrc_draw) | (with_reducible apply Dsrc.plus) | (with_reducible apply Dsrc.alloc) | (with_reducible apply Dsrc.drew))) (by omega)).mono ?_
  rintro e w' ⟨o, l, m, rfl, hs, hdn⟩
  obtain ⟨hd1, cur1, x1, rfl⟩ := hdn
  have HD1 := Lib.hid hd1
  clear hd1
  go_wp2_with (go_at_call 110; refine (specStart_yes _ _ _ _ hs).mono ?_; rintro e w' ⟨rfl, xc, rfl⟩)
  refine (pick_d B (n + 5) _ _ (by repeat (first | (with_reducible exact HD1.out) | (with_reducible apply dsrc_seq) | (with_reducible apply dsrc_draw) | (with_reducible apply Dsrc.plus) | (with_reducible apply Dsrc.alloc) | (with_reducible apply Dsrc.drew))) (by omega)).mono ?_
  rintro e w' ⟨v, rfl, hv, hdn⟩
  obtain ⟨hd2, cur2, x2, rfl⟩ := hdn
  have HD2 := Lib.hid hd2
  clear hd2
  go_wp2_with fail
  obtain ⟨D, hDe⟩ : ∃ D, w.heap.size + 1 + (x1.n + xc.n) = D := ⟨_, rfl⟩
  rw [hDe]
  have hD1 : w.heap.size < D := by omega
  have HDE := Lib.hid hDe
  clear hDe
  go_loopw [5] (fun q wr => ∃ (j : Nat) (pa : Option Addr) (pc : Nat) (ps : List Pr) (last : Int), q = .int .i64 j ∧ ps.length + j ≤ 13 ∧ wr.heap[w.heap.size]? = some (.cells #[.int .i64 0, .int .i64 0, .int .i64 0, .slice none 0 0, .int .i64 0, .int .i64 0] 26 (0, 0)) ∧ wr.heap[D]? = some (.cells #[.int .i64 o, .int .i64 l, .int .i64 m, .slice pa ps.length pc, .int .i64 0, .int .i64 last] 26 (0, 0)) ∧ KV o l m ps 0 last ∧
    RdP wr pa pc ps ∧ (∀ X, pa = some X → X.block ≠ B ∧ X.block ≠ D ∧ X.block ≠ w.heap.size ∧ w.heap.size ≤ X.block) ∧ Dsrc wr B (n + 6 + 3 * (13 - j)) ∧ Grew (some ⟨B, 0, none⟩) w wr) (fun q _ => (intOf q).toNat)
  case atStart =>
    exact ⟨v, none, 0, [], -1, rfl, by simp; omega, (by repeat (first | (with_reducible exact push_new _ _ _ rfl) | (with_reducible exact push_new _ _ _ (by simp)) | (with_reducible apply blk_plus) | (with_reducible apply blk_alloc) | (with_reducible apply blk_drew) | (with_reducible refine blk_patch ?_ (by omega)))), blk_plus (blk_patch (push_new _ _ _ (by have := HDE.out; simp; omega)) (by omega)) _, kv_start hs, ⟨by simp, by omega, .inl rfl⟩, fun X hX => (by cases hX), HD2.out.mono (by omega), (by repeat (first | (with_reducible exact grew_refl _ _) | (with_reducible apply grew_plus) | (with_reducible apply grew_alloc) | (with_reducible apply grew_drew) | (with_reducible apply grew_pat)))⟩
  case round =>
    obtain ⟨j, pa, pc, ps, last, rfl, hj, hb2, hbD, hkv, hrd, hoff, hd, hg⟩ := hrel
    have HB2 := Lib.hid hb2
    have HBD := Lib.hid hbD
    have r2 := cell_of hb2
    have rD := cell_of hbD
    have f2 := free_of hb2
    have fD := free_of hbD
    have s2 := fun i v => setCell_patch hb2 i v
    have sD := fun i v => setCell_patch hbD i v
    have hDl := (Array.getElem?_eq_some_iff.1 hbD).1
    have HKV := Lib.hid hkv
    have HRP := Lib.hid hrd
    have HOF := Lib.hid hoff
    have HDR := Lib.hid hd
    have HG := Lib.hid hg
    have hz := hg.size
    have hBw : B < wr.heap.size := by omega
    have hDB : D ≠ B := by omega
    have hBn : ¬ wr.heap.size ≤ B := by omega
    clear hb2 hbD hkv hrd hoff hd hg
    rcases dec (0 < j) with ⟨hlt, v1⟩ | ⟨hlt, v1⟩
    · go_wp2_with fail
      refine wp_region_pt 5 (fun w' => w'.heap[D]? = some (.cells #[.int .i64 o, .int .i64 l, .int .i64 m, .slice pa ps.length pc, .int .i64 0, .int .i64 last] 26 (0, 0))) (Plan.quiet 0 (Plan.quiet 1 (Plan.quiet 2 (Plan.one 3 (Plan.one 4 (Plan.one 5 Plan.done)))))) (by kernel_rfl) (by kernel_rfl) ((by repeat (first | (with_reducible exact HBD.out) | (with_reducible apply blk_seq) | (with_reducible apply blk_draw) | (with_reducible apply blk_plus) | (with_reducible apply blk_alloc) | (with_reducible apply blk_drew) | (with_reducible refine blk_patch ?_ (by omega)) | exact HBD.out))) ?_
      refine wpPt_val rfl rfl ?_
      apply Exists.intro
      refine ⟨fun w' hS => ?_, ?_⟩
      focus (have rS := cell_of hS; simp [go_sem, ↓IntWalk.iteOmega, rS] <;> first | done | exact rfl | (rw [IntWalk.i64_in _ (by omega)]; exact rfl) | trace_state)
      refine wpPt_val rfl rfl ?_
      apply Exists.intro
      refine ⟨fun w' hS => ?_, ?_⟩
      focus (have rS := cell_of hS; simp [go_sem, ↓IntWalk.iteOmega, rS] <;> first | done | exact rfl | (rw [IntWalk.i64_in _ (by omega)]; exact rfl) | trace_state)
      refine wpPt_val rfl rfl ?_
      apply Exists.intro
      refine ⟨fun w' hS => ?_, ?_⟩
      focus (have rS := cell_of hS; simp [go_sem, ↓IntWalk.iteOmega, rS] <;> first | done | exact rfl | (rw [IntWalk.i64_in _ (by omega)]; exact rfl) | trace_state)
      refine wpPt_one rfl rfl (fun K hK => ?_)
      go_simp
      refine (l2Pick_d B _ o l m pa pc ps.length 0 last _ (by repeat (first | (with_reducible exact HDR.out) | (with_reducible apply dsrc_seq) | (with_reducible apply dsrc_draw) | (with_reducible apply Dsrc.plus) | (with_reducible apply Dsrc.alloc) | (with_reducible apply Dsrc.drew))) (by omega) HKV.out.lim (by omega)).mono ?_
      rintro e w' ⟨c, rfl, hok, hne, hdn⟩
      have HOK := Lib.hid hok
      obtain ⟨hd5, cur5, x5, rfl⟩ := hdn
      (try simp only [plus_patch_drew] at hd5)
      have HD5 := Lib.hid hd5
      clear hd5 hok
      refine hK _ _ (fun hkn => (by repeat (first | (with_reducible exact HBD.out) | (with_reducible apply blk_seq) | (with_reducible apply blk_draw) | (with_reducible apply blk_plus) | (with_reducible apply blk_alloc) | (with_reducible apply blk_drew) | (with_reducible refine blk_patch ?_ (by omega)) | exact HBD.out))) ?_
      clear hK K
      refine wpPt_one rfl rfl (fun K hK => ?_)
      go_simp
      refine (l2After_any o l m pa pc ps 0 last c _ (rd_grew HRP.out (show Grew (some ⟨B, 0, none⟩) wr _ from (by repeat (first | (with_reducible exact grew_refl _ _) | (with_reducible apply grew_plus) | (with_reducible apply grew_alloc) | (with_reducible apply grew_drew) | (with_reducible apply grew_pat)))) (fun X Y hX hY => by cases hX; exact (HOF.out Y hY).1.symm)) HKV.out HOK.out).mono ?_
      rintro e w' ⟨pa2, pc2, rfl, hown, x4, rfl⟩
      (try simp only [plus_plus] at hown)
      have HO := Lib.hid hown
      clear hown
      refine hK _ _ (fun hkn => (by repeat (first | (with_reducible exact HBD.out) | (with_reducible apply blk_seq) | (with_reducible apply blk_draw) | (with_reducible apply blk_plus) | (with_reducible apply blk_alloc) | (with_reducible apply blk_drew) | (with_reducible refine blk_patch ?_ (by omega)) | exact HBD.out))) ?_
      clear hK K
      refine wpPt_one rfl rfl (fun K hK => ?_)
      go_simp
      refine hK _ _ (fun hkn => absurd hkn (by decide)) ?_
      clear hK K
      refine NoPanic.normal ?_
      go_wp2_with fail
      go_roundw
      case rel =>
        have hoz := own_lo HO.out
        simp only [plus_size, patch_size] at hoz
        exact ⟨j - 1, pa2, pc2, _, c, int_val (by omega), by have := aft_len_le (l := l) (m := m) (ps := ps) (last := last) (c := c); omega, blk_plus (blk_patch (blk_patch HB2.out (by omega)) (by omega)) _, blk_plus (blk_patch (patch_at _ _ _ hDl) (by omega)) _, HKV.out.after HOK.out, rd_sn (D1 := D) (D2 := D) HO.out.rd (by repeat (first | (with_reducible exact sn_refl _ _ _) | (with_reducible apply sn_plus) | (with_reducible apply sn_patch) | (with_reducible apply sn_drew) | (with_reducible refine sn_right ?_ (by first | exact .inl rfl | exact .inr rfl | omega) _) | (with_reducible refine sn_left ?_ (by first | exact .inl rfl | exact .inr rfl | omega) _) | (with_reducible refine sn_alloc2 ?_ (by simp <;> omega) _ _) | (with_reducible apply sn_alloc))) (fun X hX => by have := hoz X hX; omega), (fun X hX => by have := hoz X hX; omega), (Dsrc.mono (Dsrc.sn (D1 := D) (D2 := D) (w1 := plus (patch wr B (.cells cur5 100)) (x5.seq x4)) (by repeat (first | (with_reducible exact HD5.out) | (with_reducible apply dsrc_seq) | (with_reducible apply dsrc_draw) | (with_reducible apply Dsrc.plus) | (with_reducible apply Dsrc.alloc) | (with_reducible apply Dsrc.drew))) (by repeat (first | (with_reducible exact sn_refl _ _ _) | (with_reducible apply sn_plus) | (with_reducible apply sn_patch) | (with_reducible apply sn_drew) | (with_reducible refine sn_right ?_ (by first | exact .inl rfl | exact .inr rfl | omega) _) | (with_reducible refine sn_left ?_ (by first | exact .inl rfl | exact .inr rfl | omega) _) | (with_reducible refine sn_alloc2 ?_ (by simp <;> omega) _ _) | (with_reducible apply sn_alloc))) (by omega)) (by omega)), grew_plus (grew_pat (grew_hi HG.out (by omega) _) _) _⟩
      case measure => simp [intOf]; omega
    · obtain rfl : j = 0 := by omega
      clear HB2
      go_wp2_with fail
      refine (pick_d B _ _ _ (by repeat (first | (with_reducible exact HDR.out) | (with_reducible apply dsrc_seq) | (with_reducible apply dsrc_draw) | (with_reducible apply Dsrc.plus) | (with_reducible apply Dsrc.alloc) | (with_reducible apply Dsrc.drew))) (by omega)).mono ?_
      rintro e w' ⟨v6, rfl, hv6, hdn⟩
      have HR6 := Lib.hid (rd_grew HRP.out hdn.grew (fun X Y hX hY => by cases hX; exact (HOF.out Y hY).1.symm))
      obtain ⟨hd6, cur6, x6, rfl⟩ := hdn
      have HD6 := Lib.hid hd6
      clear hd6
      rcases (by omega : v6 = 0 ∨ 0 < v6) with hv | hv
      · have q6 : ((v6 : Int) == 0) = true := by simp; omega
        go_wp2_with fail
        refine (pick_d B _ _ _ (by repeat (first | (with_reducible exact HD6.out) | (with_reducible apply dsrc_seq) | (with_reducible apply dsrc_draw) | (with_reducible apply Dsrc.plus) | (with_reducible apply Dsrc.alloc) | (with_reducible apply Dsrc.drew))) (by omega)).mono ?_
        rintro e w' ⟨b7, rfl, hb7, hdn⟩
        have hb8 : b7 ≤ ps.length := by omega
        have HR7 := Lib.hid (rd_grew (by repeat (first | exact HR6.out | apply rd_seq | apply Rd.plus | apply Rd.alloc | apply Rd.drew | apply Rd.drewN | refine rd_patch ?_ _ _ (by intro A hA; first | (cases hA; show _ ≠ _; omega) | (have := hal A hA; omega)))) hdn.grew (fun X Y hX hY => by cases hX; exact (HOF.out Y hY).1.symm))
        obtain ⟨hd7, cur7, x7, rfl⟩ := hdn
        (try simp only [plus_patch_drew] at hd7)
        have HD7 := Lib.hid hd7
        clear hd7 hb7
        go_wp2_with fail
        refine (pick_d B _ _ _ (Dsrc.sn (D1 := D) (D2 := D) HD7.out (by repeat (first | (with_reducible exact sn_refl _ _ _) | (with_reducible apply sn_plus) | (with_reducible apply sn_patch) | (with_reducible apply sn_drew) | (with_reducible refine sn_right ?_ (by first | exact .inl rfl | exact .inr rfl | omega) _) | (with_reducible refine sn_left ?_ (by first | exact .inl rfl | exact .inr rfl | omega) _) | (with_reducible refine sn_alloc2 ?_ (by simp <;> omega) _ _) | (with_reducible apply sn_alloc))) (by omega)) (by omega)).mono ?_
        rintro e w' ⟨v8, rfl, hv8, hdn⟩
        have HR8 := Lib.hid (rd_grew (rd_sn (D1 := D) (D2 := D) HR7.out (by repeat (first | (with_reducible exact sn_refl _ _ _) | (with_reducible apply sn_plus) | (with_reducible apply sn_patch) | (with_reducible apply sn_drew) | (with_reducible refine sn_right ?_ (by first | exact .inl rfl | exact .inr rfl | omega) _) | (with_reducible refine sn_left ?_ (by first | exact .inl rfl | exact .inr rfl | omega) _) | (with_reducible refine sn_alloc2 ?_ (by simp <;> omega) _ _) | (with_reducible apply sn_alloc))) (fun X hX => ⟨(HOF.out X hX).2.1, (HOF.out X hX).2.1⟩)) hdn.grew (fun X Y hX hY => by cases hX; exact (HOF.out Y hY).1.symm))
        obtain ⟨hd8, cur8, x8, rfl⟩ := hdn
        (try simp only [plus_patch_drew] at hd8)
        have HD8 := Lib.hid hd8
        clear hd8
        rcases (by omega : v8 = 0 ∨ 0 < v8) with hv8 | hv8
        · have q8 : ((v8 : Int) == 0) = true := by simp; omega
          obtain ⟨qs, hqs⟩ : ∃ qs, ps.take b7 = qs := ⟨_, rfl⟩
          have HCL := Lib.hid (fun (W : World) (h : RdP W pa pc ps) => l2Cleared_any o l m pa pc ps b7 last W h (by omega) (by omega))
          have HKC := Lib.hid (show KV o l m (ps.take b7) ((b7 : Nat) : Int) (-1) by have := (KV.base (b := b7) HKV.out (by omega)).cleared; simpa using this)
          have hql : (ps.take b7).length ≤ 14 := by rw [List.length_take]; omega
          rw [hqs] at HCL HKC hql
          clear hqs
          go_wp2_with fail
          refine (HCL.out _ (by repeat (first | exact HR8.out | apply rd_seq | apply Rd.plus | apply Rd.alloc | apply Rd.drew | apply Rd.drewN | refine rd_patch ?_ _ _ (by intro A hA; first | (cases hA; show _ ≠ _; omega) | (have := hal A hA; omega))))).mono ?_
          rintro e w' ⟨pa9, pc9, rfl, hown, x9, rfl⟩
          (try simp only [plus_plus] at hown)
          have HO9 := Lib.hid hown
          have hoz := own_lo hown
          simp only [plus_size, patch_size] at hoz
          clear hown
          go_wp2_with fail
          exact bodyPost_ret (v := .agg #[.int .i64 o, .int .i64 l, .int .i64 m, .slice pa9 qs.length pc9, .int .i64 b7, .int .i64 (-1)]) (by simp [results, Tryz.results71, go_sem, ↓IntWalk.iteOmega]) rfl ⟨o, l, m, pa9, pc9, qs, b7, -1, rfl, HKC.out, hql, rd_sn (D1 := D) (D2 := w.heap.size) HO9.out.rd (by repeat (first | (with_reducible exact sn_refl _ _ _) | (with_reducible apply sn_plus) | (with_reducible apply sn_patch) | (with_reducible apply sn_drew) | (with_reducible refine sn_right ?_ (by first | exact .inl rfl | exact .inr rfl | omega) _) | (with_reducible refine sn_left ?_ (by first | exact .inl rfl | exact .inr rfl | omega) _) | (with_reducible refine sn_alloc2 ?_ (by simp <;> omega) _ _) | (with_reducible apply sn_alloc))) (fun X hX => by have := hoz X hX; omega), (fun X hX => by have := hoz X hX; omega), drn_of (Dsrc.mono (Dsrc.sn (D1 := D) (D2 := w.heap.size) (w1 := plus (patch (plus (patch (plus (patch (patch wr D (.cells #[.int .i64 o, .int .i64 l, .int .i64 m, .slice pa ps.length pc, .int .i64 b7, .int .i64 last] 26)) B (.cells cur6 100)) x6) B (.cells cur7 100)) x7) B (.cells cur8 100)) (x8.seq x9)) (by repeat (first | (with_reducible exact HD8.out) | (with_reducible apply dsrc_seq) | (with_reducible apply dsrc_draw) | (with_reducible apply Dsrc.plus) | (with_reducible apply Dsrc.alloc) | (with_reducible apply Dsrc.drew))) (by repeat (first | (with_reducible exact sn_refl _ _ _) | (with_reducible apply sn_plus) | (with_reducible apply sn_patch) | (with_reducible apply sn_drew) | (with_reducible refine sn_right ?_ (by first | exact .inl rfl | exact .inr rfl | omega) _) | (with_reducible refine sn_left ?_ (by first | exact .inl rfl | exact .inr rfl | omega) _) | (with_reducible refine sn_alloc2 ?_ (by simp <;> omega) _ _) | (with_reducible apply sn_alloc))) (by omega)) (by omega)) (by repeat (first | (with_reducible exact HG.out) | (with_reducible apply grew_plus) | (with_reducible apply grew_pat) | (with_reducible refine grew_hi ?_ (by omega) _))) hB⟩
        · have q8 : ((v8 : Int) == 0) = false := by simp; omega
          go_wp2_with fail
          exact bodyPost_ret (v := .agg #[.int .i64 o, .int .i64 l, .int .i64 m, .slice pa ps.length pc, .int .i64 b7, .int .i64 last]) (by simp [results, Tryz.results71, go_sem, ↓IntWalk.iteOmega]) rfl ⟨o, l, m, pa, pc, ps, b7, last, rfl, HKV.out.base (by omega), by omega, rd_sn (D1 := D) (D2 := w.heap.size) HR8.out (by repeat (first | (with_reducible exact sn_refl _ _ _) | (with_reducible apply sn_plus) | (with_reducible apply sn_patch) | (with_reducible apply sn_drew) | (with_reducible refine sn_right ?_ (by first | exact .inl rfl | exact .inr rfl | omega) _) | (with_reducible refine sn_left ?_ (by first | exact .inl rfl | exact .inr rfl | omega) _) | (with_reducible refine sn_alloc2 ?_ (by simp <;> omega) _ _) | (with_reducible apply sn_alloc))) (fun X hX => ⟨(HOF.out X hX).2.1, (HOF.out X hX).2.2.1⟩), (fun X hX => (HOF.out X hX).2.2.2), drn_of (Dsrc.mono (Dsrc.sn (D1 := D) (D2 := w.heap.size) HD8.out (by repeat (first | (with_reducible exact sn_refl _ _ _) | (with_reducible apply sn_plus) | (with_reducible apply sn_patch) | (with_reducible apply sn_drew) | (with_reducible refine sn_right ?_ (by first | exact .inl rfl | exact .inr rfl | omega) _) | (with_reducible refine sn_left ?_ (by first | exact .inl rfl | exact .inr rfl | omega) _) | (with_reducible refine sn_alloc2 ?_ (by simp <;> omega) _ _) | (with_reducible apply sn_alloc))) (by omega)) (by omega)) (by repeat (first | (with_reducible exact HG.out) | (with_reducible apply grew_plus) | (with_reducible apply grew_pat) | (with_reducible refine grew_hi ?_ (by omega) _))) hB⟩
      · have q6 : ((v6 : Int) == 0) = false := by simp; omega
        go_wp2_with fail
        refine (pick_d B _ _ _ (by repeat (first | (with_reducible exact HD6.out) | (with_reducible apply dsrc_seq) | (with_reducible apply dsrc_draw) | (with_reducible apply Dsrc.plus) | (with_reducible apply Dsrc.alloc) | (with_reducible apply Dsrc.drew))) (by omega)).mono ?_
        rintro e w' ⟨v8, rfl, hv8, hdn⟩
        have HR8 := Lib.hid (rd_grew (by repeat (first | exact HR6.out | apply rd_seq | apply Rd.plus | apply Rd.alloc | apply Rd.drew | apply Rd.drewN | refine rd_patch ?_ _ _ (by intro A hA; first | (cases hA; show _ ≠ _; omega) | (have := hal A hA; omega)))) hdn.grew (fun X Y hX hY => by cases hX; exact (HOF.out Y hY).1.symm))
        obtain ⟨hd8, cur8, x8, rfl⟩ := hdn
        (try simp only [plus_patch_drew] at hd8)
        have HD8 := Lib.hid hd8
        clear hd8
        rcases (by omega : v8 = 0 ∨ 0 < v8) with hv8 | hv8
        · have q8 : ((v8 : Int) == 0) = true := by simp; omega
          obtain ⟨qs, hqs⟩ : ∃ qs, ps.take 0 = qs := ⟨_, rfl⟩
          have HCL := Lib.hid (fun (W : World) (h : RdP W pa pc ps) => l2Cleared_any o l m pa pc ps 0 last W h (by omega) (by omega))
          have HKC := Lib.hid (show KV o l m (ps.take 0) ((0 : Nat) : Int) (-1) by have := (KV.base (b := 0) HKV.out (by omega)).cleared; simpa using this)
          have hql : (ps.take 0).length ≤ 14 := by rw [List.length_take]; omega
          rw [hqs] at HCL HKC hql
          clear hqs
          go_wp2_with fail
          refine (HCL.out _ (by repeat (first | exact HR8.out | apply rd_seq | apply Rd.plus | apply Rd.alloc | apply Rd.drew | apply Rd.drewN | refine rd_patch ?_ _ _ (by intro A hA; first | (cases hA; show _ ≠ _; omega) | (have := hal A hA; omega))))).mono ?_
          rintro e w' ⟨pa9, pc9, rfl, hown, x9, rfl⟩
          (try simp only [plus_plus] at hown)
          have HO9 := Lib.hid hown
          have hoz := own_lo hown
          simp only [plus_size, patch_size] at hoz
          clear hown
          go_wp2_with fail
          exact bodyPost_ret (v := .agg #[.int .i64 o, .int .i64 l, .int .i64 m, .slice pa9 qs.length pc9, .int .i64 0, .int .i64 (-1)]) (by simp [results, Tryz.results71, go_sem, ↓IntWalk.iteOmega]) rfl ⟨o, l, m, pa9, pc9, qs, 0, -1, rfl, HKC.out, hql, rd_sn (D1 := D) (D2 := w.heap.size) HO9.out.rd (by repeat (first | (with_reducible exact sn_refl _ _ _) | (with_reducible apply sn_plus) | (with_reducible apply sn_patch) | (with_reducible apply sn_drew) | (with_reducible refine sn_right ?_ (by first | exact .inl rfl | exact .inr rfl | omega) _) | (with_reducible refine sn_left ?_ (by first | exact .inl rfl | exact .inr rfl | omega) _) | (with_reducible refine sn_alloc2 ?_ (by simp <;> omega) _ _) | (with_reducible apply sn_alloc))) (fun X hX => by have := hoz X hX; omega), (fun X hX => by have := hoz X hX; omega), drn_of (Dsrc.mono (Dsrc.sn (D1 := D) (D2 := w.heap.size) (w1 := plus (patch (plus (patch wr B (.cells cur6 100)) x6) B (.cells cur8 100)) (x8.seq x9)) (by repeat (first | (with_reducible exact HD8.out) | (with_reducible apply dsrc_seq) | (with_reducible apply dsrc_draw) | (with_reducible apply Dsrc.plus) | (with_reducible apply Dsrc.alloc) | (with_reducible apply Dsrc.drew))) (by repeat (first | (with_reducible exact sn_refl _ _ _) | (with_reducible apply sn_plus) | (with_reducible apply sn_patch) | (with_reducible apply sn_drew) | (with_reducible refine sn_right ?_ (by first | exact .inl rfl | exact .inr rfl | omega) _) | (with_reducible refine sn_left ?_ (by first | exact .inl rfl | exact .inr rfl | omega) _) | (with_reducible refine sn_alloc2 ?_ (by simp <;> omega) _ _) | (with_reducible apply sn_alloc))) (by omega)) (by omega)) (by repeat (first | (with_reducible exact HG.out) | (with_reducible apply grew_plus) | (with_reducible apply grew_pat) | (with_reducible refine grew_hi ?_ (by omega) _))) hB⟩
        · have q8 : ((v8 : Int) == 0) = false := by simp; omega
          go_wp2_with fail
          exact bodyPost_ret (v := .agg #[.int .i64 o, .int .i64 l, .int .i64 m, .slice pa ps.length pc, .int .i64 0, .int .i64 last]) (by simp [results, Tryz.results71, go_sem, ↓IntWalk.iteOmega]) rfl ⟨o, l, m, pa, pc, ps, 0, last, rfl, HKV.out.base (by omega), by omega, rd_sn (D1 := D) (D2 := w.heap.size) HR8.out (by repeat (first | (with_reducible exact sn_refl _ _ _) | (with_reducible apply sn_plus) | (with_reducible apply sn_patch) | (with_reducible apply sn_drew) | (with_reducible refine sn_right ?_ (by first | exact .inl rfl | exact .inr rfl | omega) _) | (with_reducible refine sn_left ?_ (by first | exact .inl rfl | exact .inr rfl | omega) _) | (with_reducible refine sn_alloc2 ?_ (by simp <;> omega) _ _) | (with_reducible apply sn_alloc))) (fun X hX => ⟨(HOF.out X hX).2.1, (HOF.out X hX).2.2.1⟩), (fun X hX => (HOF.out X hX).2.2.2), drn_of (Dsrc.mono (Dsrc.sn (D1 := D) (D2 := w.heap.size) HD8.out (by repeat (first | (with_reducible exact sn_refl _ _ _) | (with_reducible apply sn_plus) | (with_reducible apply sn_patch) | (with_reducible apply sn_drew) | (with_reducible refine sn_right ?_ (by first | exact .inl rfl | exact .inr rfl | omega) _) | (with_reducible refine sn_left ?_ (by first | exact .inl rfl | exact .inr rfl | omega) _) | (with_reducible refine sn_alloc2 ?_ (by simp <;> omega) _ _) | (with_reducible apply sn_alloc))) (by omega)) (by omega)) (by repeat (first | (with_reducible exact HG.out) | (with_reducible apply grew_plus) | (with_reducible apply grew_pat) | (with_reducible refine grew_hi ?_ (by omega) _))) hB⟩

end Go.Proofs.YtmddcbebaijjkaaGreatDoor
