/- The walks of CloseWriter of the reference: l3Begin. -/
import Derived.Test.YtmenpflcmpihpaaClw
namespace Go.Proofs.Ytmenpflcmpihpaa
open Go.RowKit
set_option linter.unusedVariables false
set_option linter.unusedSimpArgs false

set_option maxRecDepth 100000 in
set_option maxHeartbeats 4000000 in
theorem l3Begin_yes (o l m : Int) (a : Option Addr) (cap : Nat) (ps : List Pr) (base last : Int) (sp sq : ByteArray) (w : World) :
    Calls Try.prog 89 #[.agg #[.int .i64 o, .int .i64 l, .int .i64 m, .slice a ps.length cap, .int .i64 base, .int .i64 last, .string sp, .string sq, .bool true]] w (Ret w (.agg #[.int .i64 o, .int .i64 l, .int .i64 m, .slice a ps.length cap, .int .i64 base, .int .i64 last, .string sp, .string sq, .bool true])) := by
  go_enter Try.func89, Try.ntmps89
  go_wp2_with fail
  exact bodyPost_ret (v := .agg #[.int .i64 o, .int .i64 l, .int .i64 m, .slice a ps.length cap, .int .i64 base, .int .i64 last, .string sp, .string sq, .bool true]) (by simp [results, Try.results89, go_sem, ↓IntWalk.iteOmega]) rfl (Ret.mk (by repeat (first | exact More.refl _ | apply More.plus | apply More.alloc | apply More.drew | apply More.drewN)))

set_option maxRecDepth 100000 in
set_option maxHeartbeats 4000000 in
theorem l3Begin_no (o l m : Int) (a : Option Addr) (cap : Nat) (ps : List Pr) (b : Nat) (last : Int) (sp sq : ByteArray) (w : World) (hr : RdP w a cap ps) (hkv : KV o l m ps (b : Int) last) (hn0 : ps.length ≤ 2000) (hsq : sq.size ≤ 1000) (n : Nat) (hn : wd l m ps.length last = n) :
    Calls Try.prog 89 #[.agg #[.int .i64 o, .int .i64 l, .int .i64 m, .slice a ps.length cap, .int .i64 b, .int .i64 last, .string sp, .string sq, .bool false]] w (RetWo w o l m (ps.take b) b (-1) sp (sq ++ bstr (bitsL o (two l) n)) true) := by
  obtain ⟨ho, l1, l2, _, _⟩ := sv_iff.1 hkv.s
  have l0 : 0 ≤ l := by omega
  have l10 : l ≤ 10 := by omega
  obtain ⟨t1, t2⟩ := two_lit l1 l2
  have hb : b ≤ ps.length := by have := hkv.b1; omega
  have HRP := Lib.hid hr
  have HPUT := fun (W : World) (a : Option Addr) (cap : Nat) (h : RdP W a cap ps) => l3Put_step o l m a cap ps b last sp sq false (two l) W h hkv hn0 hsq (by omega) (by omega) (by omega) n hn (ps.take b) (-1) (fun W a cap h => l2Step_clear o l m a cap ps b last W h hkv.s hb hn0)
  clear hkv hr hn
  go_enter Try.func89, Try.ntmps89
  go_wp2_with fail
  refine wp_region_pt 7 (fun w' => ∃ y, w' = plus _ y) (Plan.quiet 0 (Plan.quiet 1 (Plan.quiet 2 (Plan.quiet 3 (Plan.two 4 (Plan.two 5 (Plan.one 6 (Plan.one 7 Plan.done)) 6 (Plan.one 5 (Plan.one 7 Plan.done))) 6 (Plan.one 4 (Plan.one 5 (Plan.one 7 Plan.done)))))))) (by kernel_rfl) (by kernel_rfl) (⟨_, drew_is_plus _⟩) ?_
  refine wpPt_val rfl rfl ?_
  apply Exists.intro
  refine ⟨fun w' hS => ?_, ?_⟩
  focus (obtain ⟨y3, rfl⟩ := hS; simp [go_sem, ↓IntWalk.iteOmega] <;> first | done | exact rfl | (rw [IntWalk.i64_in _ (by omega)]; exact rfl) | trace_state)
  refine wpPt_val rfl rfl ?_
  apply Exists.intro
  refine ⟨fun w' hS => ?_, ?_⟩
  focus (obtain ⟨y3, rfl⟩ := hS; simp [go_sem, ↓IntWalk.iteOmega] <;> first | done | exact rfl | (rw [IntWalk.i64_in _ (by omega)]; exact rfl) | trace_state)
  refine wpPt_val rfl rfl ?_
  apply Exists.intro
  refine ⟨fun w' hS => ?_, ?_⟩
  focus (obtain ⟨y3, rfl⟩ := hS; simp [go_sem, ↓IntWalk.iteOmega] <;> first | done | exact rfl | (rw [IntWalk.i64_in _ (by omega)]; exact rfl) | trace_state)
  refine wpPt_val rfl rfl ?_
  apply Exists.intro
  refine ⟨fun w' hS => ?_, ?_⟩
  focus (obtain ⟨y3, rfl⟩ := hS; simp [go_sem, ↓IntWalk.iteOmega] <;> first | done | exact rfl | (rw [IntWalk.i64_in _ (by omega)]; exact rfl) | trace_state)
  refine wpPt_two rfl rfl rfl rfl (fun K hK => ?_) (fun K hK => ?_)
  go_simp
  refine (l1Clear_any _ _ _ l0 l10 _).mono ?_
  rintro e w' ⟨rfl, x4, rfl⟩
  refine hK _ _ (fun hkn => (by repeat (first | exact More.refl _ | (with_reducible apply more_seq) | (with_reducible apply more_draw) | apply More.plus | apply More.alloc | apply More.drew))) ?_
  clear hK K
  refine wpPt_two rfl rfl rfl rfl (fun K hK => ?_) (fun K hK => ?_)
  go_simp
  refine (HPUT _ a cap (by repeat (first | exact HRP.out | apply rd_seq | apply Rd.plus | apply Rd.alloc | apply Rd.drew | apply Rd.drewN | refine rd_patch ?_ _ _ (by intro A hA; first | (cases hA; show _ ≠ _; omega) | (have := hal A hA; omega))))).mono ?_
  rintro e w' ⟨pa, pc, rfl, hown, x5, rfl⟩
  (try simp only [plus_plus] at hown)
  have HO := Lib.hid hown
  clear hown
  refine hK _ _ (fun hkn => (by repeat (first | exact More.refl _ | (with_reducible apply more_seq) | (with_reducible apply more_draw) | apply More.plus | apply More.alloc | apply More.drew))) ?_
  clear hK K
  refine wpPt_one rfl rfl (fun K hK => ?_)
  go_simp
  refine hK _ _ (fun hkn => (by repeat (first | exact More.refl _ | (with_reducible apply more_seq) | (with_reducible apply more_draw) | apply More.plus | apply More.alloc | apply More.drew))) ?_
  clear hK K
  refine wpPt_one rfl rfl (fun K hK => ?_)
  go_simp
  refine hK _ _ (fun hkn => absurd hkn (by decide)) ?_
  clear hK K
  refine NoPanic.normal ?_
  rotate_left
  go_simp
  refine hK _ _ (fun hkn => (by repeat (first | exact More.refl _ | (with_reducible apply more_seq) | (with_reducible apply more_draw) | apply More.plus | apply More.alloc | apply More.drew))) ?_
  clear hK K
  refine wpPt_one rfl rfl (fun K hK => ?_)
  go_simp
  refine (HPUT _ a cap (by repeat (first | exact HRP.out | apply rd_seq | apply Rd.plus | apply Rd.alloc | apply Rd.drew | apply Rd.drewN | refine rd_patch ?_ _ _ (by intro A hA; first | (cases hA; show _ ≠ _; omega) | (have := hal A hA; omega))))).mono ?_
  rintro e w' ⟨pa, pc, rfl, hown, x5, rfl⟩
  (try simp only [plus_plus] at hown)
  have HO := Lib.hid hown
  clear hown
  refine hK _ _ (fun hkn => (by repeat (first | exact More.refl _ | (with_reducible apply more_seq) | (with_reducible apply more_draw) | apply More.plus | apply More.alloc | apply More.drew))) ?_
  clear hK K
  refine wpPt_one rfl rfl (fun K hK => ?_)
  go_simp
  refine hK _ _ (fun hkn => absurd hkn (by decide)) ?_
  clear hK K
  refine NoPanic.normal ?_
  rotate_left
  go_simp
  refine hK _ _ (fun hkn => (by repeat (first | exact More.refl _ | (with_reducible apply more_seq) | (with_reducible apply more_draw) | apply More.plus | apply More.alloc | apply More.drew))) ?_
  clear hK K
  refine wpPt_one rfl rfl (fun K hK => ?_)
  go_simp
  refine (l1Clear_any _ _ _ l0 l10 _).mono ?_
  rintro e w' ⟨rfl, x4, rfl⟩
  refine hK _ _ (fun hkn => (by repeat (first | exact More.refl _ | (with_reducible apply more_seq) | (with_reducible apply more_draw) | apply More.plus | apply More.alloc | apply More.drew))) ?_
  clear hK K
  refine wpPt_one rfl rfl (fun K hK => ?_)
  go_simp
  refine (HPUT _ a cap (by repeat (first | exact HRP.out | apply rd_seq | apply Rd.plus | apply Rd.alloc | apply Rd.drew | apply Rd.drewN | refine rd_patch ?_ _ _ (by intro A hA; first | (cases hA; show _ ≠ _; omega) | (have := hal A hA; omega))))).mono ?_
  rintro e w' ⟨pa, pc, rfl, hown, x5, rfl⟩
  (try simp only [plus_plus] at hown)
  have HO := Lib.hid hown
  clear hown
  refine hK _ _ (fun hkn => (by repeat (first | exact More.refl _ | (with_reducible apply more_seq) | (with_reducible apply more_draw) | apply More.plus | apply More.alloc | apply More.drew))) ?_
  clear hK K
  refine wpPt_one rfl rfl (fun K hK => ?_)
  go_simp
  refine hK _ _ (fun hkn => absurd hkn (by decide)) ?_
  clear hK K
  refine NoPanic.normal ?_
  all_goals
    go_wp2_with fail
    refine bodyPost_ret (v := .agg #[.int .i64 o, .int .i64 l, .int .i64 m, .slice pa (ps.take b).length pc, .int .i64 b, .int .i64 (-1), .string sp, .string (sq ++ bstr (bitsL o (two l) n)), .bool true]) (by simp [results, Try.results89, go_sem, ↓IntWalk.iteOmega, Nat.min_eq_left hb]) rfl ?_
    exact ⟨pa, pc, rfl, (by repeat (first | exact (own_swap HO.out (by simp) (by simp <;> omega)).lower (by simp <;> omega) | (with_reducible apply Own.alloc) | (with_reducible apply Own.drew) | (with_reducible apply own_draw) | (with_reducible apply own_seq))), (by repeat (first | exact More.refl _ | apply More.plus | apply More.alloc | apply More.drew | apply More.drewN))⟩

end Go.Proofs.Ytmenpflcmpihpaa
