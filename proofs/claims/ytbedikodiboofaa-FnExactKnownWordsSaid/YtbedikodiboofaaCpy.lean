/- Walks: copies of what is known; the laws' copies, comparisons and marks. -/
import Derived.Test.YtbedikodiboofaaKv
namespace Go.Proofs.Ytbedikodiboofaa
open Go.RowKit
set_option linter.unusedVariables false
set_option linter.unusedSimpArgs false

theorem infoPair : (Try.prog.info? 86).map (fun i => (i.zero, i.size, i.bytes)) = some (some (.agg #[.int .i64 0, .int .i64 0]), 2, 16) := by kernel_rfl

/-- what a call that returns something known, with pairs of its own, leaves -/
def RetK (w : World) (o l m : Int) (ps : List Pr) (base last : Int) (e : Ending) (w' : World) : Prop :=
  ∃ a c, e = .returned (.agg #[.int .i64 o, .int .i64 l, .int .i64 m, .slice a ps.length c, .int .i64 base, .int .i64 last]) ∧ Own encP 86 w' a c ps w.heap.size ∧ ∃ x, w' = plus w x

set_option maxHeartbeats 400000 in
theorem copyKnown_any (o l m : Int) (a : Option Addr) (cap : Nat) (ps : List Pr) (base last : Int) (w : World) (hr : RdP w a cap ps) (hn : ps.length ≤ 2000000) :
    Calls Try.prog 63 #[.agg #[.int .i64 o, .int .i64 l, .int .i64 m, .slice a ps.length cap, .int .i64 base, .int .i64 last]] w (RetK w o l m ps base last) := by
  obtain ⟨i0, hi, hz0, hz1, hz2⟩ := info_parts infoPair
  rcases Nat.eq_zero_or_pos ps.length with h0 | h0
  · have e0 : ps = [] := List.eq_nil_of_length_eq_zero h0
    subst e0
    clear h0
    go_enter Try.func63, Try.ntmps63
    go_wp2_with (at_builtin; refine wpList_append_none _ _ _ _ i0 rfl rfl Try.underlying29 hi a none cap rfl rfl ?_)
    refine bodyPost_ret (v := .agg #[.int .i64 o, .int .i64 l, .int .i64 m, .slice none 0 0, .int .i64 base, .int .i64 last]) (by simp [results, Try.results63, go_sem]) rfl ?_
    exact ⟨none, 0, rfl, .inl ⟨rfl, rfl, rfl⟩, (by repeat (first | exact More.refl _ | apply More.plus | apply More.alloc | apply More.drew | apply More.drewN))⟩
  · go_enter Try.func63, Try.ntmps63
    have hr2 : ∀ o1 o2, Rd encP ((w.alloc o1).alloc o2) a cap ps := fun o1 o2 => (Rd.alloc (Rd.alloc hr _) _)
    go_wp2_with (at_builtin; refine wpList_append_new encP _ _ _ _ i0 _ 16 rfl rfl Try.underlying29 hi hz0 hz1 hz2 rfl ps a cap (hr2 _ _) h0 none rfl rfl (by omega) (by omega) ?_; intro c cur hrow hc1 hc2 hsz)
    refine bodyPost_ret (v := .agg #[.int .i64 o, .int .i64 l, .int .i64 m, .slice (some ⟨w.heap.size + 1 + 1, 0, none⟩) ps.length c, .int .i64 base, .int .i64 last]) (by simp [results, Try.results63, go_sem]) rfl ?_
    exact ⟨some ⟨w.heap.size + 1 + 1, 0, none⟩, c, rfl, Own.drew (Own.newAt (by simp) (by omega) hsz hrow hc1 hc2), (by repeat (first | exact More.refl _ | apply More.plus | apply More.alloc | apply More.drew | apply More.drewN))⟩

set_option maxHeartbeats 400000 in
theorem l3Copy_any (o l m : Int) (a : Option Addr) (cap : Nat) (ps : List Pr) (base last : Int) (w : World) (hr : RdP w a cap ps) (hn : ps.length ≤ 2000000) :
    Calls Try.prog 60 #[.agg #[.int .i64 o, .int .i64 l, .int .i64 m, .slice a ps.length cap, .int .i64 base, .int .i64 last]] w (RetK w o l m ps base last) := by
  obtain ⟨i0, hi, hz0, hz1, hz2⟩ := info_parts infoPair
  rcases Nat.eq_zero_or_pos ps.length with h0 | h0
  · have e0 : ps = [] := List.eq_nil_of_length_eq_zero h0
    subst e0
    clear h0
    go_enter Try.func60, Try.ntmps60
    go_wp2_with (at_builtin; refine wpList_append_none _ _ _ _ i0 rfl rfl Try.underlying29 hi a (some ⟨w.heap.size + 1 + 1 + 1, 0, none⟩) cap rfl rfl ?_)
    refine bodyPost_ret (v := .agg #[.int .i64 o, .int .i64 l, .int .i64 m, .slice (some ⟨w.heap.size + 1 + 1 + 1, 0, none⟩) 0 0, .int .i64 base, .int .i64 last]) (by simp [results, Try.results60, go_sem]) rfl ?_
    exact ⟨some ⟨w.heap.size + 1 + 1 + 1, 0, none⟩, 0, rfl, Own.newAt (by simp) (by omega) (by rfl) (rowP_of _ _ (fun i p h => by simp at h)) (by simp) (by omega), (by repeat (first | exact More.refl _ | apply More.plus | apply More.alloc | apply More.drew | apply More.drewN))⟩
  · go_enter Try.func60, Try.ntmps60
    have hr2 : ∀ o1 o2 o3 o4, Rd encP ((((w.alloc o1).alloc o2).alloc o3).alloc o4) a cap ps := fun o1 o2 o3 o4 => (Rd.alloc (Rd.alloc (Rd.alloc (Rd.alloc hr _) _) _) _)
    go_wp2_with (at_builtin; refine wpList_append_new encP _ _ _ _ i0 _ 16 rfl rfl Try.underlying29 hi hz0 hz1 hz2 rfl ps a cap (hr2 _ _ _ _) h0 (some ⟨w.heap.size + 1 + 1 + 1, 0, none⟩) rfl rfl (by omega) (by omega) ?_; intro c cur hrow hc1 hc2 hsz)
    refine bodyPost_ret (v := .agg #[.int .i64 o, .int .i64 l, .int .i64 m, .slice (some ⟨w.heap.size + 1 + 1 + 1 + 1, 0, none⟩) ps.length c, .int .i64 base, .int .i64 last]) (by simp [results, Try.results60, go_sem]) rfl ?_
    exact ⟨some ⟨w.heap.size + 1 + 1 + 1 + 1, 0, none⟩, c, rfl, Own.drew (Own.newAt (by simp) (by omega) hsz hrow hc1 hc2), (by repeat (first | exact More.refl _ | apply More.plus | apply More.alloc | apply More.drew | apply More.drewN))⟩

theorem toPair_any (p b : Int) (w : World) : Calls Try.prog 93 #[.agg #[.int .i64 p, .int .i64 b]] w (Ret w (.agg #[.int .i64 p, .int .i64 b])) := by
  go_enter Try.func93, Try.ntmps93
  go_wp2
  exact bodyPost_ret (v := .agg #[.int .i64 p, .int .i64 b]) (by simp [results, Try.results93, go_sem]) rfl (Ret.mk (by repeat (first | exact More.refl _ | apply More.plus | apply More.alloc | apply More.drew | apply More.drewN)))

theorem toSetting_any (o l m : Int) (w : World) : Calls Try.prog 41 #[.agg #[.int .i64 o, .int .i64 l, .int .i64 m]] w (Ret w (.agg #[.int .i64 o, .int .i64 l, .int .i64 m])) := by
  go_enter Try.func41, Try.ntmps41
  go_wp2
  exact bodyPost_ret (v := .agg #[.int .i64 o, .int .i64 l, .int .i64 m]) (by simp [results, Try.results41, go_sem]) rfl (Ret.mk (by repeat (first | exact More.refl _ | apply More.plus | apply More.alloc | apply More.drew | apply More.drewN)))

end Go.Proofs.Ytbedikodiboofaa
