/- Walks: a code's kind, what is known and valid. -/
import Derived.Test.YtbedikodiboofaaSet
namespace Go.Proofs.Ytbedikodiboofaa
open Go.RowKit
set_option linter.unusedVariables false
set_option linter.unusedSimpArgs false

theorem l2Code_yes (o l m n c : Int) (h : sv o l m = true) (hn : 0 ≤ n) (hn' : n ≤ 1000000) (w : World) :
    Calls Try.prog 91 #[.agg #[.int .i64 o, .int .i64 l, .int .i64 m], .int .i64 c, .int .i64 n] w (Ret w (.bool (hw l n c))) := by
  obtain ⟨h0, h1, h2, h3, h4⟩ := sv_iff.1 h
  obtain ⟨t1, t2⟩ := two_lit h1 h2
  clear h0
  have l0 : 0 ≤ l := by omega
  have l1 : l ≤ 10 := by omega
  cases b1 : inB 0 c (two l - 1) <;> cases b2 : inB (two l + 1 + 1) c (two l + 1 + n)
  all_goals
    go_enter Try.func91, Try.ntmps91
    go_wp2
    (refine wp_region_calm (by kernel_rfl) (by kernel_rfl) ?_
     repeat (first | go_big_quiet_skip | (go_big_quiet_want; go_big_quiet_op; first | go_big_quiet_on | (apply Exists.intro; refine ⟨fun _ => ?_, ?_⟩; (focus ((first | (go_at_call 92; first | refine calm_of (l1Clear_any _ _ _ l0 l1 _) | refine calm_seq (l1Clear_any _ _ _ l0 l1 _)) | (go_at_call 90; first | refine calm_of (l1End_any _ _ _ l0 l1 _) | refine calm_seq (l1End_any _ _ _ l0 l1 _)) | (go_at_call 81; first | refine calm_is (by assumption) (l1In_any _ _ _ _) | refine calm_is_seq (by assumption) (l1In_any _ _ _ _))))); go_big_quiet_on)))
     refine wpQuiet_nil ?_
     intro _ hw'
     obtain ⟨xq, hw''⟩ := hw'
     subst hw'')
    go_wp2
    go_ret
    refine ret_of ?_ (by repeat (first | exact More.refl _ | apply More.plus | apply More.alloc | apply More.drew | apply More.drewN))
    simp only [inB_iff, inB_no] at b1 b2
    first | (refine bool_ret (hw_iff.2 ?_).symm; omega) | (refine bool_ret (hw_no.2 ?_).symm; omega)

end Go.Proofs.Ytbedikodiboofaa
