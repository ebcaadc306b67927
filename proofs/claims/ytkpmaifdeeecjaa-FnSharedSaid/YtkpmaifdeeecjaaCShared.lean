/- The law FnShared: for every argument it returns true. -/
import Derived.Test.YtkpmaifdeeecjaaDsh
import Derived.Test.YtkpmaifdeeecjaaOpb
import Derived.Test.YtkpmaifdeeecjaaIni
import Derived.ChangeMaps5
namespace Go.Proofs.Ytkpmaifdeeecjaa
open Go.RowKit
open Go.ChangeShapes Go.WideShapes Go.ChangeAt Go.RowKit Go.WideElems
set_option linter.unusedVariables false
set_option linter.unusedSimpArgs false

theorem ownFnShared : ownKnob Try.prog.godebug = none := by kernel_rfl

theorem laidFnShared : laidOutB Try.prog = true := by kernel_rfl

set_option maxRecDepth 100000 in
theorem liftedFnShared (os : Os) (started : os.Started) (H : Type) (enc : TypeId × Value → H) :
    ReturnsInHanded {} Try.checked os 3 .any (Rows.fnSharedSpec.pre6 enc Try.prog Try.f3 Rows.fnSharedRow.domain false) (Rows.fnSharedSpec.post enc Try.prog Try.f3 false true false false) := by
  refine returnsInHanded_of_change (C := Try.checked) ownFnShared started (by kernel_rfl) Try.func3
    (ChangeSpec.witness6 (enc := enc) (C := Try.checked) false ⟨#[], #[.slice none 0 0], []⟩ 8 (by kernel_rfl) (by kernel_rfl) (by kernel_rfl) (by kernel_rfl)) ?_
  intro W base args ds gs before hval hW _ _
  have hW2 := hW
  obtain ⟨p, q, hA0, hV, rfl, hfz, hnd⟩ := hW2
  have hA : DataW.TrodAll enc Try.prog W 0 (fun _ => true) true Try.f3.params.toList args.toList ds p := hA0
  rw [Try.params3] at hA hval
  obtain ⟨v0, vs0, d0, ds0, p0, q0, hargs0, rfl, rfl, h0, r0⟩ := trodAll_cons hA
  obtain ⟨rfl, rfl, rfl⟩ := trodAll_nil r0
  obtain rfl : args = #[v0] := by cases args; simp_all
  obtain ⟨a0, c0, bs0, rfl, hr0⟩ := open_bytes Try.underlying22 Try.underlying5 (by kernel_rfl) (hval 0 _ v0 rfl rfl) h0
  refine (lawShared_any a0 c0 bs0 W hr0).mono fun e W' ⟨he, hb⟩ => ⟨_, he, ?_⟩
  exact law_post (tb := 4) laidFnShared hW rfl (by kernel_rfl) (by kernel_rfl) Try.underlying4 rfl hb

theorem jointFnShared : joinedFacts Try.pinned.checked.prog 3 Try.f3 Rows.fnSharedSpec Rows.fnSharedRow = true := by
  rw [iniPin]
  unfold joinedFacts
  rw [iniMay, iniFin, iniMake]
  kernel_rfl

/-- The statement. -/
theorem provedFnShared : Rows.FnSharedSaid :=
  OpenClaim.holds_of_wide 3 Try.f3 rfl rfl rfl rfl rfl rfl rfl ⟨rfl, rfl, rfl, rfl, rfl⟩ rfl rfl rfl rfl rfl (by kernel_rfl) Try.func3 jointFnShared
    (of_decide_eq_true (by kernel_rfl)) (by unfold Func.isWrapper; first | (rw [if_pos (by decide +kernel)]; kernel_rfl) | (rw [if_neg (by decide +kernel)]; exact ⟨rfl, rfl⟩))
    (fun os started H enc _ => liftedFnShared os started H enc)

end Go.Proofs.Ytkpmaifdeeecjaa
