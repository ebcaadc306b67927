/- The law FnReaderNeeds: for all arguments it returns true. -/
import Derived.Test.YtibfkfinghcpaaaLnd
import Derived.Test.YtibfkfinghcpaaaOpb
import Derived.Test.YtibfkfinghcpaaaIni
import Derived.ChangeMaps5
namespace Go.Proofs.Ytibfkfinghcpaaa
open Go.RowKit
open Go.ChangeShapes Go.WideShapes Go.ChangeAt Go.RowKit Go.WideElems
set_option linter.unusedVariables false
set_option linter.unusedSimpArgs false

theorem ownFnReaderNeeds : ownKnob Try.prog.godebug = none := by kernel_rfl

theorem laidFnReaderNeeds : laidOutB Try.prog = true := by kernel_rfl

set_option maxRecDepth 100000 in
theorem liftedFnReaderNeeds (os : Os) (started : os.Started) (H : Type) (enc : TypeId × Value → H) :
    ReturnsInHanded {} Try.checked os 10 .any (Rows.fnReaderNeedsSpec.pre6 enc Try.prog Try.f10 Rows.fnReaderNeedsRow.domain false) (Rows.fnReaderNeedsSpec.post enc Try.prog Try.f10 false true false false) := by
  refine returnsInHanded_of_change (C := Try.checked) ownFnReaderNeeds started (by kernel_rfl) Try.func10
    (ChangeSpec.witness6 (enc := enc) (C := Try.checked) false ⟨#[], #[.slice none 0 0, .slice none 0 0], []⟩ 8 (by kernel_rfl) (by kernel_rfl) (by kernel_rfl) (by kernel_rfl)) ?_
  intro W base args ds gs before hval hW _ _
  have hW2 := hW
  obtain ⟨p, q, hA0, hV, rfl, hfz, hnd⟩ := hW2
  have hA : DataW.TrodAll enc Try.prog W 0 (fun _ => true) true Try.f10.params.toList args.toList ds p := hA0
  rw [Try.params10] at hA hval
  obtain ⟨v0, vs0, d0, ds0, p0, q0, hargs0, rfl, rfl, h0, r0⟩ := trodAll_cons hA
  obtain ⟨v1, vs1, d1, ds1, p1, q1, hargs1, rfl, rfl, h1, r1⟩ := trodAll_cons r0
  obtain ⟨rfl, rfl, rfl⟩ := trodAll_nil r1
  obtain rfl : args = #[v0, v1] := by cases args; simp_all
  obtain ⟨a0, c0, bs0, rfl, hr0⟩ := open_bytes Try.underlying22 Try.underlying5 (by kernel_rfl) (hval 0 _ v0 rfl rfl) h0
  obtain ⟨a1, c1, bs1, rfl, hr1⟩ := open_bytes Try.underlying22 Try.underlying5 (by kernel_rfl) (hval 1 _ v1 rfl rfl) h1
  refine (lawReaderNeeds2_any a0 c0 bs0 a1 c1 bs1 W hr0 hr1).mono fun e W' ⟨he, hb⟩ => ⟨_, he, ?_⟩
  exact law_post (tb := 4) laidFnReaderNeeds hW rfl (by kernel_rfl) (by kernel_rfl) Try.underlying4 rfl hb

theorem jointFnReaderNeeds : joinedFacts Try.pinned.checked.prog 10 Try.f10 Rows.fnReaderNeedsSpec Rows.fnReaderNeedsRow = true := by
  rw [iniPin]
  unfold joinedFacts
  rw [iniMay, iniFin, iniMake]
  kernel_rfl

/-- The statement. -/
theorem provedFnReaderNeeds : Rows.FnReaderNeedsSaid :=
  OpenClaim.holds_of_wide 10 Try.f10 rfl rfl rfl rfl rfl rfl rfl ⟨rfl, rfl, rfl, rfl, rfl⟩ rfl rfl rfl rfl rfl (by kernel_rfl) Try.func10 jointFnReaderNeeds
    (of_decide_eq_true (by kernel_rfl)) (by unfold Func.isWrapper; first | (rw [if_pos (by decide +kernel)]; kernel_rfl) | (rw [if_neg (by decide +kernel)]; exact ⟨rfl, rfl⟩))
    (fun os started H enc _ => liftedFnReaderNeeds os started H enc)

end Go.Proofs.Ytibfkfinghcpaaa
