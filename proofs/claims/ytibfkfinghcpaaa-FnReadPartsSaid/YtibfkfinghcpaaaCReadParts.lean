/- The law FnReadParts: for all arguments it returns true. -/
import Derived.Test.YtibfkfinghcpaaaLpt
import Derived.Test.YtibfkfinghcpaaaOpb
import Derived.Test.YtibfkfinghcpaaaIni
import Derived.ChangeMaps5
namespace Go.Proofs.Ytibfkfinghcpaaa
open Go.RowKit
open Go.ChangeShapes Go.WideShapes Go.ChangeAt Go.RowKit Go.WideElems
set_option linter.unusedVariables false
set_option linter.unusedSimpArgs false

theorem ownFnReadParts : ownKnob Try.prog.godebug = none := by kernel_rfl

theorem laidFnReadParts : laidOutB Try.prog = true := by kernel_rfl

set_option maxRecDepth 100000 in
theorem liftedFnReadParts (os : Os) (started : os.Started) (H : Type) (enc : TypeId × Value → H) :
    ReturnsInHanded {} Try.checked os 8 .any (Rows.fnReadPartsSpec.pre6 enc Try.prog Try.f8 Rows.fnReadPartsRow.domain false) (Rows.fnReadPartsSpec.post enc Try.prog Try.f8 false true false false) := by
  refine returnsInHanded_of_change (C := Try.checked) ownFnReadParts started (by kernel_rfl) Try.func8
    (ChangeSpec.witness6 (enc := enc) (C := Try.checked) false ⟨#[], #[.slice none 0 0, .slice none 0 0], []⟩ 8 (by kernel_rfl) (by kernel_rfl) (by kernel_rfl) (by kernel_rfl)) ?_
  intro W base args ds gs before hval hW _ _
  have hW2 := hW
  obtain ⟨p, q, hA0, hV, rfl, hfz, hnd⟩ := hW2
  have hA : DataW.TrodAll enc Try.prog W 0 (fun _ => true) true Try.f8.params.toList args.toList ds p := hA0
  rw [Try.params8] at hA hval
  obtain ⟨v0, vs0, d0, ds0, p0, q0, hargs0, rfl, rfl, h0, r0⟩ := trodAll_cons hA
  obtain ⟨v1, vs1, d1, ds1, p1, q1, hargs1, rfl, rfl, h1, r1⟩ := trodAll_cons r0
  obtain ⟨rfl, rfl, rfl⟩ := trodAll_nil r1
  obtain rfl : args = #[v0, v1] := by cases args; simp_all
  obtain ⟨a0, c0, bs0, rfl, hr0⟩ := open_bytes Try.underlying22 Try.underlying5 (by kernel_rfl) (hval 0 _ v0 rfl rfl) h0
  obtain ⟨a1, c1, bs1, rfl, hr1⟩ := open_bytes Try.underlying22 Try.underlying5 (by kernel_rfl) (hval 1 _ v1 rfl rfl) h1
  refine (lawReadParts_any a0 c0 bs0 a1 c1 bs1 W hr0 hr1).mono fun e W' ⟨he, hb⟩ => ⟨_, he, ?_⟩
  exact law_post (tb := 4) laidFnReadParts hW rfl (by kernel_rfl) (by kernel_rfl) Try.underlying4 rfl hb

theorem jointFnReadParts : joinedFacts Try.pinned.checked.prog 8 Try.f8 Rows.fnReadPartsSpec Rows.fnReadPartsRow = true := by
  rw [iniPin]
  unfold joinedFacts
  rw [iniMay, iniFin, iniMake]
  kernel_rfl

/-- The statement. -/
theorem provedFnReadParts : Rows.FnReadPartsSaid :=
  OpenClaim.holds_of_wide 8 Try.f8 rfl rfl rfl rfl rfl rfl rfl ⟨rfl, rfl, rfl, rfl, rfl⟩ rfl rfl rfl rfl rfl (by kernel_rfl) Try.func8 jointFnReadParts
    (of_decide_eq_true (by kernel_rfl)) (by unfold Func.isWrapper; first | (rw [if_pos (by decide +kernel)]; kernel_rfl) | (rw [if_neg (by decide +kernel)]; exact ⟨rfl, rfl⟩))
    (fun os started H enc _ => liftedFnReadParts os started H enc)

end Go.Proofs.Ytibfkfinghcpaaa
