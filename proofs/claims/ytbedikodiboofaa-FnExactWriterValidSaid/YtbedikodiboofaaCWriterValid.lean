/- For every argument the law FnExactWriterValid returns true: the program and the reference agree on which writers are valid. -/
import Derived.Test.YtbedikodiboofaaJWriterValid
import Derived.Test.YtbedikodiboofaaOpw
import Derived.ChangeMaps5
namespace Go.Proofs.Ytbedikodiboofaa
open Go.RowKit
open Go.ChangeShapes Go.WideShapes Go.ChangeAt Go.RowKit Go.WideElems
set_option linter.unusedVariables false
set_option linter.unusedSimpArgs false

theorem ownFnExactWriterValid : ownKnob Try.prog.godebug = none := by kernel_rfl

theorem laidFnExactWriterValid : laidOutB Try.prog = true := by kernel_rfl

set_option maxRecDepth 100000 in
theorem liftedFnExactWriterValid (os : Os) (started : os.Started) (H : Type) (enc : TypeId × Value → H) :
    ReturnsInHanded {} Try.checked os 12 .any (Rows.fnExactWriterValidSpec.pre6 enc Try.prog Try.f12 Rows.fnExactWriterValidRow.domain false) (Rows.fnExactWriterValidSpec.post enc Try.prog Try.f12 false true false false) := by
  refine returnsInHanded_of_change (C := Try.checked) ownFnExactWriterValid started (by kernel_rfl) Try.func12
    (ChangeSpec.witness6 (enc := enc) (C := Try.checked) false ⟨#[], #[.agg #[.int .i64 0, .int .i64 0, .int .i64 0, .slice none 0 0, .int .i64 0, .int .i64 0, .string ⟨#[]⟩, .string ⟨#[]⟩, .bool false]], []⟩ 8 (by kernel_rfl) (by kernel_rfl) (by kernel_rfl) (by kernel_rfl)) ?_
  intro W base args ds gs before hval hW _ _
  have hW2 := hW
  have hlt : ∀ p ∈ before, p.block < W.heap.size := fun p hp => hW.lt p hp
  obtain ⟨p, q, hA0, hV, rfl, hfz, hnd⟩ := hW2
  have hA : DataW.TrodAll enc Try.prog W 0 (fun _ => true) true Try.f12.params.toList args.toList ds p := hA0
  rw [Try.params12] at hA hval
  obtain ⟨v0, vs0, d0, ds0, p0, q0, hargs0, rfl, rfl, h0, r0⟩ := trodAll_cons hA
  obtain ⟨rfl, rfl, rfl⟩ := trodAll_nil r0
  obtain rfl : args = #[v0] := by cases args; simp_all
  obtain ⟨o, l, m, a, cap, ps, b, la, sp, sq, bg, rfl, hr, hsz, hsz2⟩ := open_writer (P := Try.prog) Try.underlying70 Try.underlying9 Try.underlying4 Try.underlying26 Try.underlying23 Try.underlying24 Try.underlying109 Try.underlying3 rfl rfl rfl rfl (by kernel_rfl) (by kernel_rfl) (hval 0 _ v0 rfl rfl) h0
  refine (lawWriterValid_any o l m a cap ps b la sp sq bg W hr hsz hsz2).mono fun e W' ⟨he, hb⟩ => ⟨_, he, ?_⟩
  exact law_post (tb := 4) laidFnExactWriterValid hW rfl (by kernel_rfl) (by kernel_rfl) Try.underlying4 rfl hb

/-- The statement. -/
theorem provedFnExactWriterValid : Rows.FnExactWriterValidSaid :=
  OpenClaim.holds_of_wide 12 Try.f12 rfl rfl rfl rfl rfl rfl rfl ⟨rfl, rfl, rfl, rfl, rfl⟩ rfl rfl rfl rfl rfl (by kernel_rfl) Try.func12 (by kernel_rfl)
    (of_decide_eq_true (by kernel_rfl)) (by unfold Func.isWrapper; first | (rw [if_pos (by decide +kernel)]; kernel_rfl) | (rw [if_neg (by decide +kernel)]; exact ⟨rfl, rfl⟩))
    (fun os started H enc _ => liftedFnExactWriterValid os started H enc)

end Go.Proofs.Ytbedikodiboofaa
