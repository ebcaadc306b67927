/- For every argument the law FnExactReaderNeeds returns true: the program and the reference return the same. -/
import Derived.Test.YtbedikodiboofaaL2ReaderNeeds
import Derived.Test.YtbedikodiboofaaLaw2
namespace Go.Proofs.Ytbedikodiboofaa
open Go.RowKit
open Go.ChangeShapes Go.WideShapes Go.ChangeAt Go.RowKit Go.WideElems
set_option linter.unusedVariables false
set_option linter.unusedSimpArgs false

theorem ownFnExactReaderNeeds : ownKnob Try.prog.godebug = none := by kernel_rfl

theorem laidFnExactReaderNeeds : laidOutB Try.prog = true := by kernel_rfl

set_option maxRecDepth 100000 in
theorem liftedFnExactReaderNeeds (os : Os) (started : os.Started) (H : Type) (enc : TypeId × Value → H) :
    ReturnsInHanded {} Try.checked os 11 .any (Rows.fnExactReaderNeedsSpec.pre6 enc Try.prog Try.f11 Rows.fnExactReaderNeedsRow.domain false) (Rows.fnExactReaderNeedsSpec.post enc Try.prog Try.f11 false true false false) := by
  refine returnsInHanded_of_change (C := Try.checked) ownFnExactReaderNeeds started (by kernel_rfl) Try.func11
    (ChangeSpec.witness6 (enc := enc) (C := Try.checked) false ⟨#[], #[.agg #[.int .i64 0, .int .i64 0, .int .i64 0, .slice none 0 0, .int .i64 0, .int .i64 0, .string ⟨#[]⟩, .int .i64 0, .int .i64 0, .int .i64 0]], []⟩ 8 (by kernel_rfl) (by kernel_rfl) (by kernel_rfl) (by kernel_rfl)) ?_
  intro W base args ds gs before hval hW _ _
  have hW2 := hW
  have hlt : ∀ p ∈ before, p.block < W.heap.size := fun p hp => hW.lt p hp
  obtain ⟨p, q, hA0, hV, rfl, hfz, hnd⟩ := hW2
  have hA : DataW.TrodAll enc Try.prog W 0 (fun _ => true) true Try.f11.params.toList args.toList ds p := hA0
  rw [Try.params11] at hA hval
  obtain ⟨v0, vs0, d0, ds0, p0, q0, hargs, rfl, rfl, h0, r0⟩ := trodAll_cons hA
  obtain ⟨rfl, rfl, rfl⟩ := trodAll_nil r0
  obtain rfl : args = #[v0] := by cases args; simp_all
  obtain ⟨o, l, m, a, cap, ps, b, la, s, z, c, e, rfl, hr, hs⟩ := open_reader (P := Try.prog) Try.underlying63 Try.underlying9 Try.underlying26 Try.underlying23 Try.underlying24 Try.underlying109 Try.underlying3 rfl rfl rfl rfl (by kernel_rfl) (by kernel_rfl) (hval 0 _ v0 rfl rfl) h0
  refine (lawReaderNeeds_any o l m a cap ps b la s z c e W hr hs).mono fun e W' ⟨he, hb⟩ => ⟨_, he, ?_⟩
  exact law_post (tb := 4) laidFnExactReaderNeeds hW rfl (by kernel_rfl) (by kernel_rfl) Try.underlying4 rfl hb

/-- The statement. -/
theorem provedFnExactReaderNeeds : Rows.FnExactReaderNeedsSaid :=
  OpenClaim.holds_of_wide 11 Try.f11 rfl rfl rfl rfl rfl rfl rfl ⟨rfl, rfl, rfl, rfl, rfl⟩ rfl rfl rfl rfl rfl (by kernel_rfl) Try.func11 (by kernel_rfl)
    (of_decide_eq_true (by kernel_rfl)) (by unfold Func.isWrapper; first | (rw [if_pos (by decide +kernel)]; kernel_rfl) | (rw [if_neg (by decide +kernel)]; exact ⟨rfl, rfl⟩))
    (fun os started H enc _ => liftedFnExactReaderNeeds os started H enc)

end Go.Proofs.Ytbedikodiboofaa
