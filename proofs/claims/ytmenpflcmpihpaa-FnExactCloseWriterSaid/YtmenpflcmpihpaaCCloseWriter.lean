/- For every argument the law FnExactCloseWriter returns true: the program and the reference return the same last bytes. -/
import Derived.Test.YtmenpflcmpihpaaJCloseWriter
import Derived.Test.YtmenpflcmpihpaaOpw
import Derived.Test.YtmenpflcmpihpaaGb
import Derived.Test.YtmenpflcmpihpaaIni
import Derived.ChangeMaps5
namespace Go.Proofs.Ytmenpflcmpihpaa
open Go.RowKit
open Go.ChangeShapes Go.WideShapes Go.ChangeAt Go.RowKit Go.WideElems
set_option linter.unusedVariables false
set_option linter.unusedSimpArgs false

theorem ownFnExactCloseWriter : ownKnob Try.prog.godebug = none := by kernel_rfl

theorem laidFnExactCloseWriter : laidOutB Try.prog = true := by kernel_rfl

set_option maxRecDepth 100000 in
theorem liftedFnExactCloseWriter (os : Os) (started : os.Started) (H : Type) (enc : TypeId × Value → H) :
    ReturnsInHanded {} Try.checked os 13 .any (Rows.fnExactCloseWriterSpec.pre6 enc Try.prog Try.f13 Rows.fnExactCloseWriterRow.domain false) (Rows.fnExactCloseWriterSpec.post enc Try.prog Try.f13 false true false false) := by
  refine returnsInHanded_of_change (C := Try.checked) ownFnExactCloseWriter started (by kernel_rfl) Try.func13
    (ChangeSpec.witness6 (enc := enc) (C := Try.checked) false ⟨#[], #[.agg #[.int .i64 0, .int .i64 0, .int .i64 0, .slice none 0 0, .int .i64 0, .int .i64 0, .string ⟨#[]⟩, .string ⟨#[]⟩, .bool false]], []⟩ 8 (by kernel_rfl) (by kernel_rfl) (by kernel_rfl) (by kernel_rfl)) ?_
  intro W base args ds gs before hval hW _ _
  have hW2 := hW
  have hlt : ∀ p ∈ before, p.block < W.heap.size := fun p hp => hW.lt p hp
  obtain ⟨p, q, hA0, hV, rfl, hfz, hnd⟩ := hW2
  have hA : DataW.TrodAll enc Try.prog W 0 (fun _ => true) true Try.f13.params.toList args.toList ds p := hA0
  rw [Try.params13] at hA hval
  obtain ⟨v0, vs0, d0, ds0, p0, q0, hargs0, rfl, rfl, h0, r0⟩ := trodAll_cons hA
  obtain ⟨rfl, rfl, rfl⟩ := trodAll_nil r0
  obtain rfl : args = #[v0] := by cases args; simp_all
  obtain ⟨o, l, m, a, cap, ps, b, la, sp, sq, bg, rfl, hr, hsz, hsz2⟩ := open_writer (P := Try.prog) Try.underlying57 Try.underlying9 Try.underlying4 Try.underlying26 Try.underlying23 Try.underlying24 Try.underlying129 Try.underlying3 rfl rfl rfl rfl (by kernel_rfl) (by kernel_rfl) (hval 0 _ v0 rfl rfl) h0
  refine (lawCloseWriter_any o l m a cap ps b la sp sq bg W hr hsz hsz2).mono fun e W' ⟨he, hb⟩ => ⟨_, he, ?_⟩
  exact law_post (tb := 4) laidFnExactCloseWriter hW rfl (by kernel_rfl) (by kernel_rfl) Try.underlying4 rfl hb

theorem jointFnExactCloseWriter : joinedFacts Try.pinned.checked.prog 13 Try.f13 Rows.fnExactCloseWriterSpec Rows.fnExactCloseWriterRow = true := by
  rw [iniPin]
  unfold joinedFacts
  rw [iniMay, iniFin, iniMake]
  kernel_rfl

/-- The statement. -/
theorem provedFnExactCloseWriter : Rows.FnExactCloseWriterSaid :=
  OpenClaim.holds_of_wide 13 Try.f13 rfl rfl rfl rfl rfl rfl rfl ⟨rfl, rfl, rfl, rfl, rfl⟩ rfl rfl rfl rfl rfl (by kernel_rfl) Try.func13 jointFnExactCloseWriter
    (of_decide_eq_true (by kernel_rfl)) (by unfold Func.isWrapper; first | (rw [if_pos (by decide +kernel)]; kernel_rfl) | (rw [if_neg (by decide +kernel)]; exact ⟨rfl, rfl⟩))
    (fun os started H enc _ => liftedFnExactCloseWriter os started H enc)

end Go.Proofs.Ytmenpflcmpihpaa
