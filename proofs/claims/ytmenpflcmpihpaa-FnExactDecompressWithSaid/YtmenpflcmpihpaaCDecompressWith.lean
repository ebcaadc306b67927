/- For every argument the law FnExactDecompressWith returns true: the program and the reference return the same data of a stream with a dictionary, end and number of used bytes. -/
import Derived.Test.YtmenpflcmpihpaaJDecompressWith
import Derived.Test.YtmenpflcmpihpaaGb
import Derived.Test.YtmenpflcmpihpaaIni
import Derived.ChangeMaps5
namespace Go.Proofs.Ytmenpflcmpihpaa
open Go.RowKit
open Go.ChangeShapes Go.WideShapes Go.ChangeAt Go.RowKit Go.WideElems
set_option linter.unusedVariables false
set_option linter.unusedSimpArgs false

theorem ownFnExactDecompressWith : ownKnob Try.prog.godebug = none := by kernel_rfl

theorem laidFnExactDecompressWith : laidOutB Try.prog = true := by kernel_rfl

set_option maxRecDepth 100000 in
theorem liftedFnExactDecompressWith (os : Os) (started : os.Started) (H : Type) (enc : TypeId × Value → H) :
    ReturnsInHanded {} Try.checked os 8 .any (Rows.fnExactDecompressWithSpec.pre6 enc Try.prog Try.f8 Rows.fnExactDecompressWithRow.domain false) (Rows.fnExactDecompressWithSpec.post enc Try.prog Try.f8 false true false false) := by
  refine returnsInHanded_of_change (C := Try.checked) ownFnExactDecompressWith started (by kernel_rfl) Try.func8
    (ChangeSpec.witness6 (enc := enc) (C := Try.checked) false ⟨#[], #[.agg #[.int .i64 0, .int .i64 0, .int .i64 0], .string ⟨#[]⟩, .string ⟨#[]⟩], []⟩ 8 (by kernel_rfl) (by kernel_rfl) (by kernel_rfl) (by kernel_rfl)) ?_
  intro W base args ds gs before hval hW _ _
  have hW2 := hW
  have hlt : ∀ p ∈ before, p.block < W.heap.size := fun p hp => hW.lt p hp
  obtain ⟨p, q, hA0, hV, rfl, hfz, hnd⟩ := hW2
  have hA : DataW.TrodAll enc Try.prog W 0 (fun _ => true) true Try.f8.params.toList args.toList ds p := hA0
  rw [Try.params8] at hA hval
  obtain ⟨v0, vs0, d0, ds0, p0, q0, hargs0, rfl, rfl, h0, r0⟩ := trodAll_cons hA
  obtain ⟨v1, vs1, d1, ds1, p1, q1, hargs1, rfl, rfl, h1, r1⟩ := trodAll_cons r0
  obtain ⟨v2, vs2, d2, ds2, p2, q2, hargs2, rfl, rfl, h2, r2⟩ := trodAll_cons r1
  obtain ⟨rfl, rfl, rfl⟩ := trodAll_nil r2
  obtain rfl : args = #[v0, v1, v2] := by cases args; simp_all
  obtain ⟨o, l, m, rfl⟩ := open_setting (P := Try.prog) Try.underlying23 Try.underlying3 rfl (by kernel_rfl) (hval 0 _ v0 rfl rfl) h0
  obtain ⟨s1, rfl, _, _, hm1⟩ := Go.ChangeMaps.open_string Try.underlying9 (hval 1 _ v1 rfl rfl) h1
  obtain ⟨s2, rfl, _, _, hm2⟩ := Go.ChangeMaps.open_string Try.underlying9 (hval 2 _ v2 rfl rfl) h2
  refine (lawDecompressWith_any o l m s1 s2 W hm1 hm2).mono fun e W' ⟨he, hb⟩ => ⟨_, he, ?_⟩
  exact law_post (tb := 4) laidFnExactDecompressWith hW rfl (by kernel_rfl) (by kernel_rfl) Try.underlying4 rfl hb

theorem jointFnExactDecompressWith : joinedFacts Try.pinned.checked.prog 8 Try.f8 Rows.fnExactDecompressWithSpec Rows.fnExactDecompressWithRow = true := by
  rw [iniPin]
  unfold joinedFacts
  rw [iniMay, iniFin, iniMake]
  kernel_rfl

/-- The statement. -/
theorem provedFnExactDecompressWith : Rows.FnExactDecompressWithSaid :=
  OpenClaim.holds_of_wide 8 Try.f8 rfl rfl rfl rfl rfl rfl rfl ⟨rfl, rfl, rfl, rfl, rfl⟩ rfl rfl rfl rfl rfl (by kernel_rfl) Try.func8 jointFnExactDecompressWith
    (of_decide_eq_true (by kernel_rfl)) (by unfold Func.isWrapper; first | (rw [if_pos (by decide +kernel)]; kernel_rfl) | (rw [if_neg (by decide +kernel)]; exact ⟨rfl, rfl⟩))
    (fun os started H enc _ => liftedFnExactDecompressWith os started H enc)

end Go.Proofs.Ytmenpflcmpihpaa
