/- For every argument the law FnExactReadAll returns true: the program and the reference return the same data of a stream in parts, end and number of used bytes. -/
import Derived.Test.YtibfkfinghcpaaaJReadAll
import Derived.Test.YtibfkfinghcpaaaGb
import Derived.Test.YtibfkfinghcpaaaOps
import Derived.Test.YtibfkfinghcpaaaIni
import Derived.ChangeMaps5
namespace Go.Proofs.Ytibfkfinghcpaaa
open Go.RowKit
open Go.ChangeShapes Go.WideShapes Go.ChangeAt Go.RowKit Go.WideElems
set_option linter.unusedVariables false
set_option linter.unusedSimpArgs false

theorem ownFnExactReadAll : ownKnob Try.prog.godebug = none := by kernel_rfl

theorem laidFnExactReadAll : laidOutB Try.prog = true := by kernel_rfl

set_option maxRecDepth 100000 in
theorem liftedFnExactReadAll (os : Os) (started : os.Started) (H : Type) (enc : TypeId × Value → H) :
    ReturnsInHanded {} Try.checked os 12 .any (Rows.fnExactReadAllSpec.pre6 enc Try.prog Try.f12 Rows.fnExactReadAllRow.domain false) (Rows.fnExactReadAllSpec.post enc Try.prog Try.f12 false true false false) := by
  refine returnsInHanded_of_change (C := Try.checked) ownFnExactReadAll started (by kernel_rfl) Try.func12
    (ChangeSpec.witness6 (enc := enc) (C := Try.checked) false ⟨#[], #[.agg #[.int .i64 0, .int .i64 0, .int .i64 0, .slice none 0 0, .int .i64 0, .int .i64 0], .slice none 0 0], []⟩ 8 (by kernel_rfl) (by kernel_rfl) (by kernel_rfl) (by kernel_rfl)) ?_
  intro W base args ds gs before hval hW _ _
  have hW2 := hW
  have hlt : ∀ p ∈ before, p.block < W.heap.size := fun p hp => hW.lt p hp
  obtain ⟨p, q, hA0, hV, rfl, hfz, hnd⟩ := hW2
  have hA : DataW.TrodAll enc Try.prog W 0 (fun _ => true) true Try.f12.params.toList args.toList ds p := hA0
  rw [Try.params12] at hA hval
  obtain ⟨v0, vs0, d0, ds0, p0, q0, hargs0, rfl, rfl, h0, r0⟩ := trodAll_cons hA
  obtain ⟨v1, vs1, d1, ds1, p1, q1, hargs1, rfl, rfl, h1, r1⟩ := trodAll_cons r0
  obtain ⟨rfl, rfl, rfl⟩ := trodAll_nil r1
  obtain rfl : args = #[v0, v1] := by cases args; simp_all
  obtain ⟨o, l, m, a, cap, ps, b, la, rfl, hr⟩ := open_known (P := Try.prog) Try.underlying68 Try.underlying65 Try.underlying66 Try.underlying146 Try.underlying3 rfl rfl rfl (by kernel_rfl) (hval 0 _ v0 rfl rfl) h0 (fun x hx => hlt x (by simp [hx]))
  obtain ⟨sa, scap, us, rfl, hs, _, hm1⟩ := open_texts Try.underlying56 Try.underlying9 (by kernel_rfl) (hval 1 _ v1 rfl rfl) h1
  refine (lawReadAll_any o l m a cap ps b la sa scap us W hr hs hm1).mono fun e W' ⟨he, hb⟩ => ⟨_, he, ?_⟩
  exact law_post (tb := 4) laidFnExactReadAll hW rfl (by kernel_rfl) (by kernel_rfl) Try.underlying4 rfl hb

theorem jointFnExactReadAll : joinedFacts Try.pinned.checked.prog 12 Try.f12 Rows.fnExactReadAllSpec Rows.fnExactReadAllRow = true := by
  rw [iniPin]
  unfold joinedFacts
  rw [iniMay, iniFin, iniMake]
  kernel_rfl

/-- The statement. -/
theorem provedFnExactReadAll : Rows.FnExactReadAllSaid :=
  OpenClaim.holds_of_wide 12 Try.f12 rfl rfl rfl rfl rfl rfl rfl ⟨rfl, rfl, rfl, rfl, rfl⟩ rfl rfl rfl rfl rfl (by kernel_rfl) Try.func12 jointFnExactReadAll
    (of_decide_eq_true (by kernel_rfl)) (by unfold Func.isWrapper; first | (rw [if_pos (by decide +kernel)]; kernel_rfl) | (rw [if_neg (by decide +kernel)]; exact ⟨rfl, rfl⟩))
    (fun os started H enc _ => liftedFnExactReadAll os started H enc)

end Go.Proofs.Ytibfkfinghcpaaa
