/- For every argument the law FnExactFormatReader returns true: the program and the reference return the same text; the table of powers of ten that the library reads is tied to the text. -/
import Derived.Test.YtmddcbebaijjkaaDoorJFormatReader
import Derived.Test.YtmddcbebaijjkaaDoorGb
import Derived.Test.YtmddcbebaijjkaaDoorIni
import Derived.Test.YtmddcbebaijjkaaDoorTie
import Derived.Test.YtmddcbebaijjkaaDoorCards
import Derived.ChangeMaps5
import Derived.LaidMore
import Derived.LaidSub
import Derived.Lay
import Derived.SevenTiedAt
import Derived.Stop.Joined
namespace Go.Proofs.YtmddcbebaijjkaaDoor
open Go.RowKit
open Go.ChangeShapes Go.WideShapes Go.ChangeAt Go.RowKit Go.WideElems
set_option linter.unusedVariables false
set_option linter.unusedSimpArgs false

theorem ownFnExactFormatReader : ownKnob Tryd.prog.godebug = none := by kernel_rfl

theorem laidFnExactFormatReader : laidOutB Tryd.prog = true := by kernel_rfl

/-- the table of powers lies as laid -/
theorem tbFnExactFormatReader {W : World} (h : laidMetH Tryd.prog Rows.fnExactFormatReaderRow.laid W) : Tb W := by
  rw [MakeChecks.laidMetH_plain _ _ _ (by kernel_rfl)] at h
  have h2 := laidMet.filter (fun x => x.1 == "internal/strconv.uint64pow10") h
  have e : (Rows.fnExactFormatReaderRow.laid.filter fun x => x.1 == "internal/strconv.uint64pow10") = [("internal/strconv.uint64pow10", Lib.tabData .u64 Lib.pow10Tab)] := by kernel_rfl
  rw [e] at h2
  exact Lib.tabIs_of_head (g := 0) (t := 124) (e := 105) (n := 20) (by kernel_rfl) (by kernel_rfl) Tryd.underlying124 Tryd.underlying105 (by kernel_rfl) (by kernel_rfl) h2

set_option maxRecDepth 100000 in
theorem liftedFnExactFormatReader (os : Os) (started : os.Started) (H : Type) (enc : TypeId × Value → H) :
    ReturnsInHanded {} Tryd.checked os 5 .any (fun w args => (Rows.fnExactFormatReaderSpec.pre enc Tryd.prog Tryd.f5 Rows.fnExactFormatReaderRow.domain false w args ∧ laidMetH Tryd.prog Rows.fnExactFormatReaderRow.laid w) ∧ sizedMet enc Tryd.prog Tryd.f5 (OpenSpec.ofChange Rows.fnExactFormatReaderSpec) false w args) (Rows.fnExactFormatReaderSpec.post enc Tryd.prog Tryd.f5 false true false false) := by
  refine returnsInHanded_of_change_and (C := Tryd.checked) (X := fun w _ => laidMetH Tryd.prog Rows.fnExactFormatReaderRow.laid w) (fun _ _ _ hh h => h.of_heap hh) ownFnExactFormatReader started (by kernel_rfl) Tryd.func5
    (ChangeSpec.witness_shaped (enc := enc) (C := Tryd.checked) (os := os) (X := fun w _ => laidMetH Tryd.prog Rows.fnExactFormatReaderRow.laid w) false (World.laidAll Tryd.prog os Rows.fnExactFormatReaderRow.laid) #[.agg #[.int .i64 0, .int .i64 0, .int .i64 0, .slice none 0 0, .int .i64 0, .int .i64 0, .string ⟨#[]⟩, .int .i64 0, .int .i64 0, .int .i64 0]] 8 (World.laidAll_os _ _ _)
      (World.shaped_of_ZipB (by kernel_rfl) (by kernel_rfl)) (by kernel_rfl) (by kernel_rfl) (by kernel_rfl)
      (by rw [MakeChecks.laidMetH_plain _ _ _ (by kernel_rfl)]; exact laidMet_laidAll _ (by kernel_rfl) (by kernel_rfl))) ?_
  intro W base args ds gs before hval0 hW _ _ hL _
  have hval : ∀ (j : Nat) t v, Tryd.f5.params[j]? = some t → args[j]? = some v → Value.okWide Tryd.prog W .any base t v := hval0
  have hW2 := hW
  have hlt : ∀ p ∈ before, p.block < W.heap.size := fun p hp => hW.lt p hp
  obtain ⟨p, q, hA0, hV, rfl, hfz, hnd⟩ := hW2
  have hA : DataW.TrodAll enc Tryd.prog W 0 (fun _ => true) true Tryd.f5.params.toList args.toList ds p := hA0
  rw [Tryd.params5] at hA hval
  obtain ⟨v0, vs0, d0, ds0, p0, q0, hargs0, rfl, rfl, h0, r0⟩ := trodAll_cons hA
  obtain ⟨rfl, rfl, rfl⟩ := trodAll_nil r0
  obtain rfl : args = #[v0] := by cases args; simp_all
  obtain ⟨o, l, m, a, cap, ps, b, la, s, z, c, e, rfl, hr, hs⟩ := open_reader (P := Tryd.prog) Tryd.underlying41 Tryd.underlying9 Tryd.underlying26 Tryd.underlying23 Tryd.underlying24 Tryd.underlying80 Tryd.underlying3 rfl rfl rfl rfl (by kernel_rfl) (by kernel_rfl) (hval 0 _ v0 rfl rfl) h0
  refine (lawFormatReader_any o l m a cap ps b la s z c e W hr hs (tbFnExactFormatReader hL)).mono fun e W' ⟨he, hb⟩ => ⟨_, he, ?_⟩
  exact law_post (tb := 4) laidFnExactFormatReader hW rfl (by kernel_rfl) (by kernel_rfl) Tryd.underlying4 rfl hb

theorem jointFnExactFormatReader : joinedFacts Tryd.pinned.checked.prog 5 Tryd.f5 Rows.fnExactFormatReaderSpec Rows.fnExactFormatReaderRow = true := by
  rw [iniPin]
  unfold joinedFacts
  rw [iniMay, iniFin, iniMake]
  kernel_rfl

/-- The row. -/
theorem rowFnExactFormatReader : Rows.FnExactFormatReaderSaid :=
  OpenClaim.holds_of_wide 5 Tryd.f5 rfl rfl rfl rfl rfl rfl rfl ⟨rfl, rfl, rfl, rfl, rfl⟩ rfl rfl rfl rfl rfl (by kernel_rfl) Tryd.func5 jointFnExactFormatReader
    (of_decide_eq_true (by kernel_rfl)) (by unfold Func.isWrapper; first | (rw [if_pos (by decide +kernel)]; kernel_rfl) | (rw [if_neg (by decide +kernel)]; exact ⟨rfl, rfl⟩))
    (fun os started H enc _ => liftedFnExactFormatReader os started H enc)

/-- The statement: the tied card. -/
theorem provedFnExactFormatReader : Rows.FnExactFormatReaderCardSaid :=
  Claim7.holds_tied_plain_at .later [] [.data, .data, .data] true _ true rowFnExactFormatReader (fun _ h => by cases h) (by kernel_rfl) (fun _ h => by cases h) fnExactFormatReader_row_tie rfl ⟨rfl, rfl⟩ (by kernel_rfl) rfl
    (fun f fn hf hfn => by
      obtain rfl : f = 5 := Option.some.inj ((show Tryd.prog.funcNamed "loop.example/soughtstreams/laws.FnExactFormatReader" = some 5 by kernel_rfl).symm.trans hf) |>.symm
      obtain rfl : fn = Tryd.f5 := (Option.some.inj (Tryd.func5.symm.trans hfn)).symm
      exact ⟨by kernel_rfl, fun j t ht => by
        rw [Tryd.params5] at ht
        have hm : t ∈ [41] := by simpa using Array.mem_of_getElem? ht
        have hall : ([41].all fun u => !Tryd.prog.wantsStandIn u) = true := by kernel_rfl
        exact (show Tryd.prog.wantsStandIn t = false by simpa using List.all_eq_true.1 hall t hm)⟩)
    (by kernel_rfl)

end Go.Proofs.YtmddcbebaijjkaaDoor
