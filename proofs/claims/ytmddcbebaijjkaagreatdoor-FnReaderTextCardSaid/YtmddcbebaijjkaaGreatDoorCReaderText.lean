/- For every argument the law FnReaderText returns true: a reader is parsed from its text, and a text that is parsed is that of the parsed reader; the tables and errors that the library reads are tied to the text. -/
import Derived.Test.YtmddcbebaijjkaaGreatDoorLrx
import Derived.Test.YtmddcbebaijjkaaGreatDoorOpb
import Derived.Test.YtmddcbebaijjkaaGreatDoorGb
import Derived.Test.YtmddcbebaijjkaaGreatDoorIni
import Derived.Test.YtmddcbebaijjkaaGreatDoorTie
import Derived.Test.YtmddcbebaijjkaaGreatDoorCards
import Derived.ChangeMaps5
import Derived.LaidMore
import Derived.LaidSub
import Derived.Lay
import Derived.SevenTiedAt
import Derived.Stop.Joined
import Derived.Stop.LaidErr
namespace Go.Proofs.YtmddcbebaijjkaaGreatDoor
open Go.RowKit
open Go.ChangeShapes Go.WideShapes Go.ChangeAt Go.RowKit Go.WideElems
set_option linter.unusedVariables false
set_option linter.unusedSimpArgs false

theorem ownFnReaderText : ownKnob Tryz.prog.godebug = none := by kernel_rfl

theorem laidFnReaderText : laidOutB Tryz.prog = true := by kernel_rfl

/-- the table of powers lies as laid -/
theorem tbFnReaderText {W : World} (h : laidMetH Tryz.prog Rows.fnReaderTextRow.laid W) : Tb W := by
  rw [MakeChecks.laidMetH_plain _ _ _ (by kernel_rfl)] at h
  have h2 := laidMet.filter (fun x => x.1 == "internal/strconv.uint64pow10") h
  have e : (Rows.fnReaderTextRow.laid.filter fun x => x.1 == "internal/strconv.uint64pow10") = [("internal/strconv.uint64pow10", Lib.tabData .u64 Lib.pow10Tab)] := by kernel_rfl
  rw [e] at h2
  exact Lib.tabIs_of_head (g := 3) (t := 167) (e := 154) (n := 20) (by kernel_rfl) (by kernel_rfl) Tryz.underlying167 Tryz.underlying154 (by kernel_rfl) (by kernel_rfl) h2

theorem starErr : "*" ++ "errors.errorString" = "*errors.errorString" := by decide

theorem rowErrStr (u : TypeId) (h : Tryz.prog.typeName? 3 u = some "*errors.errorString") : u = 176 :=
  typeName_ptr_named (nm := "errors.errorString") (by rw [starErr]; kernel_rfl) (by kernel_rfl) (by decide) u (by rw [starErr]; exact h)

theorem erErrSyntaxFnReaderText {W : World} (h : laidMetH Tryz.prog Rows.fnReaderTextRow.laid W) : ∃ te pe, W.cell? ⟨1, 0, none⟩ = some (.iface te pe) := by
  rw [MakeChecks.laidMetH_plain _ _ _ (by kernel_rfl)] at h
  have h2 := laidMet.filter (fun x => x.1 == "strconv.ErrSyntax") h
  have e : (Rows.fnReaderTextRow.laid.filter fun x => x.1 == "strconv.ErrSyntax") = [("strconv.ErrSyntax", Rows.laid_strconv_ErrSyntax)] := by kernel_rfl
  rw [e] at h2
  obtain ⟨a0, s0, hv, _⟩ := laid_sentinel h2 (g := 1) (ti := 93) (tp := 176) (te := 178) (ts := 9) (by kernel_rfl) (by kernel_rfl) Tryz.underlying93 rowErrStr Tryz.underlying176 Tryz.underlying178 rfl rfl Tryz.underlying9 (by kernel_rfl) (by kernel_rfl)
  exact ⟨_, _, (World.var?_cell (g := 1) (by kernel_rfl) hv 0).trans rfl⟩

theorem erErrRangeFnReaderText {W : World} (h : laidMetH Tryz.prog Rows.fnReaderTextRow.laid W) : ∃ te pe, W.cell? ⟨2, 0, none⟩ = some (.iface te pe) := by
  rw [MakeChecks.laidMetH_plain _ _ _ (by kernel_rfl)] at h
  have h2 := laidMet.filter (fun x => x.1 == "strconv.ErrRange") h
  have e : (Rows.fnReaderTextRow.laid.filter fun x => x.1 == "strconv.ErrRange") = [("strconv.ErrRange", Rows.laid_strconv_ErrRange)] := by kernel_rfl
  rw [e] at h2
  obtain ⟨a0, s0, hv, _⟩ := laid_sentinel h2 (g := 2) (ti := 93) (tp := 176) (te := 178) (ts := 9) (by kernel_rfl) (by kernel_rfl) Tryz.underlying93 rowErrStr Tryz.underlying176 Tryz.underlying178 rfl rfl Tryz.underlying9 (by kernel_rfl) (by kernel_rfl)
  exact ⟨_, _, (World.var?_cell (g := 2) (by kernel_rfl) hv 0).trans rfl⟩

theorem lwFnReaderText {W : World} (h : laidMetH Tryz.prog Rows.fnReaderTextRow.laid W) : Lw W := ⟨tbFnReaderText h, erErrSyntaxFnReaderText h, erErrRangeFnReaderText h⟩

set_option maxRecDepth 100000 in
theorem liftedFnReaderText (os : Os) (started : os.Started) (H : Type) (enc : TypeId × Value → H) :
    ReturnsInHanded {} Tryz.checked os 5 .any (fun w args => (Rows.fnReaderTextSpec.pre enc Tryz.prog Tryz.f5 Rows.fnReaderTextRow.domain false w args ∧ laidMetH Tryz.prog Rows.fnReaderTextRow.laid w) ∧ sizedMet enc Tryz.prog Tryz.f5 (OpenSpec.ofChange Rows.fnReaderTextSpec) false w args) (Rows.fnReaderTextSpec.post enc Tryz.prog Tryz.f5 false true false false) := by
  refine returnsInHanded_of_change_and (C := Tryz.checked) (X := fun w _ => laidMetH Tryz.prog Rows.fnReaderTextRow.laid w) (fun _ _ _ hh h => h.of_heap hh) ownFnReaderText started (by kernel_rfl) Tryz.func5
    (ChangeSpec.witness_shaped (enc := enc) (C := Tryz.checked) (os := os) (X := fun w _ => laidMetH Tryz.prog Rows.fnReaderTextRow.laid w) false (World.laidAll Tryz.prog os Rows.fnReaderTextRow.laid) #[.slice none 0 0, .slice none 0 0] 8 (World.laidAll_os _ _ _)
      (World.shaped_of_ZipB (by kernel_rfl) (by kernel_rfl)) (by kernel_rfl) (by kernel_rfl) (by kernel_rfl)
      (by rw [MakeChecks.laidMetH_plain _ _ _ (by kernel_rfl)]; exact laidMet_laidAll _ (by kernel_rfl) (by kernel_rfl))) ?_
  intro W base args ds gs before hval0 hW _ _ hL _
  have hval : ∀ (j : Nat) t v, Tryz.f5.params[j]? = some t → args[j]? = some v → Value.okWide Tryz.prog W .any base t v := hval0
  have hW2 := hW
  have hlt : ∀ p ∈ before, p.block < W.heap.size := fun p hp => hW.lt p hp
  obtain ⟨p, q, hA0, hV, rfl, hfz, hnd⟩ := hW2
  have hA : DataW.TrodAll enc Tryz.prog W 0 (fun _ => true) true Tryz.f5.params.toList args.toList ds p := hA0
  rw [Tryz.params5] at hA hval
  obtain ⟨v0, vs0, d0, ds0, p0, q0, hargs0, rfl, rfl, h0, r0⟩ := trodAll_cons hA
  obtain ⟨v1, vs1, d1, ds1, p1, q1, hargs1, rfl, rfl, h1, r1⟩ := trodAll_cons r0
  obtain ⟨rfl, rfl, rfl⟩ := trodAll_nil r1
  obtain rfl : args = #[v0, v1] := by cases args; simp_all
  obtain ⟨a0, c0, bs0, rfl, hr0⟩ := open_bytes Tryz.underlying34 Tryz.underlying5 (by kernel_rfl) (hval 0 _ v0 rfl rfl) h0
  obtain ⟨a1, c1, bs1, rfl, hr1⟩ := open_bytes Tryz.underlying34 Tryz.underlying5 (by kernel_rfl) (hval 1 _ v1 rfl rfl) h1
  refine (lawReaderText_any a0 c0 bs0 a1 c1 bs1 W hr0 hr1 (lwFnReaderText hL)).mono fun e W' ⟨he, hb⟩ => ⟨_, he, ?_⟩
  exact law_post (tb := 4) laidFnReaderText hW rfl (by kernel_rfl) (by kernel_rfl) Tryz.underlying4 rfl hb

theorem jointFnReaderText : joinedFacts Tryz.pinned.checked.prog 5 Tryz.f5 Rows.fnReaderTextSpec Rows.fnReaderTextRow = true := by
  rw [iniPin]
  unfold joinedFacts
  rw [iniMay, iniFin, iniMake]
  kernel_rfl

/-- The row. -/
theorem rowFnReaderText : Rows.FnReaderTextSaid :=
  OpenClaim.holds_of_wide 5 Tryz.f5 rfl rfl rfl rfl rfl rfl rfl ⟨rfl, rfl, rfl, rfl, rfl⟩ rfl rfl rfl rfl rfl (by kernel_rfl) Tryz.func5 jointFnReaderText
    (of_decide_eq_true (by kernel_rfl)) (by unfold Func.isWrapper; first | (rw [if_pos (by decide +kernel)]; kernel_rfl) | (rw [if_neg (by decide +kernel)]; exact ⟨rfl, rfl⟩))
    (fun os started H enc _ => liftedFnReaderText os started H enc)

/-- The statement: the tied card. -/
theorem provedFnReaderText : Rows.FnReaderTextCardSaid :=
  Claim7.holds_tied_plain_at .later [] [.data, .data, .data, .data, .sentinel, .sentinel, .pinned] true _ true rowFnReaderText (fun _ h => by cases h) (by kernel_rfl) (fun _ h => by cases h) fnReaderText_row_tie rfl ⟨rfl, rfl⟩ (by kernel_rfl) rfl
    (fun f fn hf hfn => by
      obtain rfl : f = 5 := Option.some.inj ((show Tryz.prog.funcNamed "loop.example/soughtstreams/laws.FnReaderText" = some 5 by kernel_rfl).symm.trans hf) |>.symm
      obtain rfl : fn = Tryz.f5 := (Option.some.inj (Tryz.func5.symm.trans hfn)).symm
      exact ⟨by kernel_rfl, fun j t ht => by
        rw [Tryz.params5] at ht
        have hm : t ∈ [34, 34] := by simpa using Array.mem_of_getElem? ht
        have hall : ([34, 34].all fun u => !Tryz.prog.wantsStandIn u) = true := by kernel_rfl
        exact (show Tryz.prog.wantsStandIn t = false by simpa using List.all_eq_true.1 hall t hm)⟩)
    (by kernel_rfl)

end Go.Proofs.YtmddcbebaijjkaaGreatDoor
