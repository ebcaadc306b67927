/- For every argument the law FnExactParseKnown returns true: the program and the reference read the same out of a text; the tables and errors that the library reads are tied to the text. -/
import Derived.Test.YtmddcbebaijjkaaDoorJParseKnown
import Derived.Test.YtmddcbebaijjkaaDoorGb
import Derived.Test.YtmddcbebaijjkaaDoorIni
import Derived.Test.YtmddcbebaijjkaaDoorTie
import Derived.Test.YtmddcbebaijjkaaDoorCards
import Derived.ChangeMaps5
import Derived.LaidMore
import Derived.LaidSub
import Derived.Lay
import Derived.SevenTiedAt
import Derived.Stop.Joined
import Derived.Stop.LaidErr
namespace Go.Proofs.YtmddcbebaijjkaaDoor
open Go.RowKit
open Go.ChangeShapes Go.WideShapes Go.ChangeAt Go.RowKit Go.WideElems
set_option linter.unusedVariables false
set_option linter.unusedSimpArgs false

theorem ownFnExactParseKnown : ownKnob Tryd.prog.godebug = none := by kernel_rfl

theorem laidFnExactParseKnown : laidOutB Tryd.prog = true := by kernel_rfl

/-- the table of powers lies as laid -/
theorem tbFnExactParseKnown {W : World} (h : laidMetH Tryd.prog Rows.fnExactParseKnownRow.laid W) : Tb W := by
  rw [MakeChecks.laidMetH_plain _ _ _ (by kernel_rfl)] at h
  have h2 := laidMet.filter (fun x => x.1 == "internal/strconv.uint64pow10") h
  have e : (Rows.fnExactParseKnownRow.laid.filter fun x => x.1 == "internal/strconv.uint64pow10") = [("internal/strconv.uint64pow10", Lib.tabData .u64 Lib.pow10Tab)] := by kernel_rfl
  rw [e] at h2
  exact Lib.tabIs_of_head (g := 0) (t := 124) (e := 105) (n := 20) (by kernel_rfl) (by kernel_rfl) Tryd.underlying124 Tryd.underlying105 (by kernel_rfl) (by kernel_rfl) h2

theorem starErr : "*" ++ "errors.errorString" = "*errors.errorString" := by decide

theorem rowErrStr (u : TypeId) (h : Tryd.prog.typeName? 3 u = some "*errors.errorString") : u = 140 :=
  typeName_ptr_named (nm := "errors.errorString") (by rw [starErr]; kernel_rfl) (by kernel_rfl) (by decide) u (by rw [starErr]; exact h)

theorem erErrSyntaxFnExactParseKnown {W : World} (h : laidMetH Tryd.prog Rows.fnExactParseKnownRow.laid W) : ∃ te pe, W.cell? ⟨2, 0, none⟩ = some (.iface te pe) := by
  rw [MakeChecks.laidMetH_plain _ _ _ (by kernel_rfl)] at h
  have h2 := laidMet.filter (fun x => x.1 == "strconv.ErrSyntax") h
  have e : (Rows.fnExactParseKnownRow.laid.filter fun x => x.1 == "strconv.ErrSyntax") = [("strconv.ErrSyntax", Rows.laid_strconv_ErrSyntax)] := by kernel_rfl
  rw [e] at h2
  obtain ⟨a0, s0, hv, _⟩ := laid_sentinel h2 (g := 2) (ti := 86) (tp := 140) (te := 142) (ts := 9) (by kernel_rfl) (by kernel_rfl) Tryd.underlying86 rowErrStr Tryd.underlying140 Tryd.underlying142 rfl rfl Tryd.underlying9 (by kernel_rfl) (by kernel_rfl)
  exact ⟨_, _, (World.var?_cell (g := 2) (by kernel_rfl) hv 0).trans rfl⟩

theorem erErrRangeFnExactParseKnown {W : World} (h : laidMetH Tryd.prog Rows.fnExactParseKnownRow.laid W) : ∃ te pe, W.cell? ⟨3, 0, none⟩ = some (.iface te pe) := by
  rw [MakeChecks.laidMetH_plain _ _ _ (by kernel_rfl)] at h
  have h2 := laidMet.filter (fun x => x.1 == "strconv.ErrRange") h
  have e : (Rows.fnExactParseKnownRow.laid.filter fun x => x.1 == "strconv.ErrRange") = [("strconv.ErrRange", Rows.laid_strconv_ErrRange)] := by kernel_rfl
  rw [e] at h2
  obtain ⟨a0, s0, hv, _⟩ := laid_sentinel h2 (g := 3) (ti := 86) (tp := 140) (te := 142) (ts := 9) (by kernel_rfl) (by kernel_rfl) Tryd.underlying86 rowErrStr Tryd.underlying140 Tryd.underlying142 rfl rfl Tryd.underlying9 (by kernel_rfl) (by kernel_rfl)
  exact ⟨_, _, (World.var?_cell (g := 3) (by kernel_rfl) hv 0).trans rfl⟩

theorem lwFnExactParseKnown {W : World} (h : laidMetH Tryd.prog Rows.fnExactParseKnownRow.laid W) : Lw W := ⟨tbFnExactParseKnown h, erErrSyntaxFnExactParseKnown h, erErrRangeFnExactParseKnown h⟩

set_option maxRecDepth 100000 in
theorem liftedFnExactParseKnown (os : Os) (started : os.Started) (H : Type) (enc : TypeId × Value → H) :
    ReturnsInHanded {} Tryd.checked os 4 .any (fun w args => (Rows.fnExactParseKnownSpec.pre enc Tryd.prog Tryd.f4 Rows.fnExactParseKnownRow.domain false w args ∧ laidMetH Tryd.prog Rows.fnExactParseKnownRow.laid w) ∧ sizedMet enc Tryd.prog Tryd.f4 (OpenSpec.ofChange Rows.fnExactParseKnownSpec) false w args) (Rows.fnExactParseKnownSpec.post enc Tryd.prog Tryd.f4 false true false false) := by
  refine returnsInHanded_of_change_and (C := Tryd.checked) (X := fun w _ => laidMetH Tryd.prog Rows.fnExactParseKnownRow.laid w) (fun _ _ _ hh h => h.of_heap hh) ownFnExactParseKnown started (by kernel_rfl) Tryd.func4
    (ChangeSpec.witness_shaped (enc := enc) (C := Tryd.checked) (os := os) (X := fun w _ => laidMetH Tryd.prog Rows.fnExactParseKnownRow.laid w) false (World.laidAll Tryd.prog os Rows.fnExactParseKnownRow.laid) #[.string ⟨#[]⟩] 8 (World.laidAll_os _ _ _)
      (World.shaped_of_ZipB (by kernel_rfl) (by kernel_rfl)) (by kernel_rfl) (by kernel_rfl) (by kernel_rfl)
      (by rw [MakeChecks.laidMetH_plain _ _ _ (by kernel_rfl)]; exact laidMet_laidAll _ (by kernel_rfl) (by kernel_rfl))) ?_
  intro W base args ds gs before hval0 hW _ _ hL _
  have hval : ∀ (j : Nat) t v, Tryd.f4.params[j]? = some t → args[j]? = some v → Value.okWide Tryd.prog W .any base t v := hval0
  have hW2 := hW
  have hlt : ∀ p ∈ before, p.block < W.heap.size := fun p hp => hW.lt p hp
  obtain ⟨p, q, hA0, hV, rfl, hfz, hnd⟩ := hW2
  have hA : DataW.TrodAll enc Tryd.prog W 0 (fun _ => true) true Tryd.f4.params.toList args.toList ds p := hA0
  rw [Tryd.params4] at hA hval
  obtain ⟨v0, vs0, d0, ds0, p0, q0, hargs0, rfl, rfl, h0, r0⟩ := trodAll_cons hA
  obtain ⟨rfl, rfl, rfl⟩ := trodAll_nil r0
  obtain rfl : args = #[v0] := by cases args; simp_all
  obtain ⟨s1, rfl, _, _, hm1⟩ := Go.ChangeMaps.open_string Tryd.underlying9 (hval 0 _ v0 rfl rfl) h0
  refine (lawParseKnown_any s1 W hm1 (lwFnExactParseKnown hL)).mono fun e W' ⟨he, hb⟩ => ⟨_, he, ?_⟩
  exact law_post (tb := 4) laidFnExactParseKnown hW rfl (by kernel_rfl) (by kernel_rfl) Tryd.underlying4 rfl hb

theorem jointFnExactParseKnown : joinedFacts Tryd.pinned.checked.prog 4 Tryd.f4 Rows.fnExactParseKnownSpec Rows.fnExactParseKnownRow = true := by
  rw [iniPin]
  unfold joinedFacts
  rw [iniMay, iniFin, iniMake]
  kernel_rfl

/-- The row. -/
theorem rowFnExactParseKnown : Rows.FnExactParseKnownSaid :=
  OpenClaim.holds_of_wide 4 Tryd.f4 rfl rfl rfl rfl rfl rfl rfl ⟨rfl, rfl, rfl, rfl, rfl⟩ rfl rfl rfl rfl rfl (by kernel_rfl) Tryd.func4 jointFnExactParseKnown
    (of_decide_eq_true (by kernel_rfl)) (by unfold Func.isWrapper; first | (rw [if_pos (by decide +kernel)]; kernel_rfl) | (rw [if_neg (by decide +kernel)]; exact ⟨rfl, rfl⟩))
    (fun os started H enc _ => liftedFnExactParseKnown os started H enc)

/-- The statement: the tied card. -/
theorem provedFnExactParseKnown : Rows.FnExactParseKnownCardSaid :=
  Claim7.holds_tied_plain_at .later [] [.data, .data, .data, .data, .sentinel, .sentinel, .pinned] true _ true rowFnExactParseKnown (fun _ h => by cases h) (by kernel_rfl) (fun _ h => by cases h) fnExactParseKnown_row_tie rfl ⟨rfl, rfl⟩ (by kernel_rfl) rfl
    (fun f fn hf hfn => by
      obtain rfl : f = 4 := Option.some.inj ((show Tryd.prog.funcNamed "loop.example/soughtstreams/laws.FnExactParseKnown" = some 4 by kernel_rfl).symm.trans hf) |>.symm
      obtain rfl : fn = Tryd.f4 := (Option.some.inj (Tryd.func4.symm.trans hfn)).symm
      exact ⟨by kernel_rfl, fun j t ht => by
        rw [Tryd.params4] at ht
        have hm : t ∈ [9] := by simpa using Array.mem_of_getElem? ht
        have hall : ([9].all fun u => !Tryd.prog.wantsStandIn u) = true := by kernel_rfl
        exact (show Tryd.prog.wantsStandIn t = false by simpa using List.all_eq_true.1 hall t hm)⟩)
    (by kernel_rfl)

end Go.Proofs.YtmddcbebaijjkaaDoor
