/- Lemmas and walks, part Gs. -/
import Derived.Test.YtibfkfinghcpaaaGrp
import Derived.Test.YtibfkfinghcpaaaTbn
import Derived.Test.YtibfkfinghcpaaaGf
import Derived.Test.YtibfkfinghcpaaaWri
import Derived.Test.YtibfkfinghcpaaaLkn
import Derived.Test.YtibfkfinghcpaaaWki

/- The walk of impl.greedy: codes of the longest words. -/
namespace Go.Proofs.Ytibfkfinghcpaaa
open Go.RowKit
set_option linter.unusedVariables false
set_option linter.unusedSimpArgs false

/-- integers of the call's own -/
def RetIs (w : World) (xs : List Int) (e : Ending) (w' : World) : Prop :=
  ∃ a c, e = .returned (.slice a xs.length c) ∧ Own encI 3 w' a c xs w.heap.size ∧ ∃ x, w' = plus w x

theorem below_size {B : Nat} {w w' : World} (h : Below B w w') : w.heap.size ≤ w'.heap.size := h.size

end Go.Proofs.Ytibfkfinghcpaaa

/- The walk of spec.l2Greedy: codes of the longest words. -/
namespace Go.Proofs.Ytibfkfinghcpaaa
open Go.RowKit
set_option linter.unusedVariables false
set_option linter.unusedSimpArgs false

/-- what is known in block B, and integers beside it -/
def SB (w : World) (B : Nat) (o l m : Int) (ps : List Pr) (base last : Int) (A : Option Addr) (c : Nat) (xs : List Int) : Prop :=
  ∃ pa pc, w.heap[B]? = some (.cells #[.int .i64 o, .int .i64 l, .int .i64 m, .slice pa ps.length pc, .int .i64 base, .int .i64 last] 27 (0, 0)) ∧ Own encP 137 w pa pc ps (B + 1) ∧ Own encI 3 w A c xs (B + 1) ∧ ∀ X, A = some X → Off pa X.block

section
variable {w w' : World} {B : Nat} {o l m : Int} {ps ps' : List Pr} {base last last' : Int} {A : Option Addr} {c : Nat} {xs : List Int}

theorem SB.plus (h : SB w B o l m ps base last A c xs) (x : Ext) : SB (Go.Proofs.Ytibfkfinghcpaaa.plus w x) B o l m ps base last A c xs := by
  obtain ⟨pa, pc, h1, h2, h3, h4⟩ := h
  exact ⟨pa, pc, blk_plus h1 _, h2.plus _, h3.plus _, h4⟩

theorem SB.alloc (h : SB w B o l m ps base last A c xs) (ob : Obj) : SB (w.alloc ob) B o l m ps base last A c xs := by rw [alloc_plus]; exact h.plus _

theorem SB.drew (h : SB w B o l m ps base last A c xs) : SB w.drew B o l m ps base last A c xs := by rw [drew_is_plus]; exact h.plus _

theorem sb_seq {x y : Ext} (h : SB (Go.Proofs.Ytibfkfinghcpaaa.plus w x) B o l m ps base last A c xs) : SB (Go.Proofs.Ytibfkfinghcpaaa.plus w (x.seq y)) B o l m ps base last A c xs := by rw [← plus_plus]; exact h.plus y

theorem SB.known (h : SB w B o l m ps base last A c xs) : ∃ pa pc, w.heap[B]? = some (.cells #[.int .i64 o, .int .i64 l, .int .i64 m, .slice pa ps.length pc, .int .i64 base, .int .i64 last] 27 (0, 0)) ∧ RdP w pa pc ps := by
  obtain ⟨pa, pc, h1, h2, h3, h4⟩ := h
  exact ⟨pa, pc, h1, h2.rd⟩

theorem SB.ints (h : SB w B o l m ps base last A c xs) : Own encI 3 w A c xs (B + 1) := by
  obtain ⟨pa, pc, h1, h2, h3, h4⟩ := h
  exact h3

/-- the integers have grown -/
theorem SB.grew {A' : Option Addr} {c' : Nat} {ys : List Int} (h : SB w B o l m ps base last A c xs) (hown : Own encI 3 w' A' c' ys (B + 1)) (hg : Grew A w w') (hx : Nxt A A' w.heap.size) : SB w' B o l m ps base last A' c' ys := by
  obtain ⟨pa, pc, h1, h2, h3, h4⟩ := h
  refine ⟨pa, pc, ?_, h2.of_block fun X hX hl => hg.block _ hl fun Y hY e => h4 Y hY X hX e.symm, hown, fun X hX Y hY e => ?_⟩
  · rw [hg.block B (Array.getElem?_eq_some_iff.1 h1).1 fun X hX => by have := (own_lt h3 X hX).1; omega]; exact h1
  · rcases hx X hX with ⟨Z, hZ, he⟩ | he
    · exact h4 Z hZ Y hY (by omega)
    · have := (own_lt h2 Y hY).2; omega

/-- something else is known: its pairs are new -/
theorem SB.put {y : Ext} {pa2 : Option Addr} {pc2 : Nat} (h : SB w B o l m ps base last A c xs) (hown : Own encP 137 (Go.Proofs.Ytibfkfinghcpaaa.plus w y) pa2 pc2 ps' w.heap.size) :
    SB (Go.Proofs.Ytibfkfinghcpaaa.plus (patch w B (.cells #[.int .i64 o, .int .i64 l, .int .i64 m, .slice pa2 ps'.length pc2, .int .i64 base, .int .i64 last'] 27)) y) B o l m ps' base last' A c xs := by
  obtain ⟨pa, pc, h1, h2, h3, h4⟩ := h
  have hB := (Array.getElem?_eq_some_iff.1 h1).1
  refine ⟨pa2, pc2, blk_plus (patch_at _ _ _ hB) _, (own_swap hown (by simp) (Nat.le_refl _)).lower (by omega), (own_patch h3 fun X hX => by have := (own_lt h3 X hX).1; omega).plus _, fun X hX Y hY e => ?_⟩
  have := (own_lt h3 X hX).2
  have := (own_lt hown Y hY).1
  omega

end

theorem row1 (x : Int) : Row encI #[.int .i64 x] [x] :=
  row_of encI _ _ fun i y hx j hj => by
    obtain rfl : j = 0 := by have : j < 1 := hj; omega
    match i, hx with
    | 0, hx => simp at hx; subst hx; rfl

/-- the state of the loop -/
def SSt (o l m : Int) (b : Nat) (G : List Int) (w0 : World) (A : Option Addr) (n c : Nat) (x : ByteArray) (wr : World) : Prop :=
  ∃ (ps : List Pr) (last : Int) (xs : List Int) (f : Nat), n = xs.length ∧ SB wr w0.heap.size o l m ps (b : Int) last A c xs ∧ KV o l m ps (b : Int) last ∧ dfB o l m x = true ∧
    x.size ≤ f ∧ xs.length + 2 * x.size ≤ 5000 ∧ xs ++ gre l m b f ps last x.data.toList = G ∧ (x.size ≠ 0 → full l m ps.length b = false) ∧ Below w0.heap.size w0 wr

end Go.Proofs.Ytibfkfinghcpaaa

/- The walks of GreedyCodes, of the program and of the reference. -/
namespace Go.Proofs.Ytibfkfinghcpaaa
open Go.RowKit
set_option linter.unusedVariables false
set_option linter.unusedSimpArgs false

theorem Clip_any (A : Addr) (n c : Nat) (w : World) (hn : n ≤ c) (hc : c ≤ 9223372036854775807) : Calls Try.prog 62 #[.slice (some A) n c] w (Ret w (.slice (some A) n n)) := by
  go_enter Try.func62, Try.ntmps62
  go_wp2
  go_ret
  exact Ret.mk (by repeat (first | exact More.refl _ | apply More.plus | apply More.alloc | apply More.drew | apply More.drewN))

theorem wrt_empty {e : TypeId} {w : World} {b lo : Nat} (hb : b = w.heap.size) (hlo : lo ≤ b) : Wrt encI e (w.alloc (.cells #[] e)) (some ⟨b, 0, none⟩) 0 [] lo :=
  .inr ⟨b, #[], rfl, hlo, by subst hb; rw [push_at, if_neg (by omega), if_pos rfl], by simp, fun j u hj => by simp [flat] at hj, Nat.le_refl _, by omega⟩

theorem greL_pos (l m : Int) (b : Nat) (ps : List Pr) (d : List UInt8) : 0 < (greL l m b ps d).length := by unfold greL; simp

theorem greL_len {o l m base last : Int} {b : Nat} {ps : List Pr} {s : ByteArray} (hkv : KV o l m ps base last) (hb : base = b) (hd : dfB o l m s = true) : (greL l m b ps s.data.toList).length ≤ 5000 := by
  subst hb
  have h := gre_len (o := o) (b := b) s.data.toList.length (ps.take b) (-1) s.data.toList ⟨by simpa using hkv.cleared, by rw [bstr_bytes]; exact hd⟩
  unfold dfB at hd
  simp only [Bool.and_eq_true, decide_eq_true_eq] at hd
  have := hd.2.1
  rw [bytes_len] at h
  unfold greL
  simp
  omega

end Go.Proofs.Ytibfkfinghcpaaa

/- soInts of equal lists; CodesData. -/
namespace Go.Proofs.Ytibfkfinghcpaaa
open Go.RowKit
set_option linter.unusedVariables false
set_option linter.unusedSimpArgs false

set_option maxRecDepth 100000 in
set_option maxHeartbeats 2000000 in
theorem soInts_yes (a a' : Option Addr) (cap cap' : Nat) (is : List Int) (w : World) (hr : Rd encI w a cap is) (hr' : Rd encI w a' cap' is) :
    Calls Try.prog 16 #[.slice a is.length cap, .slice a' is.length cap'] w (Ret w (.bool true)) := by
  have HA := Lib.hid (rdI_open hr).2.2
  have HB := Lib.hid (rdI_open hr').2.2
  have z1 := hr.1
  have z2 := hr.2.1
  have z3 := hr'.1
  have z4 := hr'.2.1
  clear hr hr'
  go_enter Try.func16, Try.ntmps16
  go_wp2_with fail
  go_loopw [5] (fun i wr => ∃ (k : Nat) (x : Ext), k ≤ is.length ∧ i = .int .i64 k ∧ wr = plus w x) (fun i _ => is.length - (intOf i).toNat)
  case atStart => exact ⟨0, _, Nat.zero_le _, rfl, (plus_self _).symm⟩
  case round =>
    obtain ⟨k, x, hk, rfl, rfl⟩ := hrel
    rcases dec (k < is.length) with ⟨hlt, blt⟩ | ⟨hlt, blt⟩
    · obtain ⟨p, hp⟩ : ∃ p, is[k]? = some p := ⟨is[k], List.getElem?_eq_getElem hlt⟩
      rcases HA.out with h9 | ⟨b, off, rfl, hb, hc⟩
      · exact absurd hlt (by omega)
      rcases HB.out with h9 | ⟨b', off', rfl, hb', hc'⟩
      · exact absurd hlt (by omega)
      have c1 := hc k p hp
      have d1 := hc' k p hp
      clear hc hc' hp
      go_wp2_with fail
      refine wp_region_pu 8 (fun w' => ∃ y, w' = plus _ y) (Plan.quiet 0 (Plan.quiet 1 (Plan.quiet 2 (Plan.quiet 3 (Plan.quiet 4 (Plan.quiet 5 (Plan.quiet 6 (Plan.quiet 7 (Plan.one 8 Plan.done))))))))) (by kernel_rfl) (by kernel_rfl) (⟨_, drew_is_plus _⟩) ?_
      refine wpPt_val rfl rfl ?_
      apply Exists.intro
      refine ⟨fun w' hS => ?_, ?_⟩
      focus (obtain ⟨y3, rfl⟩ := hS; simp [go_sem, ↓IntWalk.iteOmega, c1, d1] <;> first | done | exact rfl | (rw [IntWalk.i64_in _ (by omega)]; exact rfl) | trace_state)
      refine wpPt_val rfl rfl ?_
      apply Exists.intro
      refine ⟨fun w' hS => ?_, ?_⟩
      focus (obtain ⟨y3, rfl⟩ := hS; simp [go_sem, ↓IntWalk.iteOmega, c1, d1] <;> first | done | exact rfl | (rw [IntWalk.i64_in _ (by omega)]; exact rfl) | trace_state)
      refine wpPt_val rfl rfl ?_
      apply Exists.intro
      refine ⟨fun w' hS => ?_, ?_⟩
      focus (obtain ⟨y3, rfl⟩ := hS; simp [go_sem, ↓IntWalk.iteOmega, c1, d1] <;> first | done | exact rfl | (rw [IntWalk.i64_in _ (by omega)]; exact rfl) | trace_state)
      refine wpPt_val rfl rfl ?_
      apply Exists.intro
      refine ⟨fun w' hS => ?_, ?_⟩
      focus (obtain ⟨y3, rfl⟩ := hS; simp [go_sem, ↓IntWalk.iteOmega, c1, d1] <;> first | done | exact rfl | (rw [IntWalk.i64_in _ (by omega)]; exact rfl) | trace_state)
      refine wpPt_val rfl rfl ?_
      apply Exists.intro
      refine ⟨fun w' hS => ?_, ?_⟩
      focus (obtain ⟨y3, rfl⟩ := hS; simp [go_sem, ↓IntWalk.iteOmega, c1, d1] <;> first | done | exact rfl | (rw [IntWalk.i64_in _ (by omega)]; exact rfl) | trace_state)
      refine wpPt_val rfl rfl ?_
      apply Exists.intro
      refine ⟨fun w' hS => ?_, ?_⟩
      focus (obtain ⟨y3, rfl⟩ := hS; simp [go_sem, ↓IntWalk.iteOmega, c1, d1] <;> first | done | exact rfl | (rw [IntWalk.i64_in _ (by omega)]; exact rfl) | trace_state)
      refine wpPt_val rfl rfl ?_
      apply Exists.intro
      refine ⟨fun w' hS => ?_, ?_⟩
      focus (obtain ⟨y3, rfl⟩ := hS; simp [go_sem, ↓IntWalk.iteOmega, c1, d1] <;> first | done | exact rfl | (rw [IntWalk.i64_in _ (by omega)]; exact rfl) | trace_state)
      refine wpPt_val rfl rfl ?_
      apply Exists.intro
      refine ⟨fun w' hS => ?_, ?_⟩
      focus (obtain ⟨y3, rfl⟩ := hS; simp [go_sem, ↓IntWalk.iteOmega, c1, d1] <;> first | done | exact rfl | (rw [IntWalk.i64_in _ (by omega)]; exact rfl) | trace_state)
      refine wpPt_one rfl rfl (fun K hK => ?_)
      go_simp
      refine hK _ _ (fun hkn => absurd hkn (by decide)) ?_
      clear hK K
      refine NoPanic.normal ?_
      go_wp2_with fail
      go_roundw
      case rel => exact ⟨k + 1, _, by omega, by go_num, rfl⟩
      case measure => simp [intOf]; omega
    · obtain rfl : k = is.length := by omega
      go_wp2_with fail
      go_ret
      exact Ret.mk (by repeat (first | exact More.refl _ | apply More.plus | apply More.alloc | apply More.drew | apply More.drewN))

set_option maxRecDepth 100000 in
set_option maxHeartbeats 2000000 in
theorem implCodesData_yes (o l m : Int) (a : Option Addr) (cap : Nat) (ps : List Pr) (base last : Int) (ia : Option Addr) (icap : Nat) (is : List Int) (w : World) (hr : RdP w a cap ps) (hri : Rd encI w ia icap is) (hk : kvb o l m ps base last = true) (hil : is.length ≤ 3100) (b : Nat) (hb : base = b) (W : List Int) (D : List UInt8) (hR : wlk l m b is ps last [] [] = some (W, D)) :
    Calls Try.prog 25 #[.agg #[.int .i64 o, .int .i64 l, .int .i64 m, .slice a ps.length cap, .int .i64 base, .int .i64 last], .slice ia is.length icap] w (Ret w (.tuple #[.string (bstr D), .bool true])) := by
  subst hb
  have HW := Lib.hid (fun (V : World) (h1 : RdP V a cap ps) (h2 : Rd encI V ia icap is) => walkCodes_yes o l m a cap ps b last ia icap is V h1 h2 hk hil b rfl _ hR)
  have HR := Lib.hid (show Rd encP w a cap ps from hr)
  have HI := Lib.hid hri
  clear hr hri hk hR
  go_enter Try.func25, Try.ntmps25
  go_wp2_with fail
  refine (HW.out _ (by (try unfold RdP); repeat (first | (with_reducible exact HR.out) | (with_reducible apply rd_seq) | (with_reducible apply Rd.plus) | (with_reducible apply Rd.alloc) | (with_reducible apply Rd.drew) | (with_reducible apply Rd.drewN))) (by (try unfold RdP); repeat (first | (with_reducible exact HI.out) | (with_reducible apply rd_seq) | (with_reducible apply Rd.plus) | (with_reducible apply Rd.alloc) | (with_reducible apply Rd.drew) | (with_reducible apply Rd.drewN)))).mono ?_
  rintro e w' ⟨wa, wc, rfl, hown, x1, rfl⟩
  clear hown
  go_wp2_with fail
  go_ret2
  exact Ret.mk (by repeat (first | exact More.refl _ | apply More.plus | apply More.alloc | apply More.drew | apply More.drewN))

end Go.Proofs.Ytibfkfinghcpaaa
