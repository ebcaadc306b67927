/- The walks of UnpackCodes and Decompress, of the program and of the reference. -/
import Derived.Test.YtibfkfinghcpaaaUnp
namespace Go.Proofs.Ytibfkfinghcpaaa
open Go.RowKit
set_option linter.unusedVariables false
set_option linter.unusedSimpArgs false

theorem Clip_own (a : Option Addr) (c : Nat) (xs : List Int) (lo : Nat) (w : World) (h : Own encI 3 w a c xs lo) : Calls Try.prog 62 #[.slice a xs.length c] w (Ret w (.slice a xs.length xs.length)) := by
  have h1 := h.rd.1
  have h2 := h.rd.2.1
  cases a with
  | some A => exact Clip_any A xs.length c w h1 h2
  | none =>
    obtain ⟨rfl, rfl⟩ : c = 0 ∧ xs = [] := by
      rcases h with ⟨_, h3, h4⟩ | ⟨b, cur, h3, _⟩
      · exact ⟨h3, h4⟩
      · cases h3
    go_enter Try.func62, Try.ntmps62
    go_wp2
    go_ret
    exact Ret.mk (by repeat (first | exact More.refl _ | apply More.plus | apply More.alloc | apply More.drew | apply More.drewN))

theorem own_nn {α : Type} {E : Enc α} {e : TypeId} {w : World} {a : Option Addr} {cap lo : Nat} {xs : List α} (h : Own E e w a cap xs lo) : a ≠ none ∨ xs = [] := by
  rcases h with ⟨_, _, h⟩ | ⟨b, cur, rfl, _⟩
  · exact .inr h
  · exact .inl (by simp)

/-- numbers that a call returns, clipped, with two numbers -/
def RetUc (w : World) (xs : List Int) (en u : Int) (e : Ending) (w' : World) : Prop := RetI w (fun a0 c0 => .tuple #[.slice a0 xs.length c0, .int .i64 en, .int .i64 u]) xs e w'

set_option maxRecDepth 100000 in
set_option maxHeartbeats 2000000 in
theorem implUnpackCodes_of (o l m : Int) (a : Option Addr) (cap : Nat) (ps : List Pr) (base last : Int) (s : ByteArray) (w : World) (hr : RdP w a cap ps) (O L M B : Int) (R : Rg) (u : Int) (hcl : R.C.length ≤ 1000000)
    (hU : ∀ (W : World) (a : Option Addr) (cap : Nat), RdP W a cap ps → Calls Try.prog 61 #[.agg #[.int .i64 o, .int .i64 l, .int .i64 m, .slice a ps.length cap, .int .i64 base, .int .i64 last], .string s] W (RetRu W O L M B R u)) :
    Calls Try.prog 14 #[.agg #[.int .i64 o, .int .i64 l, .int .i64 m, .slice a ps.length cap, .int .i64 base, .int .i64 last], .string s] w (RetUc w R.C R.e u) := by
  have HU := Lib.hid hU
  have HRP := Lib.hid hr
  clear hU hr
  go_enter Try.func14, Try.ntmps14
  go_wp2_with fail
  refine (HU.out _ _ _ (by repeat (first | exact HRP.out | apply rd_seq | apply Rd.plus | apply Rd.alloc | apply Rd.drew | apply Rd.drewN | refine rd_patch ?_ _ _ (by intro A hA; first | (cases hA; show _ ≠ _; omega) | (have := hal A hA; omega))))).mono ?_
  rintro e w1 ⟨pa, pc, ca, cc, da, dc, rfl, hoc, hod, x1, rfl⟩
  (try simp only [plus_plus] at hoc hod)
  have HOC := Lib.hid hoc
  have HOW := Lib.hid (hoc.wrt.clip (own_nn hoc))
  have HOD := Lib.hid hod
  clear hoc hod
  go_wp2_with fail
  refine wp_region_pt 8 (fun w' => ∃ y, w' = plus _ y) (Plan.quiet 0 (Plan.quiet 1 (Plan.quiet 3 (Plan.quiet 4 (Plan.quiet 5 (Plan.one 2 (Plan.quiet 6 (Plan.quiet 7 (Plan.one 8 Plan.done))))))))) (by kernel_rfl) (by kernel_rfl) (⟨_, drew_is_plus _⟩) ?_
  refine wpPt_val rfl rfl ?_
  apply Exists.intro
  refine ⟨fun w' hS => ?_, ?_⟩
  focus (obtain ⟨y3, rfl⟩ := hS; simp [go_sem, ↓IntWalk.iteOmega] <;> first | done | exact rfl | (rw [IntWalk.i64_in _ (by omega)]; exact rfl) | trace_state)
  refine wpPt_val rfl rfl ?_
  apply Exists.intro
  refine ⟨fun w' hS => ?_, ?_⟩
  focus (obtain ⟨y3, rfl⟩ := hS; simp [go_sem, ↓IntWalk.iteOmega] <;> first | done | exact rfl | (rw [IntWalk.i64_in _ (by omega)]; exact rfl) | trace_state)
  refine wpPt_val rfl rfl ?_
  apply Exists.intro
  refine ⟨fun w' hS => ?_, ?_⟩
  focus (obtain ⟨y3, rfl⟩ := hS; simp [go_sem, ↓IntWalk.iteOmega] <;> first | done | exact rfl | (rw [IntWalk.i64_in _ (by omega)]; exact rfl) | trace_state)
  refine wpPt_val rfl rfl ?_
  apply Exists.intro
  refine ⟨fun w' hS => ?_, ?_⟩
  focus (obtain ⟨y3, rfl⟩ := hS; simp [go_sem, ↓IntWalk.iteOmega] <;> first | done | exact rfl | (rw [IntWalk.i64_in _ (by omega)]; exact rfl) | trace_state)
  refine wpPt_val rfl rfl ?_
  apply Exists.intro
  refine ⟨fun w' hS => ?_, ?_⟩
  focus (obtain ⟨y3, rfl⟩ := hS; simp [go_sem, ↓IntWalk.iteOmega] <;> first | done | exact rfl | (rw [IntWalk.i64_in _ (by omega)]; exact rfl) | trace_state)
  refine wpPt_one rfl rfl (fun K hK => ?_)
  go_simp
  refine (Clip_own ca cc R.C (w.alloc (.cells #[.int .i64 o, .int .i64 l, .int .i64 m, .slice a ps.length cap, .int .i64 base, .int .i64 last] 27)).heap.size _ (by repeat (first | (with_reducible exact HOC.out) | (with_reducible apply own_seq) | (with_reducible apply own_draw) | (with_reducible apply Own.plus) | (with_reducible apply Own.alloc) | (with_reducible apply Own.drew) | (with_reducible apply Own.drewN)))).mono ?_
  rintro e w' ⟨rfl, x2, rfl⟩
  refine hK _ _ (fun hkn => (by repeat (first | exact More.refl _ | (with_reducible apply more_seq) | (with_reducible apply more_draw) | apply More.plus | apply More.alloc | apply More.drew))) ?_
  clear hK K
  refine wpPt_val rfl rfl ?_
  apply Exists.intro
  refine ⟨fun w' hS => ?_, ?_⟩
  focus (obtain ⟨y3, rfl⟩ := hS; simp [go_sem, ↓IntWalk.iteOmega] <;> first | done | exact rfl | (rw [IntWalk.i64_in _ (by omega)]; exact rfl) | trace_state)
  refine wpPt_val rfl rfl ?_
  apply Exists.intro
  refine ⟨fun w' hS => ?_, ?_⟩
  focus (obtain ⟨y3, rfl⟩ := hS; simp [go_sem, ↓IntWalk.iteOmega] <;> first | done | exact rfl | (rw [IntWalk.i64_in _ (by omega)]; exact rfl) | trace_state)
  refine wpPt_one rfl rfl (fun K hK => ?_)
  go_simp
  refine hK _ _ (fun hkn => absurd hkn (by decide)) ?_
  clear hK K
  refine NoPanic.normal ?_
  go_wp2_with fail
  refine bodyPost_ret (v := .tuple #[.slice ca R.C.length R.C.length, .int .i64 R.e, .int .i64 u]) (by simp [results, Try.results14, go_sem, ↓IntWalk.iteOmega]) rfl ?_
  exact ⟨ca, R.C.length, rfl, Wrt.lower (by repeat (first | (with_reducible exact HOW.out) | (with_reducible apply wrt_seq) | (with_reducible apply wrt_draw) | (with_reducible apply Wrt.plus) | (with_reducible apply Wrt.alloc) | (with_reducible apply Wrt.drew))) (by simp <;> omega), (by repeat (first | exact More.refl _ | apply More.plus | apply More.alloc | apply More.drew | apply More.drewN))⟩

set_option maxRecDepth 100000 in
set_option maxHeartbeats 2000000 in
theorem implDecompress_of (o l m : Int) (a : Option Addr) (cap : Nat) (ps : List Pr) (base last : Int) (s : ByteArray) (w : World) (hr : RdP w a cap ps) (O L M B : Int) (R : Rg) (u : Int)
    (hU : ∀ (W : World) (a : Option Addr) (cap : Nat), RdP W a cap ps → Calls Try.prog 61 #[.agg #[.int .i64 o, .int .i64 l, .int .i64 m, .slice a ps.length cap, .int .i64 base, .int .i64 last], .string s] W (RetRu W O L M B R u)) :
    Calls Try.prog 23 #[.agg #[.int .i64 o, .int .i64 l, .int .i64 m, .slice a ps.length cap, .int .i64 base, .int .i64 last], .string s] w (Ret w (.tuple #[.string (bstr R.D), .int .i64 R.e, .int .i64 u])) := by
  have HU := Lib.hid hU
  have HRP := Lib.hid hr
  clear hU hr
  go_enter Try.func23, Try.ntmps23
  go_wp2_with fail
  refine (HU.out _ _ _ (by repeat (first | exact HRP.out | apply rd_seq | apply Rd.plus | apply Rd.alloc | apply Rd.drew | apply Rd.drewN | refine rd_patch ?_ _ _ (by intro A hA; first | (cases hA; show _ ≠ _; omega) | (have := hal A hA; omega))))).mono ?_
  rintro e w1 ⟨pa, pc, ca, cc, da, dc, rfl, hoc, hod, x1, rfl⟩
  (try simp only [plus_plus] at hoc hod)
  have HOC := Lib.hid hoc
  have HOW := Lib.hid (hoc.wrt.clip (own_nn hoc))
  have HOD := Lib.hid hod
  clear hoc hod
  go_wp2_with fail
  have hcv := fun (W : World) (h : Own encB 5 W da dc R.D (w.alloc (.cells #[.int .i64 o, .int .i64 l, .int .i64 m, .slice a ps.length cap, .int .i64 base, .int .i64 last] 27)).heap.size) => run_str_own (P := Try.prog) (W := W) Try.underlying22 Try.underlying5 Try.underlying9 h
  refine wp_region_pt 8 (fun w' => ∃ y, w' = plus _ y) (Plan.quiet 0 (Plan.quiet 1 (Plan.quiet 2 (Plan.quiet 3 (Plan.quiet 4 (Plan.quiet 5 (Plan.quiet 6 (Plan.quiet 7 (Plan.one 8 Plan.done))))))))) (by kernel_rfl) (by kernel_rfl) (⟨_, drew_is_plus _⟩) ?_
  refine wpPt_val rfl rfl ?_
  apply Exists.intro
  refine ⟨fun w' hS => ?_, ?_⟩
  focus (obtain ⟨y3, rfl⟩ := hS; have hc2 := hcv _ (HOD.out.alloc (.cells #[.int .i64 O, .int .i64 L, .int .i64 M, .slice pa R.ps.length pc, .int .i64 B, .int .i64 R.last, .slice ca R.C.length cc, .slice da R.D.length dc, .int .i64 R.e, .int .i64 R.p] 86) |>.plus y3); simp [go_sem, ↓IntWalk.iteOmega, hc2] <;> first | done | exact rfl | (rw [IntWalk.i64_in _ (by omega)]; exact rfl) | trace_state)
  refine wpPt_val rfl rfl ?_
  apply Exists.intro
  refine ⟨fun w' hS => ?_, ?_⟩
  focus (obtain ⟨y3, rfl⟩ := hS; have hc2 := hcv _ (HOD.out.alloc (.cells #[.int .i64 O, .int .i64 L, .int .i64 M, .slice pa R.ps.length pc, .int .i64 B, .int .i64 R.last, .slice ca R.C.length cc, .slice da R.D.length dc, .int .i64 R.e, .int .i64 R.p] 86) |>.plus y3); simp [go_sem, ↓IntWalk.iteOmega, hc2] <;> first | done | exact rfl | (rw [IntWalk.i64_in _ (by omega)]; exact rfl) | trace_state)
  refine wpPt_val rfl rfl ?_
  apply Exists.intro
  refine ⟨fun w' hS => ?_, ?_⟩
  focus (obtain ⟨y3, rfl⟩ := hS; have hc2 := hcv _ (HOD.out.alloc (.cells #[.int .i64 O, .int .i64 L, .int .i64 M, .slice pa R.ps.length pc, .int .i64 B, .int .i64 R.last, .slice ca R.C.length cc, .slice da R.D.length dc, .int .i64 R.e, .int .i64 R.p] 86) |>.plus y3); simp [go_sem, ↓IntWalk.iteOmega, hc2] <;> first | done | exact rfl | (rw [IntWalk.i64_in _ (by omega)]; exact rfl) | trace_state)
  refine wpPt_val rfl rfl ?_
  apply Exists.intro
  refine ⟨fun w' hS => ?_, ?_⟩
  focus (obtain ⟨y3, rfl⟩ := hS; have hc2 := hcv _ (HOD.out.alloc (.cells #[.int .i64 O, .int .i64 L, .int .i64 M, .slice pa R.ps.length pc, .int .i64 B, .int .i64 R.last, .slice ca R.C.length cc, .slice da R.D.length dc, .int .i64 R.e, .int .i64 R.p] 86) |>.plus y3); simp [go_sem, ↓IntWalk.iteOmega, hc2] <;> first | done | exact rfl | (rw [IntWalk.i64_in _ (by omega)]; exact rfl) | trace_state)
  refine wpPt_val rfl rfl ?_
  apply Exists.intro
  refine ⟨fun w' hS => ?_, ?_⟩
  focus (obtain ⟨y3, rfl⟩ := hS; have hc2 := hcv _ (HOD.out.alloc (.cells #[.int .i64 O, .int .i64 L, .int .i64 M, .slice pa R.ps.length pc, .int .i64 B, .int .i64 R.last, .slice ca R.C.length cc, .slice da R.D.length dc, .int .i64 R.e, .int .i64 R.p] 86) |>.plus y3); simp [go_sem, ↓IntWalk.iteOmega, hc2] <;> first | done | exact rfl | (rw [IntWalk.i64_in _ (by omega)]; exact rfl) | trace_state)
  refine wpPt_val rfl rfl ?_
  apply Exists.intro
  refine ⟨fun w' hS => ?_, ?_⟩
  focus (obtain ⟨y3, rfl⟩ := hS; have hc2 := hcv _ (HOD.out.alloc (.cells #[.int .i64 O, .int .i64 L, .int .i64 M, .slice pa R.ps.length pc, .int .i64 B, .int .i64 R.last, .slice ca R.C.length cc, .slice da R.D.length dc, .int .i64 R.e, .int .i64 R.p] 86) |>.plus y3); simp [go_sem, ↓IntWalk.iteOmega, hc2] <;> first | done | exact rfl | (rw [IntWalk.i64_in _ (by omega)]; exact rfl) | trace_state)
  refine wpPt_val rfl rfl ?_
  apply Exists.intro
  refine ⟨fun w' hS => ?_, ?_⟩
  focus (obtain ⟨y3, rfl⟩ := hS; have hc2 := hcv _ (HOD.out.alloc (.cells #[.int .i64 O, .int .i64 L, .int .i64 M, .slice pa R.ps.length pc, .int .i64 B, .int .i64 R.last, .slice ca R.C.length cc, .slice da R.D.length dc, .int .i64 R.e, .int .i64 R.p] 86) |>.plus y3); simp [go_sem, ↓IntWalk.iteOmega, hc2] <;> first | done | exact rfl | (rw [IntWalk.i64_in _ (by omega)]; exact rfl) | trace_state)
  refine wpPt_val rfl rfl ?_
  apply Exists.intro
  refine ⟨fun w' hS => ?_, ?_⟩
  focus (obtain ⟨y3, rfl⟩ := hS; have hc2 := hcv _ (HOD.out.alloc (.cells #[.int .i64 O, .int .i64 L, .int .i64 M, .slice pa R.ps.length pc, .int .i64 B, .int .i64 R.last, .slice ca R.C.length cc, .slice da R.D.length dc, .int .i64 R.e, .int .i64 R.p] 86) |>.plus y3); simp [go_sem, ↓IntWalk.iteOmega, hc2] <;> first | done | exact rfl | (rw [IntWalk.i64_in _ (by omega)]; exact rfl) | trace_state)
  refine wpPt_one rfl rfl (fun K hK => ?_)
  go_simp
  refine hK _ _ (fun hkn => absurd hkn (by decide)) ?_
  clear hK K
  refine NoPanic.normal ?_
  go_wp2_with fail
  refine bodyPost_ret (v := .tuple #[.string (bstr R.D), .int .i64 R.e, .int .i64 u]) (by simp [results, Try.results23, go_sem, ↓IntWalk.iteOmega]) rfl ?_
  exact Ret.mk (by repeat (first | exact More.refl _ | apply More.plus | apply More.alloc | apply More.drew | apply More.drewN))

theorem implUnpackCodes_no (o l m : Int) (a : Option Addr) (cap : Nat) (ps : List Pr) (base last : Int) (s : ByteArray) (w : World) (hr : RdP w a cap ps) (hm : s.size ≤ maxLen) (h : kvb o l m ps base last = false ∨ 4000 < s.size) :
    Calls Try.prog 14 #[.agg #[.int .i64 o, .int .i64 l, .int .i64 m, .slice a ps.length cap, .int .i64 base, .int .i64 last], .string s] w (RetUc w [] 4 0) :=
  implUnpackCodes_of o l m a cap ps base last s w hr 0 0 0 0 noRg 0 (by simp [noRg]) (fun W a cap hr => unpack_no o l m a cap ps base last s W hr hm h)

theorem implDecompress_no (o l m : Int) (a : Option Addr) (cap : Nat) (ps : List Pr) (base last : Int) (s : ByteArray) (w : World) (hr : RdP w a cap ps) (hm : s.size ≤ maxLen) (h : kvb o l m ps base last = false ∨ 4000 < s.size) :
    Calls Try.prog 23 #[.agg #[.int .i64 o, .int .i64 l, .int .i64 m, .slice a ps.length cap, .int .i64 base, .int .i64 last], .string s] w (Ret w (.tuple #[.string ⟨#[]⟩, .int .i64 4, .int .i64 0])) :=
  implDecompress_of o l m a cap ps base last s w hr 0 0 0 0 noRg 0 (fun W a cap hr => unpack_no o l m a cap ps base last s W hr hm h)

/-- what is read of a stream -/
noncomputable def unR (o l m : Int) (b : Nat) (ps : List Pr) (last : Int) (s : ByteArray) : Rg := rdc o l m b 0 0 (unpL o s.data.toList) (8 * s.size + 1) ps last 0 [] []

theorem unR_facts {o l m : Int} {b : Nat} {ps : List Pr} {last : Int} {s : ByteArray} (hk : kvb o l m ps (b : Int) last = true) :
    (∃ W', wlk l m b (unR o l m b ps last s).C ps last [] [] = some (W', (unR o l m b ps last s).D)) ∧ (unR o l m b ps last s).C.length ≤ 3100 ∧ (unR o l m b ps last s).D.length ≤ 2000 ∧ (unR o l m b ps last s).p ≤ 8 * s.size := by
  have h := rdc_wlk (o := o) (l := l) (m := m) (b := b) (sz := 0) (ct := 0) (bits := unpL o s.data.toList) (ps0 := ps) (last0 := last) (8 * s.size + 1) ps last 0 [] [] [] (kvb_iff.1 hk) (fun cs => by simp) (by simp) (by simp)
  have h2 := rdc_p (o := o) (l := l) (m := m) (b := b) (sz := 0) (ct := 0) (bits := unpL o s.data.toList) (8 * s.size + 1) ps last 0 [] [] (by omega)
  rw [unpL_len, bytes_len] at h2
  obtain ⟨h1, h3, h4, _⟩ := h
  unfold unR
  exact ⟨h1, by omega, by omega, h2⟩

theorem rdc_e {o l m : Int} {b sz ct : Nat} {bits : List UInt8} : ∀ (f : Nat) (ps : List Pr) (last : Int) (p : Nat) (C : List Int) (D : List UInt8), 0 ≤ (rdc o l m b sz ct bits f ps last p C D).e ∧ (rdc o l m b sz ct bits f ps last p C D).e ≤ 3
  | 0, ps, last, p, C, D => by simp [rdc]
  | f + 1, ps, last, p, C, D => by
    unfold rdc
    repeat' split
    all_goals first | exact rdc_e f _ _ _ _ _ | (refine ⟨?_, ?_⟩ <;> simp)

theorem implUnpackCodes_yes (o l m : Int) (a : Option Addr) (cap : Nat) (ps : List Pr) (b : Nat) (last : Int) (s : ByteArray) (w : World) (hr : RdP w a cap ps) (hk : kvb o l m ps (b : Int) last = true) (hsz : s.size ≤ 4000) (R : Rg) (hR : unR o l m b ps last s = R) :
    Calls Try.prog 14 #[.agg #[.int .i64 o, .int .i64 l, .int .i64 m, .slice a ps.length cap, .int .i64 b, .int .i64 last], .string s] w (RetUc w R.C R.e (usedV s.size R)) :=
  implUnpackCodes_of o l m a cap ps b last s w hr o l m b R (usedV s.size R) (by have := (unR_facts (s := s) hk).2.1; rw [hR] at this; omega) (fun W a cap hr => unpack_yes o l m a cap ps b last s W hr hk hsz R hR)

theorem implDecompress_yes (o l m : Int) (a : Option Addr) (cap : Nat) (ps : List Pr) (b : Nat) (last : Int) (s : ByteArray) (w : World) (hr : RdP w a cap ps) (hk : kvb o l m ps (b : Int) last = true) (hsz : s.size ≤ 4000) (R : Rg) (hR : unR o l m b ps last s = R) :
    Calls Try.prog 23 #[.agg #[.int .i64 o, .int .i64 l, .int .i64 m, .slice a ps.length cap, .int .i64 b, .int .i64 last], .string s] w (Ret w (.tuple #[.string (bstr R.D), .int .i64 R.e, .int .i64 (usedV s.size R)])) :=
  implDecompress_of o l m a cap ps b last s w hr o l m b R (usedV s.size R) (fun W a cap hr => unpack_yes o l m a cap ps b last s W hr hk hsz R hR)

end Go.Proofs.Ytibfkfinghcpaaa
