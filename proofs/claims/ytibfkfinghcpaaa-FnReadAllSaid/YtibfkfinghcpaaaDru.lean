/- Draws: DrawUnpackCodes and what only calls it. -/
import Derived.Test.YtibfkfinghcpaaaGq

import Derived.Test.YtibfkfinghcpaaaDrd
namespace Go.Proofs.Ytibfkfinghcpaaa
open Go.RowKit
set_option linter.unusedVariables false
set_option linter.unusedSimpArgs false

/-- what is known in block D, a block for the result, beside a source -/
structure KD (w wr : World) (D B n : Nat) (o l m : Int) (b : Nat) (pa : Option Addr) (pc : Nat) (ps : List Pr) (last : Int) : Prop where
  res : wr.heap[w.heap.size]? = some (.cells #[.int .i64 0, .int .i64 0, .int .i64 0, .slice none 0 0, .int .i64 0, .int .i64 0] 27 (0, 0))
  blk : wr.heap[D]? = some (.cells #[.int .i64 o, .int .i64 l, .int .i64 m, .slice pa ps.length pc, .int .i64 b, .int .i64 last] 27 (0, 0))
  rd : RdP wr pa pc ps
  off : ∀ Y, pa = some Y → Y.block ≠ B ∧ w.heap.size < Y.block
  src : Dsrc wr B n
  bel : Below w.heap.size w wr
  low : w.heap.size < B ∧ B < D

section
variable {w wr w' : World} {D B n n' : Nat} {o l m : Int} {b : Nat} {pa : Option Addr} {pc : Nat} {ps : List Pr} {last : Int}

theorem KD.lt (h : KD w wr D B n o l m b pa pc ps last) : w.heap.size < wr.heap.size ∧ D < wr.heap.size := ⟨(Array.getElem?_eq_some_iff.1 h.res).1, (Array.getElem?_eq_some_iff.1 h.blk).1⟩

theorem KD.draw (h : KD w wr D B n o l m b pa pc ps last) (hd : Drn wr B n' w') : KD w w' D B n' o l m b pa pc ps last := by
  have hg := hd.grew
  have hlow := h.low
  have hlt := h.lt
  exact ⟨blk_grew hg h.res (fun X hX e => by cases hX; simp at e; omega), blk_grew hg h.blk (fun X hX e => by cases hX; simp at e; omega), rd_grew h.rd hg (fun X Y hX hY => by cases hX; exact (h.off Y hY).1.symm), h.off, hd.1, h.bel.trans (hg.below (B := w.heap.size) (by omega) (fun X hX => by cases hX; simp; omega)), hlow⟩

theorem KD.more (h : KD w wr D B n o l m b pa pc ps last) (hm : More wr w') : KD w w' D B n o l m b pa pc ps last := by
  obtain ⟨x, rfl⟩ := hm
  have hlt := h.lt
  exact ⟨blk_plus h.res x, blk_plus h.blk x, Rd.plus h.rd x, h.off, h.src.plus x, below_plus h.bel (by omega) x, h.low⟩

end

theorem KD.mono {w wr : World} {D B n n2 : Nat} {o l m : Int} {b : Nat} {pa : Option Addr} {pc : Nat} {ps : List Pr} {last : Int} (h : KD w wr D B n o l m b pa pc ps last) (hn : n ≤ n2) : KD w wr D B n2 o l m b pa pc ps last :=
  ⟨h.res, h.blk, h.rd, h.off, h.src.mono hn, h.bel, h.low⟩

theorem wp_nm2 {P : Program} {c : Code} {Q : Exit → Act → World → Prop} {a : Act} {W : World} (F : World → Prop) (hF : F W) (h : ∀ X, F X → c.wp P Q a X) : c.wp P Q a W := h W hF

theorem drn_ds {w w' : World} {B n : Nat} (hd : Dsrc w' B n) (hg : Grew (some ⟨B, 0, none⟩) w w') (hB : B < w.heap.size) : Drn w B n w' := drn_of hd hg hB

/-- all bytes of one text are bytes of another -/
def AllIn (T s : ByteArray) : Prop := ∀ v, v ∈ T.data.toList → v ∈ s.data.toList

theorem allIn_app {T S s : ByteArray} (h : AllIn T s) (k : AllIn S s) : AllIn (T ++ S) s := fun v hv => by
  rw [show (T ++ S).data.toList = T.data.toList ++ S.data.toList from by simp] at hv
  rcases List.mem_append.1 hv with h1 | h1
  · exact h v h1
  · exact k v h1

set_option maxRecDepth 100000 in
set_option maxHeartbeats 1000000 in
theorem l9Many_e (s : ByteArray) (n : Nat) (w : World) (hs : s.size ≤ 4) (hn : n ≤ 5000) : Calls Try.prog 58 #[.string s, .int .i64 n] w (fun e w' => ∃ r : ByteArray, e = .returned (.string r) ∧ r.size = s.size * n ∧ AllIn r s ∧ ∃ x, w' = plus w x) := by
  obtain ⟨N, hN⟩ : ∃ N, s.size * n = N := ⟨_, rfl⟩
  have hN2 : N ≤ 20000 := by rw [← hN]; calc s.size * n ≤ 4 * 5000 := Nat.mul_le_mul hs hn
    _ = 20000 := rfl
  have HN0 := Lib.hid hN
  clear hN
  go_enter Try.func58, Try.ntmps58
  go_wp2
  go_loopw [0, 1, 5] (fun sw q t wr => ∃ (m : Nat) (T S : ByteArray), q = .int .i64 m ∧ sw = .string S ∧ t = .string T ∧ T.size + S.size * m = N ∧ S.size ≤ 40000 ∧ m ≤ 5000 ∧ AllIn T s ∧ AllIn S s ∧ More w wr) (fun _ q _ _ => (intOf q).toNat)
  case atStart => exact ⟨n, ⟨#[]⟩, s, rfl, rfl, rfl, by rw [← HN0.out]; exact Nat.zero_add _, by omega, hn, fun v hv => by simp at hv, fun v hv => hv, More.refl _⟩
  case round =>
    obtain ⟨m, T, S, rfl, rfl, rfl, hab, hb, hm7, hTs, hSs, x, rfl⟩ := hrel
    have HTS := Lib.hid hTs
    have HSS := Lib.hid hSs
    clear hTs hSs
    have z1 : (T ++ S).size = T.size + S.size := ByteArray.size_append
    have z2 : (S ++ S).size = S.size + S.size := ByteArray.size_append
    have HAB := Lib.hid hab
    have ha : T.size ≤ N := by rw [← hab]; exact Nat.le_add_right _ _
    have hbm : 1 ≤ m → S.size ≤ N := fun h => by have : S.size * 1 ≤ S.size * m := Nat.mul_le_mul_left _ h; omega
    clear hab
    rcases dec (0 < m) with ⟨hlt, v1⟩ | ⟨hlt, v1⟩
    · have hb7 := hbm hlt
      have v2 : decide ((0 : Int) < (m : Int)) = true := by simp; omega
      have E3 := Lib.hid (show wrap64 ((m : Int) / 2) = (m : Int) / 2 from wrap64_of (by omega) (by omega))
      rcases Nat.mod_two_eq_zero_or_one m with h2 | h2
      · have e2 : (m : Int) % 2 = 0 := by omega
        have HN := Lib.hid (show T.size + (S.size + S.size) * (m / 2) = N by rw [Nat.add_mul, ← Nat.mul_two, Nat.mul_assoc, show m / 2 * 2 = m by omega]; exact HAB.out)
        clear z1
        go_wp2
        go_roundw
        case rel => exact ⟨m / 2, T, S ++ S, int_val (by first | omega | (rw [E3.out]; omega)), rfl, rfl, by rw [z2]; exact HN.out, by omega, by omega, HTS.out, allIn_app HSS.out HSS.out, (by repeat (first | exact More.refl _ | apply More.plus | apply More.alloc | apply More.drew | apply More.drewN))⟩
        case measure => simp [intOf, E3.out]; omega
      · have e2 : (m : Int) % 2 = 1 := by omega
        have HN := Lib.hid (show (T.size + S.size) + (S.size + S.size) * (m / 2) = N by
          have h3 : S.size * m = S.size + (S.size + S.size) * (m / 2) := by
            have h4 : m = m / 2 * 2 + 1 := by omega
            rw [Nat.add_mul, ← Nat.mul_two, Nat.mul_assoc]
            have h5 : S.size * m = S.size * (m / 2 * 2) + S.size := by rw [← Nat.mul_succ]; congr 1
            omega
          have := HAB.out
          omega)
        go_wp2
        go_roundw
        case rel => exact ⟨m / 2, T ++ S, S ++ S, int_val (by first | omega | (rw [E3.out]; omega)), rfl, rfl, by rw [z1, z2]; exact HN.out, by omega, by omega, allIn_app HTS.out HSS.out, allIn_app HSS.out HSS.out, (by repeat (first | exact More.refl _ | apply More.plus | apply More.alloc | apply More.drew | apply More.drewN))⟩
        case measure => simp [intOf, E3.out]; omega
    · obtain rfl : m = 0 := by omega
      have v2 : decide ((0 : Int) < ((0 : Nat) : Int)) = false := by simp
      go_wp2
      go_ret
      exact ⟨T, rfl, by rw [HN0.out]; have := HAB.out; omega, HTS.out, (by repeat (first | exact More.refl _ | apply More.plus | apply More.alloc | apply More.drew | apply More.drewN))⟩

/-- what may be known, and a stream: a short one, or zeros -/
def RetKz (w : World) (e : Ending) (w' : World) : Prop := ∃ (o l m : Int) (pa : Option Addr) (pc : Nat) (ps : List Pr) (base last : Int) (s : ByteArray),
  e = .returned (.tuple #[.agg #[.int .i64 o, .int .i64 l, .int .i64 m, .slice pa ps.length pc, .int .i64 base, .int .i64 last], .string s]) ∧ ps.length ≤ 3000 ∧ s.size ≤ 5000 ∧ RdP w' pa pc ps ∧ (∃ x, w' = plus w x) ∧ (∀ X, pa = some X → w.heap.size < X.block) ∧ (s.size ≤ 200 ∨ ∀ v, v ∈ s.data.toList → v = 0)

set_option maxRecDepth 100000 in
set_option maxHeartbeats 8000000 in
theorem DrawUnpackCodes_z (a : Option Addr) (cap : Nat) (bs : List UInt8) (w : World) (hr : Rd encB w a cap bs) :
    Calls Try.prog 13 #[.slice a bs.length cap] w (RetKz w) := by
  go_enter Try.func13, Try.ntmps13
  go_wp2_with fail
  refine (l9Open_any a cap bs _ (by repeat (first | exact hr | apply rd_seq | apply Rd.plus | apply Rd.alloc | apply Rd.drew | apply Rd.drewN | refine rd_patch ?_ _ _ (by intro A hA; first | (cases hA; show _ ≠ _; omega) | (have := hal A hA; omega))))).mono ?_
  rintro e w' ⟨B, rfl, hd, hB, x0, rfl⟩
  have HD := Lib.hid hd
  have hBl := hd.B_lt
  simp at hB hBl
  clear hd
  go_wp2_with fail
  refine (l2Draw_d B 0 _ (by repeat (first | (with_reducible exact HD.out) | (with_reducible apply dsrc_seq) | (with_reducible apply dsrc_draw) | (with_reducible apply Dsrc.plus) | (with_reducible apply Dsrc.alloc) | (with_reducible apply Dsrc.drew))) (by omega)).mono ?_
  rintro e w' ⟨o, l, m, pa, pc, ps, b, last, rfl, hkv, hl14, hrd, hoff, hdn⟩
  have hs := hkv.s
  obtain ⟨hso, _, _, _, _⟩ := sv_iff.1 hs
  have HKV := Lib.hid hkv
  have HR1 := Lib.hid (show Rd encP _ pa pc ps from hrd)
  simp at hoff
  obtain ⟨hd1, cur1, x1, rfl⟩ := hdn
  have HD1 := Lib.hid hd1
  clear hd1
  clear hkv hrd
  go_wp2_with fail
  refine wp_nm2 (fun X => KD w X (w.heap.size + 1 + x0.n + x1.n) B 60 o l m b pa pc ps last) ⟨?_, ?_, (by (try unfold RdP); repeat (first | (with_reducible exact HR1.out) | (with_reducible apply rd_seq) | (with_reducible apply Rd.plus) | (with_reducible apply Rd.alloc) | (with_reducible apply Rd.drew) | (with_reducible apply Rd.drewN))), fun Y hY => by have := hoff Y hY; omega, (by repeat (first | (with_reducible exact HD1.out) | (with_reducible apply dsrc_seq) | (with_reducible apply dsrc_draw) | (with_reducible apply Dsrc.plus) | (with_reducible apply Dsrc.alloc) | (with_reducible apply Dsrc.drew))), (by repeat (first | exact Below.refl _ _ | refine below_plus ?_ (by first | omega | (simp <;> omega)) _ | refine Below.alloc ?_ (by first | omega | (simp <;> omega)) _ | refine below_patch ?_ (by omega) _ | refine Below.drew ?_)), by omega⟩ ?_
  · exact (by repeat (first | (with_reducible exact push_new _ _ _ rfl) | (with_reducible exact push_new _ _ _ (by simp)) | (with_reducible apply blk_plus) | (with_reducible apply blk_alloc) | (with_reducible apply blk_drew) | (with_reducible refine blk_patch ?_ (by omega))))
  · exact push_new _ _ _ (by simp <;> omega)
  generalize w.heap.size + 1 + x0.n + x1.n = D
  intro X hX
  have HX := Lib.hid hX
  have rX := cell_of hX.blk
  have zX := hX.lt.2
  have hlow := hX.low
  clear hX HR1 HD1 HD hoff hB hBl
  refine wp_region_pt 9 (fun w' => w'.heap[D]? = some (.cells #[.int .i64 o, .int .i64 l, .int .i64 m, .slice pa ps.length pc, .int .i64 b, .int .i64 last] 27 (0, 0))) (Plan.quiet 0 (Plan.quiet 1 (Plan.quiet 2 (Plan.quiet 3 (Plan.quiet 4 (Plan.quiet 5 (Plan.one 6 (Plan.one 7 (Plan.one 8 (Plan.one 9 Plan.done)))))))))) (by kernel_rfl) (by kernel_rfl) (HX.out.blk) ?_
  refine wpPt_val rfl rfl ?_
  apply Exists.intro
  refine ⟨fun w' hS => ?_, ?_⟩
  focus (have rS := cell_of hS; simp [go_sem, ↓IntWalk.iteOmega, rS] <;> first | done | exact rfl | (rw [IntWalk.i64_in _ (by omega)]; exact rfl) | trace_state)
  refine wpPt_val rfl rfl ?_
  apply Exists.intro
  refine ⟨fun w' hS => ?_, ?_⟩
  focus (have rS := cell_of hS; simp [go_sem, ↓IntWalk.iteOmega, rS] <;> first | done | exact rfl | (rw [IntWalk.i64_in _ (by omega)]; exact rfl) | trace_state)
  refine wpPt_val rfl rfl ?_
  apply Exists.intro
  refine ⟨fun w' hS => ?_, ?_⟩
  focus (have rS := cell_of hS; simp [go_sem, ↓IntWalk.iteOmega, rS] <;> first | done | exact rfl | (rw [IntWalk.i64_in _ (by omega)]; exact rfl) | trace_state)
  refine wpPt_val rfl rfl ?_
  apply Exists.intro
  refine ⟨fun w' hS => ?_, ?_⟩
  focus (have rS := cell_of hS; simp [go_sem, ↓IntWalk.iteOmega, rS] <;> first | done | exact rfl | (rw [IntWalk.i64_in _ (by omega)]; exact rfl) | trace_state)
  refine wpPt_val rfl rfl ?_
  apply Exists.intro
  refine ⟨fun w' hS => ?_, ?_⟩
  focus (have rS := cell_of hS; simp [go_sem, ↓IntWalk.iteOmega, rS] <;> first | done | exact rfl | (rw [IntWalk.i64_in _ (by omega)]; exact rfl) | trace_state)
  refine wpPt_val rfl rfl ?_
  apply Exists.intro
  refine ⟨fun w' hS => ?_, ?_⟩
  focus (have rS := cell_of hS; simp [go_sem, ↓IntWalk.iteOmega, rS] <;> first | done | exact rfl | (rw [IntWalk.i64_in _ (by omega)]; exact rfl) | trace_state)
  refine wpPt_one rfl rfl (fun K hK => ?_)
  go_simp
  refine (l2Codes_d B _ 24 o l m pa pc ps b last _ HX.out.src.drew (by omega) HKV.out (Rd.drew HX.out.rd) (fun Y hY _ => (HX.out.off Y hY).1) (by omega) (by omega)).mono ?_
  rintro e w6 ⟨A, cp, cs, rfl, hrc0, hcl, ⟨Wd, Dd, hwl⟩, hAo, hdn⟩
  have H6 := Lib.hid ((HX.out.more (by repeat (first | exact More.refl _ | apply More.plus | apply More.alloc | apply More.drew | apply More.drewN))).draw hdn)
  have HRC := Lib.hid hrc0.rd
  have HWL := Lib.hid hwl
  have hbd := wlk_bd cs ps last [] [] Wd Dd HKV.out hwl
  have hcz := cbits_len (o := o) cs Wd (fun x hx => by have := hbd.2.1 x hx; simp at this; omega)
  obtain ⟨cb, hcb⟩ : ∃ cb, cbits o cs Wd = cb := ⟨_, rfl⟩
  have hbv := cbits_bv o cs Wd
  rw [hcb] at hcz hbv
  have HCB := Lib.hid hcb
  have HBV := Lib.hid hbv
  clear hdn hrc0 hwl hAo hbd hcb hbv
  refine hK _ _ (fun hkn => H6.out.blk) ?_
  clear hK K
  refine wpPt_one rfl rfl (fun K hK => ?_)
  go_simp
  refine (l2Pack_any o l m pa pc ps b last A cp cs w6 H6.out.rd HRC.out (kvb_iff.2 HKV.out) (by omega) b rfl Wd Dd HWL.out).mono ?_
  rintro e w' ⟨rfl, x6, rfl⟩
  rw [HCB.out]
  refine hK _ _ (fun hkn => blk_plus H6.out.blk _) ?_
  clear hK K
  refine wpPt_one rfl rfl (fun K hK => ?_)
  go_simp
  refine (l1Pack_any o (bstr cb) _ hso (by rw [bstr_size]; omega) (by rw [bytes_bstr]; exact HBV.out)).mono ?_
  rintro e w' ⟨rfl, x7, rfl⟩
  rw [bytes_bstr]
  obtain ⟨S, hS9⟩ : ∃ S, bstr (pckL o cb) = S := ⟨_, rfl⟩
  have hSz : S.size ≤ 40 := by rw [← hS9, bstr_size, pckL_len]; omega
  rw [hS9]
  clear hS9
  have H7 := Lib.hid (H6.out.more (show More w6 (plus (plus w6 x6) x7) from (by repeat (first | exact More.refl _ | apply More.plus | apply More.alloc | apply More.drew | apply More.drewN))))
  (try simp only [plus_plus] at H7)
  refine hK _ _ (fun hkn => blk_plus (blk_plus H6.out.blk _) _) ?_
  clear hK K
  refine wpPt_one rfl rfl (fun K hK => ?_)
  go_simp
  refine hK _ _ (fun hkn => absurd hkn (by decide)) ?_
  clear hK K
  refine NoPanic.normal ?_
  clear H6 HRC HWL
  go_wp2_with fail
  refine (pick_d B _ _ _ H7.out.src (by omega)).mono ?_
  rintro e wA ⟨at1, rfl, hat, hdn⟩
  have hat2 : at1 ≤ S.size := by omega
  have HA := Lib.hid (H7.out.draw hdn)
  clear hdn hat
  go_wp2_with fail
  refine (pick_d B _ _ _ HA.out.src (by omega)).mono ?_
  rintro e wB ⟨v, rfl, hv, hdn⟩
  have HB := Lib.hid (HA.out.draw hdn)
  clear hdn
  have HWR := Lib.hid (show IntKind.i64.wrap (at1 : Int) = (at1 : Int) from IntWalk.i64_in _ (by omega))
  have hai : (at1 : Int) ≤ (S.size : Int) := by omega
  have hai0 : (0 : Int) ≤ (at1 : Int) := by omega
  have zl1 : (S.extract 0 at1).size ≤ 40 := by simp; omega
  have zl2 : (S.extract at1 S.size).size ≤ 40 := by simp; omega
  rcases (by omega : v = 0 ∨ v = 1 ∨ v = 2 ∨ 2 < v) with rfl | rfl | rfl | hv2
  · go_wp2_with fail
    refine (l1Bytes_any B _ 20 _ HB.out.src (by omega) (by omega)).mono ?_
    rintro e wC ⟨T, rfl, hT, hds, hgr⟩
    have HC := Lib.hid (HB.out.draw (drn_of hds hgr HB.out.src.B_lt))
    clear hds hgr
    go_wp2_with fail
    refine (pick_d B _ _ _ HC.out.src (by omega)).mono ?_
    rintro e w7 ⟨v7, rfl, hv7, hdn⟩
    have H7 := Lib.hid (HC.out.draw hdn)
    clear hdn
    have r7 := cell_of H7.out.blk
    have z7 := H7.out.lt
    obtain ⟨z7a, z7b⟩ := z7
    have hB7 := H7.out.src.B_lt
    have hBD7 := H7.out.low.2
    rcases (by omega : v7 = 0 ∨ 0 < v7) with hv9 | hv9
    · have q7 : ((v7 : Int) == 0) = true := by simp; omega
      go_wp2_with fail
      refine wp_region_pt 6 (fun _ => True) (Plan.quiet 2 (Plan.two 0 (Plan.two 1 (Plan.one 3 (Plan.one 4 (Plan.one 5 (Plan.one 6 Plan.done)))) 3 (Plan.two 1 (Plan.one 4 (Plan.one 5 (Plan.one 6 Plan.done))) 4 (Plan.one 1 (Plan.one 5 (Plan.one 6 Plan.done))))) 3 (Plan.two 0 (Plan.two 1 (Plan.one 4 (Plan.one 5 (Plan.one 6 Plan.done))) 4 (Plan.one 1 (Plan.one 5 (Plan.one 6 Plan.done)))) 4 (Plan.one 0 (Plan.one 1 (Plan.one 5 (Plan.one 6 Plan.done))))))) (by kernel_rfl) (by kernel_rfl) (trivial) ?_
      refine wpPt_val rfl rfl ?_
      apply Exists.intro
      refine ⟨fun w' hS => ?_, ?_⟩
      focus (skip; simp [go_sem, ↓IntWalk.iteOmega] <;> first | done | exact rfl | (rw [IntWalk.i64_in _ (by omega)]; exact rfl) | trace_state)
      refine wpPt_two rfl rfl rfl rfl (fun K hK => ?_) (fun K hK => ?_)
      go_simp
      refine hK _ _ (fun hkn => trivial) ?_
      clear hK K
      refine wpPt_two rfl rfl rfl rfl (fun K hK => ?_) (fun K hK => ?_)
      refine oper_str1 _ _ 5 _ rfl Try.underlying22 Try.underlying5 Try.underlying9 _ 0 rfl (by simp <;> omega) (by simp [go_sem, ↓IntWalk.iteOmega]) ?_
      refine hK _ _ (fun hkn => trivial) ?_
      clear hK K
      refine wpPt_one rfl rfl (fun K hK => ?_)
      go_simp
      refine hK _ _ (fun hkn => trivial) ?_
      clear hK K
      refine wpPt_one rfl rfl (fun K hK => ?_)
      go_simp
      refine (num_d B _ _ (by repeat (first | (with_reducible exact H7.out.src) | (with_reducible apply dsrc_seq) | (with_reducible apply dsrc_draw) | (with_reducible apply Dsrc.plus) | (with_reducible apply Dsrc.alloc) | (with_reducible apply Dsrc.drew))) (by omega) _ _ [4000, 4001] (by first | exact rd_lit _ _ _ _ _ (by simp <;> omega) rfl (by decide) | exact Rd.alloc (rd_lit _ _ _ _ _ (by simp <;> omega) rfl (by decide)) _) (fun X hX => by cases hX; have := H7.out.low; simp <;> omega) (by decide)).mono ?_
      rintro e w8 ⟨z, rfl, hz, hdn⟩
      have hz2 : z = 4000 ∨ z = 4001 := by simpa using hz
      obtain ⟨z, rfl⟩ : ∃ k : Nat, z = k := ⟨z.toNat, by omega⟩
      have hk8 := (H7.out.more (by repeat (first | exact More.refl _ | apply More.plus | apply More.alloc | apply More.drew | apply More.drewN))).draw hdn
      obtain ⟨hdx, cur8, x8, rfl⟩ := hdn
      (try simp only [plus_patch_drew] at hk8)
      have H8 := Lib.hid hk8
      clear hdx hz hk8
      refine hK _ _ (fun hkn => trivial) ?_
      clear hK K
      refine wpPt_one rfl rfl (fun K hK => ?_)
      go_simp
      refine (l9Many_e _ z _ (by simp [bstr_size]) (by omega)).mono ?_
      rintro e w' ⟨r, rfl, hr, hrz, x3, rfl⟩
      have HZ := Lib.hid (show ∀ v, v ∈ r.data.toList → v = 0 from fun v hv => by simpa [bstr] using hrz v hv)
      clear hrz
      rw [bstr_size] at hr
      have hr2 : r.size ≤ 4001 := by simp at hr; omega
      refine hK _ _ (fun hkn => trivial) ?_
      clear hK K
      refine wpPt_one rfl rfl (fun K hK => ?_)
      go_simp
      refine hK _ _ (fun hkn => absurd hkn (by decide)) ?_
      clear hK K
      refine NoPanic.normal ?_
      rotate_left
      go_simp
      refine hK _ _ (fun hkn => trivial) ?_
      clear hK K
      refine wpPt_two rfl rfl rfl rfl (fun K hK => ?_) (fun K hK => ?_)
      refine oper_str1 _ _ 5 _ rfl Try.underlying22 Try.underlying5 Try.underlying9 _ 0 rfl (by simp <;> omega) (by simp [go_sem, ↓IntWalk.iteOmega]) ?_
      refine hK _ _ (fun hkn => trivial) ?_
      clear hK K
      refine wpPt_one rfl rfl (fun K hK => ?_)
      go_simp
      refine (num_d B _ _ (by repeat (first | (with_reducible exact H7.out.src) | (with_reducible apply dsrc_seq) | (with_reducible apply dsrc_draw) | (with_reducible apply Dsrc.plus) | (with_reducible apply Dsrc.alloc) | (with_reducible apply Dsrc.drew))) (by omega) _ _ [4000, 4001] (by first | exact rd_lit _ _ _ _ _ (by simp <;> omega) rfl (by decide) | exact Rd.alloc (rd_lit _ _ _ _ _ (by simp <;> omega) rfl (by decide)) _) (fun X hX => by cases hX; have := H7.out.low; simp <;> omega) (by decide)).mono ?_
      rintro e w8 ⟨z, rfl, hz, hdn⟩
      have hz2 : z = 4000 ∨ z = 4001 := by simpa using hz
      obtain ⟨z, rfl⟩ : ∃ k : Nat, z = k := ⟨z.toNat, by omega⟩
      have hk8 := (H7.out.more (by repeat (first | exact More.refl _ | apply More.plus | apply More.alloc | apply More.drew | apply More.drewN))).draw hdn
      obtain ⟨hdx, cur8, x8, rfl⟩ := hdn
      (try simp only [plus_patch_drew] at hk8)
      have H8 := Lib.hid hk8
      clear hdx hz hk8
      refine hK _ _ (fun hkn => trivial) ?_
      clear hK K
      refine wpPt_one rfl rfl (fun K hK => ?_)
      go_simp
      refine (l9Many_e _ z _ (by simp [bstr_size]) (by omega)).mono ?_
      rintro e w' ⟨r, rfl, hr, hrz, x3, rfl⟩
      have HZ := Lib.hid (show ∀ v, v ∈ r.data.toList → v = 0 from fun v hv => by simpa [bstr] using hrz v hv)
      clear hrz
      rw [bstr_size] at hr
      have hr2 : r.size ≤ 4001 := by simp at hr; omega
      refine hK _ _ (fun hkn => trivial) ?_
      clear hK K
      refine wpPt_one rfl rfl (fun K hK => ?_)
      go_simp
      refine hK _ _ (fun hkn => absurd hkn (by decide)) ?_
      clear hK K
      refine NoPanic.normal ?_
      rotate_left
      go_simp
      refine (num_d B _ _ (by repeat (first | (with_reducible exact H7.out.src) | (with_reducible apply dsrc_seq) | (with_reducible apply dsrc_draw) | (with_reducible apply Dsrc.plus) | (with_reducible apply Dsrc.alloc) | (with_reducible apply Dsrc.drew))) (by omega) _ _ [4000, 4001] (by first | exact rd_lit _ _ _ _ _ (by simp <;> omega) rfl (by decide) | exact Rd.alloc (rd_lit _ _ _ _ _ (by simp <;> omega) rfl (by decide)) _) (fun X hX => by cases hX; have := H7.out.low; simp <;> omega) (by decide)).mono ?_
      rintro e w8 ⟨z, rfl, hz, hdn⟩
      have hz2 : z = 4000 ∨ z = 4001 := by simpa using hz
      obtain ⟨z, rfl⟩ : ∃ k : Nat, z = k := ⟨z.toNat, by omega⟩
      have hk8 := (H7.out.more (by repeat (first | exact More.refl _ | apply More.plus | apply More.alloc | apply More.drew | apply More.drewN))).draw hdn
      obtain ⟨hdx, cur8, x8, rfl⟩ := hdn
      (try simp only [plus_patch_drew] at hk8)
      have H8 := Lib.hid hk8
      clear hdx hz hk8
      refine hK _ _ (fun hkn => trivial) ?_
      clear hK K
      refine wpPt_one rfl rfl (fun K hK => ?_)
      refine oper_str1 _ _ 5 _ rfl Try.underlying22 Try.underlying5 Try.underlying9 _ 0 rfl (by simp <;> omega) (by simp [go_sem, ↓IntWalk.iteOmega]) ?_
      refine hK _ _ (fun hkn => trivial) ?_
      clear hK K
      refine wpPt_one rfl rfl (fun K hK => ?_)
      go_simp
      refine (l9Many_e _ z _ (by simp [bstr_size]) (by omega)).mono ?_
      rintro e w' ⟨r, rfl, hr, hrz, x3, rfl⟩
      have HZ := Lib.hid (show ∀ v, v ∈ r.data.toList → v = 0 from fun v hv => by simpa [bstr] using hrz v hv)
      clear hrz
      rw [bstr_size] at hr
      have hr2 : r.size ≤ 4001 := by simp at hr; omega
      refine hK _ _ (fun hkn => trivial) ?_
      clear hK K
      refine wpPt_one rfl rfl (fun K hK => ?_)
      go_simp
      refine hK _ _ (fun hkn => absurd hkn (by decide)) ?_
      clear hK K
      refine NoPanic.normal ?_
      rotate_left
      go_simp
      refine hK _ _ (fun hkn => trivial) ?_
      clear hK K
      refine wpPt_two rfl rfl rfl rfl (fun K hK => ?_) (fun K hK => ?_)
      go_simp
      refine hK _ _ (fun hkn => trivial) ?_
      clear hK K
      refine wpPt_two rfl rfl rfl rfl (fun K hK => ?_) (fun K hK => ?_)
      refine oper_str1 _ _ 5 _ rfl Try.underlying22 Try.underlying5 Try.underlying9 _ 0 rfl (by simp <;> omega) (by simp [go_sem, ↓IntWalk.iteOmega]) ?_
      refine hK _ _ (fun hkn => trivial) ?_
      clear hK K
      refine wpPt_one rfl rfl (fun K hK => ?_)
      go_simp
      refine (num_d B _ _ (by repeat (first | (with_reducible exact H7.out.src) | (with_reducible apply dsrc_seq) | (with_reducible apply dsrc_draw) | (with_reducible apply Dsrc.plus) | (with_reducible apply Dsrc.alloc) | (with_reducible apply Dsrc.drew))) (by omega) _ _ [4000, 4001] (by first | exact rd_lit _ _ _ _ _ (by simp <;> omega) rfl (by decide) | exact Rd.alloc (rd_lit _ _ _ _ _ (by simp <;> omega) rfl (by decide)) _) (fun X hX => by cases hX; have := H7.out.low; simp <;> omega) (by decide)).mono ?_
      rintro e w8 ⟨z, rfl, hz, hdn⟩
      have hz2 : z = 4000 ∨ z = 4001 := by simpa using hz
      obtain ⟨z, rfl⟩ : ∃ k : Nat, z = k := ⟨z.toNat, by omega⟩
      have hk8 := (H7.out.more (by repeat (first | exact More.refl _ | apply More.plus | apply More.alloc | apply More.drew | apply More.drewN))).draw hdn
      obtain ⟨hdx, cur8, x8, rfl⟩ := hdn
      (try simp only [plus_patch_drew] at hk8)
      have H8 := Lib.hid hk8
      clear hdx hz hk8
      refine hK _ _ (fun hkn => trivial) ?_
      clear hK K
      refine wpPt_one rfl rfl (fun K hK => ?_)
      go_simp
      refine (l9Many_e _ z _ (by simp [bstr_size]) (by omega)).mono ?_
      rintro e w' ⟨r, rfl, hr, hrz, x3, rfl⟩
      have HZ := Lib.hid (show ∀ v, v ∈ r.data.toList → v = 0 from fun v hv => by simpa [bstr] using hrz v hv)
      clear hrz
      rw [bstr_size] at hr
      have hr2 : r.size ≤ 4001 := by simp at hr; omega
      refine hK _ _ (fun hkn => trivial) ?_
      clear hK K
      refine wpPt_one rfl rfl (fun K hK => ?_)
      go_simp
      refine hK _ _ (fun hkn => absurd hkn (by decide)) ?_
      clear hK K
      refine NoPanic.normal ?_
      rotate_left
      go_simp
      refine (num_d B _ _ (by repeat (first | (with_reducible exact H7.out.src) | (with_reducible apply dsrc_seq) | (with_reducible apply dsrc_draw) | (with_reducible apply Dsrc.plus) | (with_reducible apply Dsrc.alloc) | (with_reducible apply Dsrc.drew))) (by omega) _ _ [4000, 4001] (by first | exact rd_lit _ _ _ _ _ (by simp <;> omega) rfl (by decide) | exact Rd.alloc (rd_lit _ _ _ _ _ (by simp <;> omega) rfl (by decide)) _) (fun X hX => by cases hX; have := H7.out.low; simp <;> omega) (by decide)).mono ?_
      rintro e w8 ⟨z, rfl, hz, hdn⟩
      have hz2 : z = 4000 ∨ z = 4001 := by simpa using hz
      obtain ⟨z, rfl⟩ : ∃ k : Nat, z = k := ⟨z.toNat, by omega⟩
      have hk8 := (H7.out.more (by repeat (first | exact More.refl _ | apply More.plus | apply More.alloc | apply More.drew | apply More.drewN))).draw hdn
      obtain ⟨hdx, cur8, x8, rfl⟩ := hdn
      (try simp only [plus_patch_drew] at hk8)
      have H8 := Lib.hid hk8
      clear hdx hz hk8
      refine hK _ _ (fun hkn => trivial) ?_
      clear hK K
      refine wpPt_one rfl rfl (fun K hK => ?_)
      refine oper_str1 _ _ 5 _ rfl Try.underlying22 Try.underlying5 Try.underlying9 _ 0 rfl (by simp <;> omega) (by simp [go_sem, ↓IntWalk.iteOmega]) ?_
      refine hK _ _ (fun hkn => trivial) ?_
      clear hK K
      refine wpPt_one rfl rfl (fun K hK => ?_)
      go_simp
      refine (l9Many_e _ z _ (by simp [bstr_size]) (by omega)).mono ?_
      rintro e w' ⟨r, rfl, hr, hrz, x3, rfl⟩
      have HZ := Lib.hid (show ∀ v, v ∈ r.data.toList → v = 0 from fun v hv => by simpa [bstr] using hrz v hv)
      clear hrz
      rw [bstr_size] at hr
      have hr2 : r.size ≤ 4001 := by simp at hr; omega
      refine hK _ _ (fun hkn => trivial) ?_
      clear hK K
      refine wpPt_one rfl rfl (fun K hK => ?_)
      go_simp
      refine hK _ _ (fun hkn => absurd hkn (by decide)) ?_
      clear hK K
      refine NoPanic.normal ?_
      rotate_left
      go_simp
      refine (num_d B _ _ (by repeat (first | (with_reducible exact H7.out.src) | (with_reducible apply dsrc_seq) | (with_reducible apply dsrc_draw) | (with_reducible apply Dsrc.plus) | (with_reducible apply Dsrc.alloc) | (with_reducible apply Dsrc.drew))) (by omega) _ _ [4000, 4001] (by first | exact rd_lit _ _ _ _ _ (by simp <;> omega) rfl (by decide) | exact Rd.alloc (rd_lit _ _ _ _ _ (by simp <;> omega) rfl (by decide)) _) (fun X hX => by cases hX; have := H7.out.low; simp <;> omega) (by decide)).mono ?_
      rintro e w8 ⟨z, rfl, hz, hdn⟩
      have hz2 : z = 4000 ∨ z = 4001 := by simpa using hz
      obtain ⟨z, rfl⟩ : ∃ k : Nat, z = k := ⟨z.toNat, by omega⟩
      have hk8 := (H7.out.more (by repeat (first | exact More.refl _ | apply More.plus | apply More.alloc | apply More.drew | apply More.drewN))).draw hdn
      obtain ⟨hdx, cur8, x8, rfl⟩ := hdn
      (try simp only [plus_patch_drew] at hk8)
      have H8 := Lib.hid hk8
      clear hdx hz hk8
      refine hK _ _ (fun hkn => trivial) ?_
      clear hK K
      refine wpPt_one rfl rfl (fun K hK => ?_)
      go_simp
      refine hK _ _ (fun hkn => trivial) ?_
      clear hK K
      refine wpPt_one rfl rfl (fun K hK => ?_)
      refine oper_str1 _ _ 5 _ rfl Try.underlying22 Try.underlying5 Try.underlying9 _ 0 rfl (by simp <;> omega) (by simp [go_sem, ↓IntWalk.iteOmega]) ?_
      refine hK _ _ (fun hkn => trivial) ?_
      clear hK K
      refine wpPt_one rfl rfl (fun K hK => ?_)
      go_simp
      refine (l9Many_e _ z _ (by simp [bstr_size]) (by omega)).mono ?_
      rintro e w' ⟨r, rfl, hr, hrz, x3, rfl⟩
      have HZ := Lib.hid (show ∀ v, v ∈ r.data.toList → v = 0 from fun v hv => by simpa [bstr] using hrz v hv)
      clear hrz
      rw [bstr_size] at hr
      have hr2 : r.size ≤ 4001 := by simp at hr; omega
      refine hK _ _ (fun hkn => trivial) ?_
      clear hK K
      refine wpPt_one rfl rfl (fun K hK => ?_)
      go_simp
      refine hK _ _ (fun hkn => absurd hkn (by decide)) ?_
      clear hK K
      refine NoPanic.normal ?_
      all_goals
        go_wp2_with fail
        refine calls_nm (fun Y => KD w Y D B 300 o l m b pa pc ps last) ((H8.out.more (by repeat (first | exact More.refl _ | (with_reducible apply more_seq) | (with_reducible apply more_draw) | apply More.plus | apply More.alloc | apply More.drew))).mono (by omega)) ?_
        intro Y hY
        have HY := Lib.hid hY
        clear hY
        refine (l2Bad_d B _ o l m pa pc ps b last _ HY.out.src (by omega) hs HY.out.rd (fun X hX => (HY.out.off X hX).1) (by omega)).mono ?_
        rintro e w9 ⟨o2, l2', m2, pa9, pc9, qs, base9, last9, rfl, hq9, hrd9, hoff9, hdn⟩
        have H9 := Lib.hid (HY.out.draw hdn)
        have HR9 := Lib.hid hrd9
        have hz9 := HY.out.lt.1
        have hblk9 : ∀ X, pa9 = some X → w.heap.size < X.block := fun X hX => by
          rcases hoff9 X hX with h | h
          · exact (HY.out.off X h).2
          · omega
        clear hrd9 hoff9 hdn
        have r9 := cell_of H9.out.res
        have f9 := free_of H9.out.res
        have s9 := fun i v => setCell_patch H9.out.res i v
        have z9 := H9.out.lt.1
        go_wp2_with fail
        exact bodyPost_ret (v := .tuple #[.agg #[.int .i64 o2, .int .i64 l2', .int .i64 m2, .slice pa9 qs.length pc9, .int .i64 base9, .int .i64 last9], .string r]) (by simp [results, Try.results13, go_sem, ↓IntWalk.iteOmega]) rfl ⟨o2, l2', m2, pa9, pc9, qs, base9, last9, r, rfl, hq9, by omega, rd_patch HR9.out _ _ (fun X hX => by have := hblk9 X hX; omega), below_more (below_patch H9.out.bel (Nat.le_refl _) _), hblk9, (by first | exact .inl (by omega) | exact .inr HZ.out)⟩
    · have q7 : ((v7 : Int) == 0) = false := by simp; omega
      go_wp2_with fail
      refine calls_nm (fun Y => KD w Y D B 300 o l m b pa pc ps last) ((H7.out.more (by repeat (first | exact More.refl _ | (with_reducible apply more_seq) | (with_reducible apply more_draw) | apply More.plus | apply More.alloc | apply More.drew))).mono (by omega)) ?_
      intro Y hY
      have HY := Lib.hid hY
      clear hY
      refine (l2Bad_d B _ o l m pa pc ps b last _ HY.out.src (by omega) hs HY.out.rd (fun X hX => (HY.out.off X hX).1) (by omega)).mono ?_
      rintro e w9 ⟨o2, l2', m2, pa9, pc9, qs, base9, last9, rfl, hq9, hrd9, hoff9, hdn⟩
      have H9 := Lib.hid (HY.out.draw hdn)
      have HR9 := Lib.hid hrd9
      have hz9 := HY.out.lt.1
      have hblk9 : ∀ X, pa9 = some X → w.heap.size < X.block := fun X hX => by
        rcases hoff9 X hX with h | h
        · exact (HY.out.off X h).2
        · omega
      clear hrd9 hoff9 hdn
      have r9 := cell_of H9.out.res
      have f9 := free_of H9.out.res
      have s9 := fun i v => setCell_patch H9.out.res i v
      have z9 := H9.out.lt.1
      go_wp2_with fail
      exact bodyPost_ret (v := .tuple #[.agg #[.int .i64 o2, .int .i64 l2', .int .i64 m2, .slice pa9 qs.length pc9, .int .i64 base9, .int .i64 last9], .string T]) (by simp [results, Try.results13, go_sem, ↓IntWalk.iteOmega]) rfl ⟨o2, l2', m2, pa9, pc9, qs, base9, last9, T, rfl, hq9, by omega, rd_patch HR9.out _ _ (fun X hX => by have := hblk9 X hX; omega), below_more (below_patch H9.out.bel (Nat.le_refl _) _), hblk9, (by first | exact .inl (by omega) | exact .inr HZ.out)⟩
  · go_wp2_with fail
    obtain ⟨T, hT⟩ : ∃ T, S.extract 0 at1 = T := ⟨_, rfl⟩
    rw [hT] at zl1
    (try rw [hT])
    (try simp only [hT])
    clear hT
    go_wp2_with fail
    refine (pick_d B _ _ _ HB.out.src (by omega)).mono ?_
    rintro e w7 ⟨v7, rfl, hv7, hdn⟩
    have H7 := Lib.hid (HB.out.draw hdn)
    clear hdn
    have r7 := cell_of H7.out.blk
    have z7 := H7.out.lt
    obtain ⟨z7a, z7b⟩ := z7
    have hB7 := H7.out.src.B_lt
    have hBD7 := H7.out.low.2
    rcases (by omega : v7 = 0 ∨ 0 < v7) with hv9 | hv9
    · have q7 : ((v7 : Int) == 0) = true := by simp; omega
      go_wp2_with fail
      refine wp_region_pt 6 (fun _ => True) (Plan.quiet 2 (Plan.two 0 (Plan.two 1 (Plan.one 3 (Plan.one 4 (Plan.one 5 (Plan.one 6 Plan.done)))) 3 (Plan.two 1 (Plan.one 4 (Plan.one 5 (Plan.one 6 Plan.done))) 4 (Plan.one 1 (Plan.one 5 (Plan.one 6 Plan.done))))) 3 (Plan.two 0 (Plan.two 1 (Plan.one 4 (Plan.one 5 (Plan.one 6 Plan.done))) 4 (Plan.one 1 (Plan.one 5 (Plan.one 6 Plan.done)))) 4 (Plan.one 0 (Plan.one 1 (Plan.one 5 (Plan.one 6 Plan.done))))))) (by kernel_rfl) (by kernel_rfl) (trivial) ?_
      refine wpPt_val rfl rfl ?_
      apply Exists.intro
      refine ⟨fun w' hS => ?_, ?_⟩
      focus (skip; simp [go_sem, ↓IntWalk.iteOmega] <;> first | done | exact rfl | (rw [IntWalk.i64_in _ (by omega)]; exact rfl) | trace_state)
      refine wpPt_two rfl rfl rfl rfl (fun K hK => ?_) (fun K hK => ?_)
      go_simp
      refine hK _ _ (fun hkn => trivial) ?_
      clear hK K
      refine wpPt_two rfl rfl rfl rfl (fun K hK => ?_) (fun K hK => ?_)
      refine oper_str1 _ _ 5 _ rfl Try.underlying22 Try.underlying5 Try.underlying9 _ 0 rfl (by simp <;> omega) (by simp [go_sem, ↓IntWalk.iteOmega]) ?_
      refine hK _ _ (fun hkn => trivial) ?_
      clear hK K
      refine wpPt_one rfl rfl (fun K hK => ?_)
      go_simp
      refine hK _ _ (fun hkn => trivial) ?_
      clear hK K
      refine wpPt_one rfl rfl (fun K hK => ?_)
      go_simp
      refine (num_d B _ _ (by repeat (first | (with_reducible exact H7.out.src) | (with_reducible apply dsrc_seq) | (with_reducible apply dsrc_draw) | (with_reducible apply Dsrc.plus) | (with_reducible apply Dsrc.alloc) | (with_reducible apply Dsrc.drew))) (by omega) _ _ [4000, 4001] (by first | exact rd_lit _ _ _ _ _ (by simp <;> omega) rfl (by decide) | exact Rd.alloc (rd_lit _ _ _ _ _ (by simp <;> omega) rfl (by decide)) _) (fun X hX => by cases hX; have := H7.out.low; simp <;> omega) (by decide)).mono ?_
      rintro e w8 ⟨z, rfl, hz, hdn⟩
      have hz2 : z = 4000 ∨ z = 4001 := by simpa using hz
      obtain ⟨z, rfl⟩ : ∃ k : Nat, z = k := ⟨z.toNat, by omega⟩
      have hk8 := (H7.out.more (by repeat (first | exact More.refl _ | apply More.plus | apply More.alloc | apply More.drew | apply More.drewN))).draw hdn
      obtain ⟨hdx, cur8, x8, rfl⟩ := hdn
      (try simp only [plus_patch_drew] at hk8)
      have H8 := Lib.hid hk8
      clear hdx hz hk8
      refine hK _ _ (fun hkn => trivial) ?_
      clear hK K
      refine wpPt_one rfl rfl (fun K hK => ?_)
      go_simp
      refine (l9Many_e _ z _ (by simp [bstr_size]) (by omega)).mono ?_
      rintro e w' ⟨r, rfl, hr, hrz, x3, rfl⟩
      have HZ := Lib.hid (show ∀ v, v ∈ r.data.toList → v = 0 from fun v hv => by simpa [bstr] using hrz v hv)
      clear hrz
      rw [bstr_size] at hr
      have hr2 : r.size ≤ 4001 := by simp at hr; omega
      refine hK _ _ (fun hkn => trivial) ?_
      clear hK K
      refine wpPt_one rfl rfl (fun K hK => ?_)
      go_simp
      refine hK _ _ (fun hkn => absurd hkn (by decide)) ?_
      clear hK K
      refine NoPanic.normal ?_
      rotate_left
      go_simp
      refine hK _ _ (fun hkn => trivial) ?_
      clear hK K
      refine wpPt_two rfl rfl rfl rfl (fun K hK => ?_) (fun K hK => ?_)
      refine oper_str1 _ _ 5 _ rfl Try.underlying22 Try.underlying5 Try.underlying9 _ 0 rfl (by simp <;> omega) (by simp [go_sem, ↓IntWalk.iteOmega]) ?_
      refine hK _ _ (fun hkn => trivial) ?_
      clear hK K
      refine wpPt_one rfl rfl (fun K hK => ?_)
      go_simp
      refine (num_d B _ _ (by repeat (first | (with_reducible exact H7.out.src) | (with_reducible apply dsrc_seq) | (with_reducible apply dsrc_draw) | (with_reducible apply Dsrc.plus) | (with_reducible apply Dsrc.alloc) | (with_reducible apply Dsrc.drew))) (by omega) _ _ [4000, 4001] (by first | exact rd_lit _ _ _ _ _ (by simp <;> omega) rfl (by decide) | exact Rd.alloc (rd_lit _ _ _ _ _ (by simp <;> omega) rfl (by decide)) _) (fun X hX => by cases hX; have := H7.out.low; simp <;> omega) (by decide)).mono ?_
      rintro e w8 ⟨z, rfl, hz, hdn⟩
      have hz2 : z = 4000 ∨ z = 4001 := by simpa using hz
      obtain ⟨z, rfl⟩ : ∃ k : Nat, z = k := ⟨z.toNat, by omega⟩
      have hk8 := (H7.out.more (by repeat (first | exact More.refl _ | apply More.plus | apply More.alloc | apply More.drew | apply More.drewN))).draw hdn
      obtain ⟨hdx, cur8, x8, rfl⟩ := hdn
      (try simp only [plus_patch_drew] at hk8)
      have H8 := Lib.hid hk8
      clear hdx hz hk8
      refine hK _ _ (fun hkn => trivial) ?_
      clear hK K
      refine wpPt_one rfl rfl (fun K hK => ?_)
      go_simp
      refine (l9Many_e _ z _ (by simp [bstr_size]) (by omega)).mono ?_
      rintro e w' ⟨r, rfl, hr, hrz, x3, rfl⟩
      have HZ := Lib.hid (show ∀ v, v ∈ r.data.toList → v = 0 from fun v hv => by simpa [bstr] using hrz v hv)
      clear hrz
      rw [bstr_size] at hr
      have hr2 : r.size ≤ 4001 := by simp at hr; omega
      refine hK _ _ (fun hkn => trivial) ?_
      clear hK K
      refine wpPt_one rfl rfl (fun K hK => ?_)
      go_simp
      refine hK _ _ (fun hkn => absurd hkn (by decide)) ?_
      clear hK K
      refine NoPanic.normal ?_
      rotate_left
      go_simp
      refine (num_d B _ _ (by repeat (first | (with_reducible exact H7.out.src) | (with_reducible apply dsrc_seq) | (with_reducible apply dsrc_draw) | (with_reducible apply Dsrc.plus) | (with_reducible apply Dsrc.alloc) | (with_reducible apply Dsrc.drew))) (by omega) _ _ [4000, 4001] (by first | exact rd_lit _ _ _ _ _ (by simp <;> omega) rfl (by decide) | exact Rd.alloc (rd_lit _ _ _ _ _ (by simp <;> omega) rfl (by decide)) _) (fun X hX => by cases hX; have := H7.out.low; simp <;> omega) (by decide)).mono ?_
      rintro e w8 ⟨z, rfl, hz, hdn⟩
      have hz2 : z = 4000 ∨ z = 4001 := by simpa using hz
      obtain ⟨z, rfl⟩ : ∃ k : Nat, z = k := ⟨z.toNat, by omega⟩
      have hk8 := (H7.out.more (by repeat (first | exact More.refl _ | apply More.plus | apply More.alloc | apply More.drew | apply More.drewN))).draw hdn
      obtain ⟨hdx, cur8, x8, rfl⟩ := hdn
      (try simp only [plus_patch_drew] at hk8)
      have H8 := Lib.hid hk8
      clear hdx hz hk8
      refine hK _ _ (fun hkn => trivial) ?_
      clear hK K
      refine wpPt_one rfl rfl (fun K hK => ?_)
      refine oper_str1 _ _ 5 _ rfl Try.underlying22 Try.underlying5 Try.underlying9 _ 0 rfl (by simp <;> omega) (by simp [go_sem, ↓IntWalk.iteOmega]) ?_
      refine hK _ _ (fun hkn => trivial) ?_
      clear hK K
      refine wpPt_one rfl rfl (fun K hK => ?_)
      go_simp
      refine (l9Many_e _ z _ (by simp [bstr_size]) (by omega)).mono ?_
      rintro e w' ⟨r, rfl, hr, hrz, x3, rfl⟩
      have HZ := Lib.hid (show ∀ v, v ∈ r.data.toList → v = 0 from fun v hv => by simpa [bstr] using hrz v hv)
      clear hrz
      rw [bstr_size] at hr
      have hr2 : r.size ≤ 4001 := by simp at hr; omega
      refine hK _ _ (fun hkn => trivial) ?_
      clear hK K
      refine wpPt_one rfl rfl (fun K hK => ?_)
      go_simp
      refine hK _ _ (fun hkn => absurd hkn (by decide)) ?_
      clear hK K
      refine NoPanic.normal ?_
      rotate_left
      go_simp
      refine hK _ _ (fun hkn => trivial) ?_
      clear hK K
      refine wpPt_two rfl rfl rfl rfl (fun K hK => ?_) (fun K hK => ?_)
      go_simp
      refine hK _ _ (fun hkn => trivial) ?_
      clear hK K
      refine wpPt_two rfl rfl rfl rfl (fun K hK => ?_) (fun K hK => ?_)
      refine oper_str1 _ _ 5 _ rfl Try.underlying22 Try.underlying5 Try.underlying9 _ 0 rfl (by simp <;> omega) (by simp [go_sem, ↓IntWalk.iteOmega]) ?_
      refine hK _ _ (fun hkn => trivial) ?_
      clear hK K
      refine wpPt_one rfl rfl (fun K hK => ?_)
      go_simp
      refine (num_d B _ _ (by repeat (first | (with_reducible exact H7.out.src) | (with_reducible apply dsrc_seq) | (with_reducible apply dsrc_draw) | (with_reducible apply Dsrc.plus) | (with_reducible apply Dsrc.alloc) | (with_reducible apply Dsrc.drew))) (by omega) _ _ [4000, 4001] (by first | exact rd_lit _ _ _ _ _ (by simp <;> omega) rfl (by decide) | exact Rd.alloc (rd_lit _ _ _ _ _ (by simp <;> omega) rfl (by decide)) _) (fun X hX => by cases hX; have := H7.out.low; simp <;> omega) (by decide)).mono ?_
      rintro e w8 ⟨z, rfl, hz, hdn⟩
      have hz2 : z = 4000 ∨ z = 4001 := by simpa using hz
      obtain ⟨z, rfl⟩ : ∃ k : Nat, z = k := ⟨z.toNat, by omega⟩
      have hk8 := (H7.out.more (by repeat (first | exact More.refl _ | apply More.plus | apply More.alloc | apply More.drew | apply More.drewN))).draw hdn
      obtain ⟨hdx, cur8, x8, rfl⟩ := hdn
      (try simp only [plus_patch_drew] at hk8)
      have H8 := Lib.hid hk8
      clear hdx hz hk8
      refine hK _ _ (fun hkn => trivial) ?_
      clear hK K
      refine wpPt_one rfl rfl (fun K hK => ?_)
      go_simp
      refine (l9Many_e _ z _ (by simp [bstr_size]) (by omega)).mono ?_
      rintro e w' ⟨r, rfl, hr, hrz, x3, rfl⟩
      have HZ := Lib.hid (show ∀ v, v ∈ r.data.toList → v = 0 from fun v hv => by simpa [bstr] using hrz v hv)
      clear hrz
      rw [bstr_size] at hr
      have hr2 : r.size ≤ 4001 := by simp at hr; omega
      refine hK _ _ (fun hkn => trivial) ?_
      clear hK K
      refine wpPt_one rfl rfl (fun K hK => ?_)
      go_simp
      refine hK _ _ (fun hkn => absurd hkn (by decide)) ?_
      clear hK K
      refine NoPanic.normal ?_
      rotate_left
      go_simp
      refine (num_d B _ _ (by repeat (first | (with_reducible exact H7.out.src) | (with_reducible apply dsrc_seq) | (with_reducible apply dsrc_draw) | (with_reducible apply Dsrc.plus) | (with_reducible apply Dsrc.alloc) | (with_reducible apply Dsrc.drew))) (by omega) _ _ [4000, 4001] (by first | exact rd_lit _ _ _ _ _ (by simp <;> omega) rfl (by decide) | exact Rd.alloc (rd_lit _ _ _ _ _ (by simp <;> omega) rfl (by decide)) _) (fun X hX => by cases hX; have := H7.out.low; simp <;> omega) (by decide)).mono ?_
      rintro e w8 ⟨z, rfl, hz, hdn⟩
      have hz2 : z = 4000 ∨ z = 4001 := by simpa using hz
      obtain ⟨z, rfl⟩ : ∃ k : Nat, z = k := ⟨z.toNat, by omega⟩
      have hk8 := (H7.out.more (by repeat (first | exact More.refl _ | apply More.plus | apply More.alloc | apply More.drew | apply More.drewN))).draw hdn
      obtain ⟨hdx, cur8, x8, rfl⟩ := hdn
      (try simp only [plus_patch_drew] at hk8)
      have H8 := Lib.hid hk8
      clear hdx hz hk8
      refine hK _ _ (fun hkn => trivial) ?_
      clear hK K
      refine wpPt_one rfl rfl (fun K hK => ?_)
      refine oper_str1 _ _ 5 _ rfl Try.underlying22 Try.underlying5 Try.underlying9 _ 0 rfl (by simp <;> omega) (by simp [go_sem, ↓IntWalk.iteOmega]) ?_
      refine hK _ _ (fun hkn => trivial) ?_
      clear hK K
      refine wpPt_one rfl rfl (fun K hK => ?_)
      go_simp
      refine (l9Many_e _ z _ (by simp [bstr_size]) (by omega)).mono ?_
      rintro e w' ⟨r, rfl, hr, hrz, x3, rfl⟩
      have HZ := Lib.hid (show ∀ v, v ∈ r.data.toList → v = 0 from fun v hv => by simpa [bstr] using hrz v hv)
      clear hrz
      rw [bstr_size] at hr
      have hr2 : r.size ≤ 4001 := by simp at hr; omega
      refine hK _ _ (fun hkn => trivial) ?_
      clear hK K
      refine wpPt_one rfl rfl (fun K hK => ?_)
      go_simp
      refine hK _ _ (fun hkn => absurd hkn (by decide)) ?_
      clear hK K
      refine NoPanic.normal ?_
      rotate_left
      go_simp
      refine (num_d B _ _ (by repeat (first | (with_reducible exact H7.out.src) | (with_reducible apply dsrc_seq) | (with_reducible apply dsrc_draw) | (with_reducible apply Dsrc.plus) | (with_reducible apply Dsrc.alloc) | (with_reducible apply Dsrc.drew))) (by omega) _ _ [4000, 4001] (by first | exact rd_lit _ _ _ _ _ (by simp <;> omega) rfl (by decide) | exact Rd.alloc (rd_lit _ _ _ _ _ (by simp <;> omega) rfl (by decide)) _) (fun X hX => by cases hX; have := H7.out.low; simp <;> omega) (by decide)).mono ?_
      rintro e w8 ⟨z, rfl, hz, hdn⟩
      have hz2 : z = 4000 ∨ z = 4001 := by simpa using hz
      obtain ⟨z, rfl⟩ : ∃ k : Nat, z = k := ⟨z.toNat, by omega⟩
      have hk8 := (H7.out.more (by repeat (first | exact More.refl _ | apply More.plus | apply More.alloc | apply More.drew | apply More.drewN))).draw hdn
      obtain ⟨hdx, cur8, x8, rfl⟩ := hdn
      (try simp only [plus_patch_drew] at hk8)
      have H8 := Lib.hid hk8
      clear hdx hz hk8
      refine hK _ _ (fun hkn => trivial) ?_
      clear hK K
      refine wpPt_one rfl rfl (fun K hK => ?_)
      go_simp
      refine hK _ _ (fun hkn => trivial) ?_
      clear hK K
      refine wpPt_one rfl rfl (fun K hK => ?_)
      refine oper_str1 _ _ 5 _ rfl Try.underlying22 Try.underlying5 Try.underlying9 _ 0 rfl (by simp <;> omega) (by simp [go_sem, ↓IntWalk.iteOmega]) ?_
      refine hK _ _ (fun hkn => trivial) ?_
      clear hK K
      refine wpPt_one rfl rfl (fun K hK => ?_)
      go_simp
      refine (l9Many_e _ z _ (by simp [bstr_size]) (by omega)).mono ?_
      rintro e w' ⟨r, rfl, hr, hrz, x3, rfl⟩
      have HZ := Lib.hid (show ∀ v, v ∈ r.data.toList → v = 0 from fun v hv => by simpa [bstr] using hrz v hv)
      clear hrz
      rw [bstr_size] at hr
      have hr2 : r.size ≤ 4001 := by simp at hr; omega
      refine hK _ _ (fun hkn => trivial) ?_
      clear hK K
      refine wpPt_one rfl rfl (fun K hK => ?_)
      go_simp
      refine hK _ _ (fun hkn => absurd hkn (by decide)) ?_
      clear hK K
      refine NoPanic.normal ?_
      all_goals
        go_wp2_with fail
        refine calls_nm (fun Y => KD w Y D B 300 o l m b pa pc ps last) ((H8.out.more (by repeat (first | exact More.refl _ | (with_reducible apply more_seq) | (with_reducible apply more_draw) | apply More.plus | apply More.alloc | apply More.drew))).mono (by omega)) ?_
        intro Y hY
        have HY := Lib.hid hY
        clear hY
        refine (l2Bad_d B _ o l m pa pc ps b last _ HY.out.src (by omega) hs HY.out.rd (fun X hX => (HY.out.off X hX).1) (by omega)).mono ?_
        rintro e w9 ⟨o2, l2', m2, pa9, pc9, qs, base9, last9, rfl, hq9, hrd9, hoff9, hdn⟩
        have H9 := Lib.hid (HY.out.draw hdn)
        have HR9 := Lib.hid hrd9
        have hz9 := HY.out.lt.1
        have hblk9 : ∀ X, pa9 = some X → w.heap.size < X.block := fun X hX => by
          rcases hoff9 X hX with h | h
          · exact (HY.out.off X h).2
          · omega
        clear hrd9 hoff9 hdn
        have r9 := cell_of H9.out.res
        have f9 := free_of H9.out.res
        have s9 := fun i v => setCell_patch H9.out.res i v
        have z9 := H9.out.lt.1
        go_wp2_with fail
        exact bodyPost_ret (v := .tuple #[.agg #[.int .i64 o2, .int .i64 l2', .int .i64 m2, .slice pa9 qs.length pc9, .int .i64 base9, .int .i64 last9], .string r]) (by simp [results, Try.results13, go_sem, ↓IntWalk.iteOmega]) rfl ⟨o2, l2', m2, pa9, pc9, qs, base9, last9, r, rfl, hq9, by omega, rd_patch HR9.out _ _ (fun X hX => by have := hblk9 X hX; omega), below_more (below_patch H9.out.bel (Nat.le_refl _) _), hblk9, (by first | exact .inl (by omega) | exact .inr HZ.out)⟩
    · have q7 : ((v7 : Int) == 0) = false := by simp; omega
      go_wp2_with fail
      refine calls_nm (fun Y => KD w Y D B 300 o l m b pa pc ps last) ((H7.out.more (by repeat (first | exact More.refl _ | (with_reducible apply more_seq) | (with_reducible apply more_draw) | apply More.plus | apply More.alloc | apply More.drew))).mono (by omega)) ?_
      intro Y hY
      have HY := Lib.hid hY
      clear hY
      refine (l2Bad_d B _ o l m pa pc ps b last _ HY.out.src (by omega) hs HY.out.rd (fun X hX => (HY.out.off X hX).1) (by omega)).mono ?_
      rintro e w9 ⟨o2, l2', m2, pa9, pc9, qs, base9, last9, rfl, hq9, hrd9, hoff9, hdn⟩
      have H9 := Lib.hid (HY.out.draw hdn)
      have HR9 := Lib.hid hrd9
      have hz9 := HY.out.lt.1
      have hblk9 : ∀ X, pa9 = some X → w.heap.size < X.block := fun X hX => by
        rcases hoff9 X hX with h | h
        · exact (HY.out.off X h).2
        · omega
      clear hrd9 hoff9 hdn
      have r9 := cell_of H9.out.res
      have f9 := free_of H9.out.res
      have s9 := fun i v => setCell_patch H9.out.res i v
      have z9 := H9.out.lt.1
      go_wp2_with fail
      exact bodyPost_ret (v := .tuple #[.agg #[.int .i64 o2, .int .i64 l2', .int .i64 m2, .slice pa9 qs.length pc9, .int .i64 base9, .int .i64 last9], .string T]) (by simp [results, Try.results13, go_sem, ↓IntWalk.iteOmega]) rfl ⟨o2, l2', m2, pa9, pc9, qs, base9, last9, T, rfl, hq9, by omega, rd_patch HR9.out _ _ (fun X hX => by have := hblk9 X hX; omega), below_more (below_patch H9.out.bel (Nat.le_refl _) _), hblk9, (by first | exact .inl (by omega) | exact .inr HZ.out)⟩
  · go_wp2_with fail
    refine wp_region_pt 10 (fun w' => True) (Plan.quiet 0 (Plan.quiet 1 (Plan.quiet 2 (Plan.quiet 3 (Plan.quiet 6 (Plan.quiet 7 (Plan.quiet 8 (Plan.one 4 (Plan.quiet 5 (Plan.quiet 9 (Plan.one 10 Plan.done))))))))))) (by kernel_rfl) (by kernel_rfl) (trivial) ?_
    refine wpPt_val rfl rfl ?_
    apply Exists.intro
    refine ⟨fun w' hS => ?_, ?_⟩
    focus (skip; simp [go_sem, ↓IntWalk.iteOmega, HWR.out, hai, hai0] <;> first | done | exact rfl | (rw [IntWalk.i64_in _ (by omega)]; exact rfl) | trace_state)
    refine wpPt_val rfl rfl ?_
    apply Exists.intro
    refine ⟨fun w' hS => ?_, ?_⟩
    focus (skip; simp [go_sem, ↓IntWalk.iteOmega, HWR.out, hai, hai0] <;> first | done | exact rfl | (rw [IntWalk.i64_in _ (by omega)]; exact rfl) | trace_state)
    refine wpPt_val rfl rfl ?_
    apply Exists.intro
    refine ⟨fun w' hS => ?_, ?_⟩
    focus (skip; simp [go_sem, ↓IntWalk.iteOmega, HWR.out, hai, hai0] <;> first | done | exact rfl | (rw [IntWalk.i64_in _ (by omega)]; exact rfl) | trace_state)
    refine wpPt_val rfl rfl ?_
    apply Exists.intro
    refine ⟨fun w' hS => ?_, ?_⟩
    focus (skip; simp [go_sem, ↓IntWalk.iteOmega, HWR.out, hai, hai0] <;> first | done | exact rfl | (rw [IntWalk.i64_in _ (by omega)]; exact rfl) | trace_state)
    refine wpPt_val rfl rfl ?_
    apply Exists.intro
    refine ⟨fun w' hS => ?_, ?_⟩
    focus (skip; simp [go_sem, ↓IntWalk.iteOmega, HWR.out, hai, hai0] <;> first | done | exact rfl | (rw [IntWalk.i64_in _ (by omega)]; exact rfl) | trace_state)
    refine wpPt_val rfl rfl ?_
    apply Exists.intro
    refine ⟨fun w' hS => ?_, ?_⟩
    focus (skip; simp [go_sem, ↓IntWalk.iteOmega, HWR.out, hai, hai0] <;> first | done | exact rfl | (rw [IntWalk.i64_in _ (by omega)]; exact rfl) | trace_state)
    refine wpPt_val rfl rfl ?_
    apply Exists.intro
    refine ⟨fun w' hS => ?_, ?_⟩
    focus (skip; simp [go_sem, ↓IntWalk.iteOmega, HWR.out, hai, hai0] <;> first | done | exact rfl | (rw [IntWalk.i64_in _ (by omega)]; exact rfl) | trace_state)
    refine wpPt_one rfl rfl (fun K hK => ?_)
    go_simp
    refine (l1Bytes_any B _ 3 _ HB.out.src.drew (by omega) (by omega)).mono ?_
    rintro e wC ⟨T, rfl, hT, hds, hgr⟩
    have HC := Lib.hid ((HB.out.more (by repeat (first | exact More.refl _ | apply More.plus | apply More.alloc | apply More.drew | apply More.drewN))).draw (drn_of hds hgr HB.out.src.drew.B_lt))
    clear hds hgr
    refine hK _ _ (fun hkn => trivial) ?_
    clear hK K
    refine wpPt_val rfl rfl ?_
    apply Exists.intro
    refine ⟨fun w' hS => ?_, ?_⟩
    focus (skip; simp [go_sem, ↓IntWalk.iteOmega, HWR.out, hai, hai0] <;> first | done | exact rfl | (rw [IntWalk.i64_in _ (by omega)]; exact rfl) | trace_state)
    refine wpPt_val rfl rfl ?_
    apply Exists.intro
    refine ⟨fun w' hS => ?_, ?_⟩
    focus (skip; simp [go_sem, ↓IntWalk.iteOmega, HWR.out, hai, hai0] <;> first | done | exact rfl | (rw [IntWalk.i64_in _ (by omega)]; exact rfl) | trace_state)
    refine wpPt_one rfl rfl (fun K hK => ?_)
    go_simp
    refine hK _ _ (fun hkn => absurd hkn (by decide)) ?_
    clear hK K
    refine NoPanic.normal ?_
    go_wp2_with fail
    obtain ⟨U, hU⟩ : ∃ U, S.extract 0 at1 ++ T ++ S.extract at1 S.size = U := ⟨_, rfl⟩
    have hUz : U.size ≤ 100 := by rw [← hU, ByteArray.size_append, ByteArray.size_append]; omega
    (try rw [hU])
    (try simp only [hU])
    clear hU
    go_wp2_with fail
    refine (pick_d B _ _ _ HC.out.src (by omega)).mono ?_
    rintro e w7 ⟨v7, rfl, hv7, hdn⟩
    have H7 := Lib.hid (HC.out.draw hdn)
    clear hdn
    have r7 := cell_of H7.out.blk
    have z7 := H7.out.lt
    obtain ⟨z7a, z7b⟩ := z7
    have hB7 := H7.out.src.B_lt
    have hBD7 := H7.out.low.2
    rcases (by omega : v7 = 0 ∨ 0 < v7) with hv9 | hv9
    · have q7 : ((v7 : Int) == 0) = true := by simp; omega
      go_wp2_with fail
      refine wp_region_pt 6 (fun _ => True) (Plan.quiet 2 (Plan.two 0 (Plan.two 1 (Plan.one 3 (Plan.one 4 (Plan.one 5 (Plan.one 6 Plan.done)))) 3 (Plan.two 1 (Plan.one 4 (Plan.one 5 (Plan.one 6 Plan.done))) 4 (Plan.one 1 (Plan.one 5 (Plan.one 6 Plan.done))))) 3 (Plan.two 0 (Plan.two 1 (Plan.one 4 (Plan.one 5 (Plan.one 6 Plan.done))) 4 (Plan.one 1 (Plan.one 5 (Plan.one 6 Plan.done)))) 4 (Plan.one 0 (Plan.one 1 (Plan.one 5 (Plan.one 6 Plan.done))))))) (by kernel_rfl) (by kernel_rfl) (trivial) ?_
      refine wpPt_val rfl rfl ?_
      apply Exists.intro
      refine ⟨fun w' hS => ?_, ?_⟩
      focus (skip; simp [go_sem, ↓IntWalk.iteOmega] <;> first | done | exact rfl | (rw [IntWalk.i64_in _ (by omega)]; exact rfl) | trace_state)
      refine wpPt_two rfl rfl rfl rfl (fun K hK => ?_) (fun K hK => ?_)
      go_simp
      refine hK _ _ (fun hkn => trivial) ?_
      clear hK K
      refine wpPt_two rfl rfl rfl rfl (fun K hK => ?_) (fun K hK => ?_)
      refine oper_str1 _ _ 5 _ rfl Try.underlying22 Try.underlying5 Try.underlying9 _ 0 rfl (by simp <;> omega) (by simp [go_sem, ↓IntWalk.iteOmega]) ?_
      refine hK _ _ (fun hkn => trivial) ?_
      clear hK K
      refine wpPt_one rfl rfl (fun K hK => ?_)
      go_simp
      refine hK _ _ (fun hkn => trivial) ?_
      clear hK K
      refine wpPt_one rfl rfl (fun K hK => ?_)
      go_simp
      refine (num_d B _ _ (by repeat (first | (with_reducible exact H7.out.src) | (with_reducible apply dsrc_seq) | (with_reducible apply dsrc_draw) | (with_reducible apply Dsrc.plus) | (with_reducible apply Dsrc.alloc) | (with_reducible apply Dsrc.drew))) (by omega) _ _ [4000, 4001] (by first | exact rd_lit _ _ _ _ _ (by simp <;> omega) rfl (by decide) | exact Rd.alloc (rd_lit _ _ _ _ _ (by simp <;> omega) rfl (by decide)) _) (fun X hX => by cases hX; have := H7.out.low; simp <;> omega) (by decide)).mono ?_
      rintro e w8 ⟨z, rfl, hz, hdn⟩
      have hz2 : z = 4000 ∨ z = 4001 := by simpa using hz
      obtain ⟨z, rfl⟩ : ∃ k : Nat, z = k := ⟨z.toNat, by omega⟩
      have hk8 := (H7.out.more (by repeat (first | exact More.refl _ | apply More.plus | apply More.alloc | apply More.drew | apply More.drewN))).draw hdn
      obtain ⟨hdx, cur8, x8, rfl⟩ := hdn
      (try simp only [plus_patch_drew] at hk8)
      have H8 := Lib.hid hk8
      clear hdx hz hk8
      refine hK _ _ (fun hkn => trivial) ?_
      clear hK K
      refine wpPt_one rfl rfl (fun K hK => ?_)
      go_simp
      refine (l9Many_e _ z _ (by simp [bstr_size]) (by omega)).mono ?_
      rintro e w' ⟨r, rfl, hr, hrz, x3, rfl⟩
      have HZ := Lib.hid (show ∀ v, v ∈ r.data.toList → v = 0 from fun v hv => by simpa [bstr] using hrz v hv)
      clear hrz
      rw [bstr_size] at hr
      have hr2 : r.size ≤ 4001 := by simp at hr; omega
      refine hK _ _ (fun hkn => trivial) ?_
      clear hK K
      refine wpPt_one rfl rfl (fun K hK => ?_)
      go_simp
      refine hK _ _ (fun hkn => absurd hkn (by decide)) ?_
      clear hK K
      refine NoPanic.normal ?_
      rotate_left
      go_simp
      refine hK _ _ (fun hkn => trivial) ?_
      clear hK K
      refine wpPt_two rfl rfl rfl rfl (fun K hK => ?_) (fun K hK => ?_)
      refine oper_str1 _ _ 5 _ rfl Try.underlying22 Try.underlying5 Try.underlying9 _ 0 rfl (by simp <;> omega) (by simp [go_sem, ↓IntWalk.iteOmega]) ?_
      refine hK _ _ (fun hkn => trivial) ?_
      clear hK K
      refine wpPt_one rfl rfl (fun K hK => ?_)
      go_simp
      refine (num_d B _ _ (by repeat (first | (with_reducible exact H7.out.src) | (with_reducible apply dsrc_seq) | (with_reducible apply dsrc_draw) | (with_reducible apply Dsrc.plus) | (with_reducible apply Dsrc.alloc) | (with_reducible apply Dsrc.drew))) (by omega) _ _ [4000, 4001] (by first | exact rd_lit _ _ _ _ _ (by simp <;> omega) rfl (by decide) | exact Rd.alloc (rd_lit _ _ _ _ _ (by simp <;> omega) rfl (by decide)) _) (fun X hX => by cases hX; have := H7.out.low; simp <;> omega) (by decide)).mono ?_
      rintro e w8 ⟨z, rfl, hz, hdn⟩
      have hz2 : z = 4000 ∨ z = 4001 := by simpa using hz
      obtain ⟨z, rfl⟩ : ∃ k : Nat, z = k := ⟨z.toNat, by omega⟩
      have hk8 := (H7.out.more (by repeat (first | exact More.refl _ | apply More.plus | apply More.alloc | apply More.drew | apply More.drewN))).draw hdn
      obtain ⟨hdx, cur8, x8, rfl⟩ := hdn
      (try simp only [plus_patch_drew] at hk8)
      have H8 := Lib.hid hk8
      clear hdx hz hk8
      refine hK _ _ (fun hkn => trivial) ?_
      clear hK K
      refine wpPt_one rfl rfl (fun K hK => ?_)
      go_simp
      refine (l9Many_e _ z _ (by simp [bstr_size]) (by omega)).mono ?_
      rintro e w' ⟨r, rfl, hr, hrz, x3, rfl⟩
      have HZ := Lib.hid (show ∀ v, v ∈ r.data.toList → v = 0 from fun v hv => by simpa [bstr] using hrz v hv)
      clear hrz
      rw [bstr_size] at hr
      have hr2 : r.size ≤ 4001 := by simp at hr; omega
      refine hK _ _ (fun hkn => trivial) ?_
      clear hK K
      refine wpPt_one rfl rfl (fun K hK => ?_)
      go_simp
      refine hK _ _ (fun hkn => absurd hkn (by decide)) ?_
      clear hK K
      refine NoPanic.normal ?_
      rotate_left
      go_simp
      refine (num_d B _ _ (by repeat (first | (with_reducible exact H7.out.src) | (with_reducible apply dsrc_seq) | (with_reducible apply dsrc_draw) | (with_reducible apply Dsrc.plus) | (with_reducible apply Dsrc.alloc) | (with_reducible apply Dsrc.drew))) (by omega) _ _ [4000, 4001] (by first | exact rd_lit _ _ _ _ _ (by simp <;> omega) rfl (by decide) | exact Rd.alloc (rd_lit _ _ _ _ _ (by simp <;> omega) rfl (by decide)) _) (fun X hX => by cases hX; have := H7.out.low; simp <;> omega) (by decide)).mono ?_
      rintro e w8 ⟨z, rfl, hz, hdn⟩
      have hz2 : z = 4000 ∨ z = 4001 := by simpa using hz
      obtain ⟨z, rfl⟩ : ∃ k : Nat, z = k := ⟨z.toNat, by omega⟩
      have hk8 := (H7.out.more (by repeat (first | exact More.refl _ | apply More.plus | apply More.alloc | apply More.drew | apply More.drewN))).draw hdn
      obtain ⟨hdx, cur8, x8, rfl⟩ := hdn
      (try simp only [plus_patch_drew] at hk8)
      have H8 := Lib.hid hk8
      clear hdx hz hk8
      refine hK _ _ (fun hkn => trivial) ?_
      clear hK K
      refine wpPt_one rfl rfl (fun K hK => ?_)
      refine oper_str1 _ _ 5 _ rfl Try.underlying22 Try.underlying5 Try.underlying9 _ 0 rfl (by simp <;> omega) (by simp [go_sem, ↓IntWalk.iteOmega]) ?_
      refine hK _ _ (fun hkn => trivial) ?_
      clear hK K
      refine wpPt_one rfl rfl (fun K hK => ?_)
      go_simp
      refine (l9Many_e _ z _ (by simp [bstr_size]) (by omega)).mono ?_
      rintro e w' ⟨r, rfl, hr, hrz, x3, rfl⟩
      have HZ := Lib.hid (show ∀ v, v ∈ r.data.toList → v = 0 from fun v hv => by simpa [bstr] using hrz v hv)
      clear hrz
      rw [bstr_size] at hr
      have hr2 : r.size ≤ 4001 := by simp at hr; omega
      refine hK _ _ (fun hkn => trivial) ?_
      clear hK K
      refine wpPt_one rfl rfl (fun K hK => ?_)
      go_simp
      refine hK _ _ (fun hkn => absurd hkn (by decide)) ?_
      clear hK K
      refine NoPanic.normal ?_
      rotate_left
      go_simp
      refine hK _ _ (fun hkn => trivial) ?_
      clear hK K
      refine wpPt_two rfl rfl rfl rfl (fun K hK => ?_) (fun K hK => ?_)
      go_simp
      refine hK _ _ (fun hkn => trivial) ?_
      clear hK K
      refine wpPt_two rfl rfl rfl rfl (fun K hK => ?_) (fun K hK => ?_)
      refine oper_str1 _ _ 5 _ rfl Try.underlying22 Try.underlying5 Try.underlying9 _ 0 rfl (by simp <;> omega) (by simp [go_sem, ↓IntWalk.iteOmega]) ?_
      refine hK _ _ (fun hkn => trivial) ?_
      clear hK K
      refine wpPt_one rfl rfl (fun K hK => ?_)
      go_simp
      refine (num_d B _ _ (by repeat (first | (with_reducible exact H7.out.src) | (with_reducible apply dsrc_seq) | (with_reducible apply dsrc_draw) | (with_reducible apply Dsrc.plus) | (with_reducible apply Dsrc.alloc) | (with_reducible apply Dsrc.drew))) (by omega) _ _ [4000, 4001] (by first | exact rd_lit _ _ _ _ _ (by simp <;> omega) rfl (by decide) | exact Rd.alloc (rd_lit _ _ _ _ _ (by simp <;> omega) rfl (by decide)) _) (fun X hX => by cases hX; have := H7.out.low; simp <;> omega) (by decide)).mono ?_
      rintro e w8 ⟨z, rfl, hz, hdn⟩
      have hz2 : z = 4000 ∨ z = 4001 := by simpa using hz
      obtain ⟨z, rfl⟩ : ∃ k : Nat, z = k := ⟨z.toNat, by omega⟩
      have hk8 := (H7.out.more (by repeat (first | exact More.refl _ | apply More.plus | apply More.alloc | apply More.drew | apply More.drewN))).draw hdn
      obtain ⟨hdx, cur8, x8, rfl⟩ := hdn
      (try simp only [plus_patch_drew] at hk8)
      have H8 := Lib.hid hk8
      clear hdx hz hk8
      refine hK _ _ (fun hkn => trivial) ?_
      clear hK K
      refine wpPt_one rfl rfl (fun K hK => ?_)
      go_simp
      refine (l9Many_e _ z _ (by simp [bstr_size]) (by omega)).mono ?_
      rintro e w' ⟨r, rfl, hr, hrz, x3, rfl⟩
      have HZ := Lib.hid (show ∀ v, v ∈ r.data.toList → v = 0 from fun v hv => by simpa [bstr] using hrz v hv)
      clear hrz
      rw [bstr_size] at hr
      have hr2 : r.size ≤ 4001 := by simp at hr; omega
      refine hK _ _ (fun hkn => trivial) ?_
      clear hK K
      refine wpPt_one rfl rfl (fun K hK => ?_)
      go_simp
      refine hK _ _ (fun hkn => absurd hkn (by decide)) ?_
      clear hK K
      refine NoPanic.normal ?_
      rotate_left
      go_simp
      refine (num_d B _ _ (by repeat (first | (with_reducible exact H7.out.src) | (with_reducible apply dsrc_seq) | (with_reducible apply dsrc_draw) | (with_reducible apply Dsrc.plus) | (with_reducible apply Dsrc.alloc) | (with_reducible apply Dsrc.drew))) (by omega) _ _ [4000, 4001] (by first | exact rd_lit _ _ _ _ _ (by simp <;> omega) rfl (by decide) | exact Rd.alloc (rd_lit _ _ _ _ _ (by simp <;> omega) rfl (by decide)) _) (fun X hX => by cases hX; have := H7.out.low; simp <;> omega) (by decide)).mono ?_
      rintro e w8 ⟨z, rfl, hz, hdn⟩
      have hz2 : z = 4000 ∨ z = 4001 := by simpa using hz
      obtain ⟨z, rfl⟩ : ∃ k : Nat, z = k := ⟨z.toNat, by omega⟩
      have hk8 := (H7.out.more (by repeat (first | exact More.refl _ | apply More.plus | apply More.alloc | apply More.drew | apply More.drewN))).draw hdn
      obtain ⟨hdx, cur8, x8, rfl⟩ := hdn
      (try simp only [plus_patch_drew] at hk8)
      have H8 := Lib.hid hk8
      clear hdx hz hk8
      refine hK _ _ (fun hkn => trivial) ?_
      clear hK K
      refine wpPt_one rfl rfl (fun K hK => ?_)
      refine oper_str1 _ _ 5 _ rfl Try.underlying22 Try.underlying5 Try.underlying9 _ 0 rfl (by simp <;> omega) (by simp [go_sem, ↓IntWalk.iteOmega]) ?_
      refine hK _ _ (fun hkn => trivial) ?_
      clear hK K
      refine wpPt_one rfl rfl (fun K hK => ?_)
      go_simp
      refine (l9Many_e _ z _ (by simp [bstr_size]) (by omega)).mono ?_
      rintro e w' ⟨r, rfl, hr, hrz, x3, rfl⟩
      have HZ := Lib.hid (show ∀ v, v ∈ r.data.toList → v = 0 from fun v hv => by simpa [bstr] using hrz v hv)
      clear hrz
      rw [bstr_size] at hr
      have hr2 : r.size ≤ 4001 := by simp at hr; omega
      refine hK _ _ (fun hkn => trivial) ?_
      clear hK K
      refine wpPt_one rfl rfl (fun K hK => ?_)
      go_simp
      refine hK _ _ (fun hkn => absurd hkn (by decide)) ?_
      clear hK K
      refine NoPanic.normal ?_
      rotate_left
      go_simp
      refine (num_d B _ _ (by repeat (first | (with_reducible exact H7.out.src) | (with_reducible apply dsrc_seq) | (with_reducible apply dsrc_draw) | (with_reducible apply Dsrc.plus) | (with_reducible apply Dsrc.alloc) | (with_reducible apply Dsrc.drew))) (by omega) _ _ [4000, 4001] (by first | exact rd_lit _ _ _ _ _ (by simp <;> omega) rfl (by decide) | exact Rd.alloc (rd_lit _ _ _ _ _ (by simp <;> omega) rfl (by decide)) _) (fun X hX => by cases hX; have := H7.out.low; simp <;> omega) (by decide)).mono ?_
      rintro e w8 ⟨z, rfl, hz, hdn⟩
      have hz2 : z = 4000 ∨ z = 4001 := by simpa using hz
      obtain ⟨z, rfl⟩ : ∃ k : Nat, z = k := ⟨z.toNat, by omega⟩
      have hk8 := (H7.out.more (by repeat (first | exact More.refl _ | apply More.plus | apply More.alloc | apply More.drew | apply More.drewN))).draw hdn
      obtain ⟨hdx, cur8, x8, rfl⟩ := hdn
      (try simp only [plus_patch_drew] at hk8)
      have H8 := Lib.hid hk8
      clear hdx hz hk8
      refine hK _ _ (fun hkn => trivial) ?_
      clear hK K
      refine wpPt_one rfl rfl (fun K hK => ?_)
      go_simp
      refine hK _ _ (fun hkn => trivial) ?_
      clear hK K
      refine wpPt_one rfl rfl (fun K hK => ?_)
      refine oper_str1 _ _ 5 _ rfl Try.underlying22 Try.underlying5 Try.underlying9 _ 0 rfl (by simp <;> omega) (by simp [go_sem, ↓IntWalk.iteOmega]) ?_
      refine hK _ _ (fun hkn => trivial) ?_
      clear hK K
      refine wpPt_one rfl rfl (fun K hK => ?_)
      go_simp
      refine (l9Many_e _ z _ (by simp [bstr_size]) (by omega)).mono ?_
      rintro e w' ⟨r, rfl, hr, hrz, x3, rfl⟩
      have HZ := Lib.hid (show ∀ v, v ∈ r.data.toList → v = 0 from fun v hv => by simpa [bstr] using hrz v hv)
      clear hrz
      rw [bstr_size] at hr
      have hr2 : r.size ≤ 4001 := by simp at hr; omega
      refine hK _ _ (fun hkn => trivial) ?_
      clear hK K
      refine wpPt_one rfl rfl (fun K hK => ?_)
      go_simp
      refine hK _ _ (fun hkn => absurd hkn (by decide)) ?_
      clear hK K
      refine NoPanic.normal ?_
      all_goals
        go_wp2_with fail
        refine calls_nm (fun Y => KD w Y D B 300 o l m b pa pc ps last) ((H8.out.more (by repeat (first | exact More.refl _ | (with_reducible apply more_seq) | (with_reducible apply more_draw) | apply More.plus | apply More.alloc | apply More.drew))).mono (by omega)) ?_
        intro Y hY
        have HY := Lib.hid hY
        clear hY
        refine (l2Bad_d B _ o l m pa pc ps b last _ HY.out.src (by omega) hs HY.out.rd (fun X hX => (HY.out.off X hX).1) (by omega)).mono ?_
        rintro e w9 ⟨o2, l2', m2, pa9, pc9, qs, base9, last9, rfl, hq9, hrd9, hoff9, hdn⟩
        have H9 := Lib.hid (HY.out.draw hdn)
        have HR9 := Lib.hid hrd9
        have hz9 := HY.out.lt.1
        have hblk9 : ∀ X, pa9 = some X → w.heap.size < X.block := fun X hX => by
          rcases hoff9 X hX with h | h
          · exact (HY.out.off X h).2
          · omega
        clear hrd9 hoff9 hdn
        have r9 := cell_of H9.out.res
        have f9 := free_of H9.out.res
        have s9 := fun i v => setCell_patch H9.out.res i v
        have z9 := H9.out.lt.1
        go_wp2_with fail
        exact bodyPost_ret (v := .tuple #[.agg #[.int .i64 o2, .int .i64 l2', .int .i64 m2, .slice pa9 qs.length pc9, .int .i64 base9, .int .i64 last9], .string r]) (by simp [results, Try.results13, go_sem, ↓IntWalk.iteOmega]) rfl ⟨o2, l2', m2, pa9, pc9, qs, base9, last9, r, rfl, hq9, by omega, rd_patch HR9.out _ _ (fun X hX => by have := hblk9 X hX; omega), below_more (below_patch H9.out.bel (Nat.le_refl _) _), hblk9, (by first | exact .inl (by omega) | exact .inr HZ.out)⟩
    · have q7 : ((v7 : Int) == 0) = false := by simp; omega
      go_wp2_with fail
      refine calls_nm (fun Y => KD w Y D B 300 o l m b pa pc ps last) ((H7.out.more (by repeat (first | exact More.refl _ | (with_reducible apply more_seq) | (with_reducible apply more_draw) | apply More.plus | apply More.alloc | apply More.drew))).mono (by omega)) ?_
      intro Y hY
      have HY := Lib.hid hY
      clear hY
      refine (l2Bad_d B _ o l m pa pc ps b last _ HY.out.src (by omega) hs HY.out.rd (fun X hX => (HY.out.off X hX).1) (by omega)).mono ?_
      rintro e w9 ⟨o2, l2', m2, pa9, pc9, qs, base9, last9, rfl, hq9, hrd9, hoff9, hdn⟩
      have H9 := Lib.hid (HY.out.draw hdn)
      have HR9 := Lib.hid hrd9
      have hz9 := HY.out.lt.1
      have hblk9 : ∀ X, pa9 = some X → w.heap.size < X.block := fun X hX => by
        rcases hoff9 X hX with h | h
        · exact (HY.out.off X h).2
        · omega
      clear hrd9 hoff9 hdn
      have r9 := cell_of H9.out.res
      have f9 := free_of H9.out.res
      have s9 := fun i v => setCell_patch H9.out.res i v
      have z9 := H9.out.lt.1
      go_wp2_with fail
      exact bodyPost_ret (v := .tuple #[.agg #[.int .i64 o2, .int .i64 l2', .int .i64 m2, .slice pa9 qs.length pc9, .int .i64 base9, .int .i64 last9], .string U]) (by simp [results, Try.results13, go_sem, ↓IntWalk.iteOmega]) rfl ⟨o2, l2', m2, pa9, pc9, qs, base9, last9, U, rfl, hq9, by omega, rd_patch HR9.out _ _ (fun X hX => by have := hblk9 X hX; omega), below_more (below_patch H9.out.bel (Nat.le_refl _) _), hblk9, (by first | exact .inl (by omega) | exact .inr HZ.out)⟩
  · have q0 : ((v : Int) == 0) = false := by simp; omega
    have q1 : ((v : Int) == 1) = false := by simp; omega
    have q2 : ((v : Int) == 2) = false := by simp; omega
    go_wp2_with fail
    refine (pick_d B _ _ _ HB.out.src (by omega)).mono ?_
    rintro e w7 ⟨v7, rfl, hv7, hdn⟩
    have H7 := Lib.hid (HB.out.draw hdn)
    clear hdn
    have r7 := cell_of H7.out.blk
    have z7 := H7.out.lt
    obtain ⟨z7a, z7b⟩ := z7
    have hB7 := H7.out.src.B_lt
    have hBD7 := H7.out.low.2
    rcases (by omega : v7 = 0 ∨ 0 < v7) with hv9 | hv9
    · have q7 : ((v7 : Int) == 0) = true := by simp; omega
      go_wp2_with fail
      refine wp_region_pt 6 (fun _ => True) (Plan.quiet 2 (Plan.two 0 (Plan.two 1 (Plan.one 3 (Plan.one 4 (Plan.one 5 (Plan.one 6 Plan.done)))) 3 (Plan.two 1 (Plan.one 4 (Plan.one 5 (Plan.one 6 Plan.done))) 4 (Plan.one 1 (Plan.one 5 (Plan.one 6 Plan.done))))) 3 (Plan.two 0 (Plan.two 1 (Plan.one 4 (Plan.one 5 (Plan.one 6 Plan.done))) 4 (Plan.one 1 (Plan.one 5 (Plan.one 6 Plan.done)))) 4 (Plan.one 0 (Plan.one 1 (Plan.one 5 (Plan.one 6 Plan.done))))))) (by kernel_rfl) (by kernel_rfl) (trivial) ?_
      refine wpPt_val rfl rfl ?_
      apply Exists.intro
      refine ⟨fun w' hS => ?_, ?_⟩
      focus (skip; simp [go_sem, ↓IntWalk.iteOmega] <;> first | done | exact rfl | (rw [IntWalk.i64_in _ (by omega)]; exact rfl) | trace_state)
      refine wpPt_two rfl rfl rfl rfl (fun K hK => ?_) (fun K hK => ?_)
      go_simp
      refine hK _ _ (fun hkn => trivial) ?_
      clear hK K
      refine wpPt_two rfl rfl rfl rfl (fun K hK => ?_) (fun K hK => ?_)
      refine oper_str1 _ _ 5 _ rfl Try.underlying22 Try.underlying5 Try.underlying9 _ 0 rfl (by simp <;> omega) (by simp [go_sem, ↓IntWalk.iteOmega]) ?_
      refine hK _ _ (fun hkn => trivial) ?_
      clear hK K
      refine wpPt_one rfl rfl (fun K hK => ?_)
      go_simp
      refine hK _ _ (fun hkn => trivial) ?_
      clear hK K
      refine wpPt_one rfl rfl (fun K hK => ?_)
      go_simp
      refine (num_d B _ _ (by repeat (first | (with_reducible exact H7.out.src) | (with_reducible apply dsrc_seq) | (with_reducible apply dsrc_draw) | (with_reducible apply Dsrc.plus) | (with_reducible apply Dsrc.alloc) | (with_reducible apply Dsrc.drew))) (by omega) _ _ [4000, 4001] (by first | exact rd_lit _ _ _ _ _ (by simp <;> omega) rfl (by decide) | exact Rd.alloc (rd_lit _ _ _ _ _ (by simp <;> omega) rfl (by decide)) _) (fun X hX => by cases hX; have := H7.out.low; simp <;> omega) (by decide)).mono ?_
      rintro e w8 ⟨z, rfl, hz, hdn⟩
      have hz2 : z = 4000 ∨ z = 4001 := by simpa using hz
      obtain ⟨z, rfl⟩ : ∃ k : Nat, z = k := ⟨z.toNat, by omega⟩
      have hk8 := (H7.out.more (by repeat (first | exact More.refl _ | apply More.plus | apply More.alloc | apply More.drew | apply More.drewN))).draw hdn
      obtain ⟨hdx, cur8, x8, rfl⟩ := hdn
      (try simp only [plus_patch_drew] at hk8)
      have H8 := Lib.hid hk8
      clear hdx hz hk8
      refine hK _ _ (fun hkn => trivial) ?_
      clear hK K
      refine wpPt_one rfl rfl (fun K hK => ?_)
      go_simp
      refine (l9Many_e _ z _ (by simp [bstr_size]) (by omega)).mono ?_
      rintro e w' ⟨r, rfl, hr, hrz, x3, rfl⟩
      have HZ := Lib.hid (show ∀ v, v ∈ r.data.toList → v = 0 from fun v hv => by simpa [bstr] using hrz v hv)
      clear hrz
      rw [bstr_size] at hr
      have hr2 : r.size ≤ 4001 := by simp at hr; omega
      refine hK _ _ (fun hkn => trivial) ?_
      clear hK K
      refine wpPt_one rfl rfl (fun K hK => ?_)
      go_simp
      refine hK _ _ (fun hkn => absurd hkn (by decide)) ?_
      clear hK K
      refine NoPanic.normal ?_
      rotate_left
      go_simp
      refine hK _ _ (fun hkn => trivial) ?_
      clear hK K
      refine wpPt_two rfl rfl rfl rfl (fun K hK => ?_) (fun K hK => ?_)
      refine oper_str1 _ _ 5 _ rfl Try.underlying22 Try.underlying5 Try.underlying9 _ 0 rfl (by simp <;> omega) (by simp [go_sem, ↓IntWalk.iteOmega]) ?_
      refine hK _ _ (fun hkn => trivial) ?_
      clear hK K
      refine wpPt_one rfl rfl (fun K hK => ?_)
      go_simp
      refine (num_d B _ _ (by repeat (first | (with_reducible exact H7.out.src) | (with_reducible apply dsrc_seq) | (with_reducible apply dsrc_draw) | (with_reducible apply Dsrc.plus) | (with_reducible apply Dsrc.alloc) | (with_reducible apply Dsrc.drew))) (by omega) _ _ [4000, 4001] (by first | exact rd_lit _ _ _ _ _ (by simp <;> omega) rfl (by decide) | exact Rd.alloc (rd_lit _ _ _ _ _ (by simp <;> omega) rfl (by decide)) _) (fun X hX => by cases hX; have := H7.out.low; simp <;> omega) (by decide)).mono ?_
      rintro e w8 ⟨z, rfl, hz, hdn⟩
      have hz2 : z = 4000 ∨ z = 4001 := by simpa using hz
      obtain ⟨z, rfl⟩ : ∃ k : Nat, z = k := ⟨z.toNat, by omega⟩
      have hk8 := (H7.out.more (by repeat (first | exact More.refl _ | apply More.plus | apply More.alloc | apply More.drew | apply More.drewN))).draw hdn
      obtain ⟨hdx, cur8, x8, rfl⟩ := hdn
      (try simp only [plus_patch_drew] at hk8)
      have H8 := Lib.hid hk8
      clear hdx hz hk8
      refine hK _ _ (fun hkn => trivial) ?_
      clear hK K
      refine wpPt_one rfl rfl (fun K hK => ?_)
      go_simp
      refine (l9Many_e _ z _ (by simp [bstr_size]) (by omega)).mono ?_
      rintro e w' ⟨r, rfl, hr, hrz, x3, rfl⟩
      have HZ := Lib.hid (show ∀ v, v ∈ r.data.toList → v = 0 from fun v hv => by simpa [bstr] using hrz v hv)
      clear hrz
      rw [bstr_size] at hr
      have hr2 : r.size ≤ 4001 := by simp at hr; omega
      refine hK _ _ (fun hkn => trivial) ?_
      clear hK K
      refine wpPt_one rfl rfl (fun K hK => ?_)
      go_simp
      refine hK _ _ (fun hkn => absurd hkn (by decide)) ?_
      clear hK K
      refine NoPanic.normal ?_
      rotate_left
      go_simp
      refine (num_d B _ _ (by repeat (first | (with_reducible exact H7.out.src) | (with_reducible apply dsrc_seq) | (with_reducible apply dsrc_draw) | (with_reducible apply Dsrc.plus) | (with_reducible apply Dsrc.alloc) | (with_reducible apply Dsrc.drew))) (by omega) _ _ [4000, 4001] (by first | exact rd_lit _ _ _ _ _ (by simp <;> omega) rfl (by decide) | exact Rd.alloc (rd_lit _ _ _ _ _ (by simp <;> omega) rfl (by decide)) _) (fun X hX => by cases hX; have := H7.out.low; simp <;> omega) (by decide)).mono ?_
      rintro e w8 ⟨z, rfl, hz, hdn⟩
      have hz2 : z = 4000 ∨ z = 4001 := by simpa using hz
      obtain ⟨z, rfl⟩ : ∃ k : Nat, z = k := ⟨z.toNat, by omega⟩
      have hk8 := (H7.out.more (by repeat (first | exact More.refl _ | apply More.plus | apply More.alloc | apply More.drew | apply More.drewN))).draw hdn
      obtain ⟨hdx, cur8, x8, rfl⟩ := hdn
      (try simp only [plus_patch_drew] at hk8)
      have H8 := Lib.hid hk8
      clear hdx hz hk8
      refine hK _ _ (fun hkn => trivial) ?_
      clear hK K
      refine wpPt_one rfl rfl (fun K hK => ?_)
      refine oper_str1 _ _ 5 _ rfl Try.underlying22 Try.underlying5 Try.underlying9 _ 0 rfl (by simp <;> omega) (by simp [go_sem, ↓IntWalk.iteOmega]) ?_
      refine hK _ _ (fun hkn => trivial) ?_
      clear hK K
      refine wpPt_one rfl rfl (fun K hK => ?_)
      go_simp
      refine (l9Many_e _ z _ (by simp [bstr_size]) (by omega)).mono ?_
      rintro e w' ⟨r, rfl, hr, hrz, x3, rfl⟩
      have HZ := Lib.hid (show ∀ v, v ∈ r.data.toList → v = 0 from fun v hv => by simpa [bstr] using hrz v hv)
      clear hrz
      rw [bstr_size] at hr
      have hr2 : r.size ≤ 4001 := by simp at hr; omega
      refine hK _ _ (fun hkn => trivial) ?_
      clear hK K
      refine wpPt_one rfl rfl (fun K hK => ?_)
      go_simp
      refine hK _ _ (fun hkn => absurd hkn (by decide)) ?_
      clear hK K
      refine NoPanic.normal ?_
      rotate_left
      go_simp
      refine hK _ _ (fun hkn => trivial) ?_
      clear hK K
      refine wpPt_two rfl rfl rfl rfl (fun K hK => ?_) (fun K hK => ?_)
      go_simp
      refine hK _ _ (fun hkn => trivial) ?_
      clear hK K
      refine wpPt_two rfl rfl rfl rfl (fun K hK => ?_) (fun K hK => ?_)
      refine oper_str1 _ _ 5 _ rfl Try.underlying22 Try.underlying5 Try.underlying9 _ 0 rfl (by simp <;> omega) (by simp [go_sem, ↓IntWalk.iteOmega]) ?_
      refine hK _ _ (fun hkn => trivial) ?_
      clear hK K
      refine wpPt_one rfl rfl (fun K hK => ?_)
      go_simp
      refine (num_d B _ _ (by repeat (first | (with_reducible exact H7.out.src) | (with_reducible apply dsrc_seq) | (with_reducible apply dsrc_draw) | (with_reducible apply Dsrc.plus) | (with_reducible apply Dsrc.alloc) | (with_reducible apply Dsrc.drew))) (by omega) _ _ [4000, 4001] (by first | exact rd_lit _ _ _ _ _ (by simp <;> omega) rfl (by decide) | exact Rd.alloc (rd_lit _ _ _ _ _ (by simp <;> omega) rfl (by decide)) _) (fun X hX => by cases hX; have := H7.out.low; simp <;> omega) (by decide)).mono ?_
      rintro e w8 ⟨z, rfl, hz, hdn⟩
      have hz2 : z = 4000 ∨ z = 4001 := by simpa using hz
      obtain ⟨z, rfl⟩ : ∃ k : Nat, z = k := ⟨z.toNat, by omega⟩
      have hk8 := (H7.out.more (by repeat (first | exact More.refl _ | apply More.plus | apply More.alloc | apply More.drew | apply More.drewN))).draw hdn
      obtain ⟨hdx, cur8, x8, rfl⟩ := hdn
      (try simp only [plus_patch_drew] at hk8)
      have H8 := Lib.hid hk8
      clear hdx hz hk8
      refine hK _ _ (fun hkn => trivial) ?_
      clear hK K
      refine wpPt_one rfl rfl (fun K hK => ?_)
      go_simp
      refine (l9Many_e _ z _ (by simp [bstr_size]) (by omega)).mono ?_
      rintro e w' ⟨r, rfl, hr, hrz, x3, rfl⟩
      have HZ := Lib.hid (show ∀ v, v ∈ r.data.toList → v = 0 from fun v hv => by simpa [bstr] using hrz v hv)
      clear hrz
      rw [bstr_size] at hr
      have hr2 : r.size ≤ 4001 := by simp at hr; omega
      refine hK _ _ (fun hkn => trivial) ?_
      clear hK K
      refine wpPt_one rfl rfl (fun K hK => ?_)
      go_simp
      refine hK _ _ (fun hkn => absurd hkn (by decide)) ?_
      clear hK K
      refine NoPanic.normal ?_
      rotate_left
      go_simp
      refine (num_d B _ _ (by repeat (first | (with_reducible exact H7.out.src) | (with_reducible apply dsrc_seq) | (with_reducible apply dsrc_draw) | (with_reducible apply Dsrc.plus) | (with_reducible apply Dsrc.alloc) | (with_reducible apply Dsrc.drew))) (by omega) _ _ [4000, 4001] (by first | exact rd_lit _ _ _ _ _ (by simp <;> omega) rfl (by decide) | exact Rd.alloc (rd_lit _ _ _ _ _ (by simp <;> omega) rfl (by decide)) _) (fun X hX => by cases hX; have := H7.out.low; simp <;> omega) (by decide)).mono ?_
      rintro e w8 ⟨z, rfl, hz, hdn⟩
      have hz2 : z = 4000 ∨ z = 4001 := by simpa using hz
      obtain ⟨z, rfl⟩ : ∃ k : Nat, z = k := ⟨z.toNat, by omega⟩
      have hk8 := (H7.out.more (by repeat (first | exact More.refl _ | apply More.plus | apply More.alloc | apply More.drew | apply More.drewN))).draw hdn
      obtain ⟨hdx, cur8, x8, rfl⟩ := hdn
      (try simp only [plus_patch_drew] at hk8)
      have H8 := Lib.hid hk8
      clear hdx hz hk8
      refine hK _ _ (fun hkn => trivial) ?_
      clear hK K
      refine wpPt_one rfl rfl (fun K hK => ?_)
      refine oper_str1 _ _ 5 _ rfl Try.underlying22 Try.underlying5 Try.underlying9 _ 0 rfl (by simp <;> omega) (by simp [go_sem, ↓IntWalk.iteOmega]) ?_
      refine hK _ _ (fun hkn => trivial) ?_
      clear hK K
      refine wpPt_one rfl rfl (fun K hK => ?_)
      go_simp
      refine (l9Many_e _ z _ (by simp [bstr_size]) (by omega)).mono ?_
      rintro e w' ⟨r, rfl, hr, hrz, x3, rfl⟩
      have HZ := Lib.hid (show ∀ v, v ∈ r.data.toList → v = 0 from fun v hv => by simpa [bstr] using hrz v hv)
      clear hrz
      rw [bstr_size] at hr
      have hr2 : r.size ≤ 4001 := by simp at hr; omega
      refine hK _ _ (fun hkn => trivial) ?_
      clear hK K
      refine wpPt_one rfl rfl (fun K hK => ?_)
      go_simp
      refine hK _ _ (fun hkn => absurd hkn (by decide)) ?_
      clear hK K
      refine NoPanic.normal ?_
      rotate_left
      go_simp
      refine (num_d B _ _ (by repeat (first | (with_reducible exact H7.out.src) | (with_reducible apply dsrc_seq) | (with_reducible apply dsrc_draw) | (with_reducible apply Dsrc.plus) | (with_reducible apply Dsrc.alloc) | (with_reducible apply Dsrc.drew))) (by omega) _ _ [4000, 4001] (by first | exact rd_lit _ _ _ _ _ (by simp <;> omega) rfl (by decide) | exact Rd.alloc (rd_lit _ _ _ _ _ (by simp <;> omega) rfl (by decide)) _) (fun X hX => by cases hX; have := H7.out.low; simp <;> omega) (by decide)).mono ?_
      rintro e w8 ⟨z, rfl, hz, hdn⟩
      have hz2 : z = 4000 ∨ z = 4001 := by simpa using hz
      obtain ⟨z, rfl⟩ : ∃ k : Nat, z = k := ⟨z.toNat, by omega⟩
      have hk8 := (H7.out.more (by repeat (first | exact More.refl _ | apply More.plus | apply More.alloc | apply More.drew | apply More.drewN))).draw hdn
      obtain ⟨hdx, cur8, x8, rfl⟩ := hdn
      (try simp only [plus_patch_drew] at hk8)
      have H8 := Lib.hid hk8
      clear hdx hz hk8
      refine hK _ _ (fun hkn => trivial) ?_
      clear hK K
      refine wpPt_one rfl rfl (fun K hK => ?_)
      go_simp
      refine hK _ _ (fun hkn => trivial) ?_
      clear hK K
      refine wpPt_one rfl rfl (fun K hK => ?_)
      refine oper_str1 _ _ 5 _ rfl Try.underlying22 Try.underlying5 Try.underlying9 _ 0 rfl (by simp <;> omega) (by simp [go_sem, ↓IntWalk.iteOmega]) ?_
      refine hK _ _ (fun hkn => trivial) ?_
      clear hK K
      refine wpPt_one rfl rfl (fun K hK => ?_)
      go_simp
      refine (l9Many_e _ z _ (by simp [bstr_size]) (by omega)).mono ?_
      rintro e w' ⟨r, rfl, hr, hrz, x3, rfl⟩
      have HZ := Lib.hid (show ∀ v, v ∈ r.data.toList → v = 0 from fun v hv => by simpa [bstr] using hrz v hv)
      clear hrz
      rw [bstr_size] at hr
      have hr2 : r.size ≤ 4001 := by simp at hr; omega
      refine hK _ _ (fun hkn => trivial) ?_
      clear hK K
      refine wpPt_one rfl rfl (fun K hK => ?_)
      go_simp
      refine hK _ _ (fun hkn => absurd hkn (by decide)) ?_
      clear hK K
      refine NoPanic.normal ?_
      all_goals
        go_wp2_with fail
        refine calls_nm (fun Y => KD w Y D B 300 o l m b pa pc ps last) ((H8.out.more (by repeat (first | exact More.refl _ | (with_reducible apply more_seq) | (with_reducible apply more_draw) | apply More.plus | apply More.alloc | apply More.drew))).mono (by omega)) ?_
        intro Y hY
        have HY := Lib.hid hY
        clear hY
        refine (l2Bad_d B _ o l m pa pc ps b last _ HY.out.src (by omega) hs HY.out.rd (fun X hX => (HY.out.off X hX).1) (by omega)).mono ?_
        rintro e w9 ⟨o2, l2', m2, pa9, pc9, qs, base9, last9, rfl, hq9, hrd9, hoff9, hdn⟩
        have H9 := Lib.hid (HY.out.draw hdn)
        have HR9 := Lib.hid hrd9
        have hz9 := HY.out.lt.1
        have hblk9 : ∀ X, pa9 = some X → w.heap.size < X.block := fun X hX => by
          rcases hoff9 X hX with h | h
          · exact (HY.out.off X h).2
          · omega
        clear hrd9 hoff9 hdn
        have r9 := cell_of H9.out.res
        have f9 := free_of H9.out.res
        have s9 := fun i v => setCell_patch H9.out.res i v
        have z9 := H9.out.lt.1
        go_wp2_with fail
        exact bodyPost_ret (v := .tuple #[.agg #[.int .i64 o2, .int .i64 l2', .int .i64 m2, .slice pa9 qs.length pc9, .int .i64 base9, .int .i64 last9], .string r]) (by simp [results, Try.results13, go_sem, ↓IntWalk.iteOmega]) rfl ⟨o2, l2', m2, pa9, pc9, qs, base9, last9, r, rfl, hq9, by omega, rd_patch HR9.out _ _ (fun X hX => by have := hblk9 X hX; omega), below_more (below_patch H9.out.bel (Nat.le_refl _) _), hblk9, (by first | exact .inl (by omega) | exact .inr HZ.out)⟩
    · have q7 : ((v7 : Int) == 0) = false := by simp; omega
      go_wp2_with fail
      refine calls_nm (fun Y => KD w Y D B 300 o l m b pa pc ps last) ((H7.out.more (by repeat (first | exact More.refl _ | (with_reducible apply more_seq) | (with_reducible apply more_draw) | apply More.plus | apply More.alloc | apply More.drew))).mono (by omega)) ?_
      intro Y hY
      have HY := Lib.hid hY
      clear hY
      refine (l2Bad_d B _ o l m pa pc ps b last _ HY.out.src (by omega) hs HY.out.rd (fun X hX => (HY.out.off X hX).1) (by omega)).mono ?_
      rintro e w9 ⟨o2, l2', m2, pa9, pc9, qs, base9, last9, rfl, hq9, hrd9, hoff9, hdn⟩
      have H9 := Lib.hid (HY.out.draw hdn)
      have HR9 := Lib.hid hrd9
      have hz9 := HY.out.lt.1
      have hblk9 : ∀ X, pa9 = some X → w.heap.size < X.block := fun X hX => by
        rcases hoff9 X hX with h | h
        · exact (HY.out.off X h).2
        · omega
      clear hrd9 hoff9 hdn
      have r9 := cell_of H9.out.res
      have f9 := free_of H9.out.res
      have s9 := fun i v => setCell_patch H9.out.res i v
      have z9 := H9.out.lt.1
      go_wp2_with fail
      exact bodyPost_ret (v := .tuple #[.agg #[.int .i64 o2, .int .i64 l2', .int .i64 m2, .slice pa9 qs.length pc9, .int .i64 base9, .int .i64 last9], .string S]) (by simp [results, Try.results13, go_sem, ↓IntWalk.iteOmega]) rfl ⟨o2, l2', m2, pa9, pc9, qs, base9, last9, S, rfl, hq9, by omega, rd_patch HR9.out _ _ (fun X hX => by have := hblk9 X hX; omega), below_more (below_patch H9.out.bel (Nat.le_refl _) _), hblk9, (by first | exact .inl (by omega) | exact .inr HZ.out)⟩

theorem DrawUnpackCodes_at (a : Option Addr) (cap : Nat) (bs : List UInt8) (w : World) (hr : Rd encB w a cap bs) :
    Calls Try.prog 13 #[.slice a bs.length cap] w (RetKl w) :=
  (DrawUnpackCodes_z a cap bs w hr).mono fun e w' ⟨o, l, m, pa, pc, ps, base, last, s, h1, h2, h3, h4, h5, h6, _⟩ => ⟨o, l, m, pa, pc, ps, base, last, s, h1, h2, h3, h4, h5, h6⟩

end Go.Proofs.Ytibfkfinghcpaaa
