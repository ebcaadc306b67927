/- Draws: DrawSharedWords. -/
import Derived.Test.YtkpmaifdeeecjaaDcf
import Derived.Test.YtkpmaifdeeecjaaDri
import Derived.Test.YtkpmaifdeeecjaaLst
import Derived.Test.YtkpmaifdeeecjaaLsw
namespace Go.Proofs.Ytkpmaifdeeecjaa
open Go.RowKit
set_option linter.unusedVariables false
set_option linter.unusedSimpArgs false

/-- two blocks for results and a setting beside a source -/
structure KW (w wr : World) (B D n : Nat) (o l m : Int) : Prop where
  r1 : wr.heap[w.heap.size]? = some (.cells #[.int .i64 0, .int .i64 0, .int .i64 0, .slice none 0 0, .int .i64 0, .int .i64 0] 27 (0, 0))
  r2 : wr.heap[w.heap.size + 1]? = some (.cells #[.int .i64 0, .int .i64 0, .int .i64 0, .slice none 0 0, .int .i64 0, .int .i64 0] 27 (0, 0))
  set : wr.heap[D]? = some (.cells #[.int .i64 o, .int .i64 l, .int .i64 m] 24 (0, 0))
  src : Dsrc wr B n
  bel : Below w.heap.size w wr
  low : w.heap.size + 1 < B ∧ B < D

/-- what is known in a block beside a source -/
structure KA (w wr : World) (B E : Nat) (o l m : Int) (pa : Option Addr) (pc : Nat) (ps : List Pr) (b last : Int) : Prop where
  blk : wr.heap[E]? = some (.cells #[.int .i64 o, .int .i64 l, .int .i64 m, .slice pa ps.length pc, .int .i64 b, .int .i64 last] 27 (0, 0))
  rd : Rd encP wr pa pc ps
  off : ∀ Y, pa = some Y → Y.block ≠ B ∧ w.heap.size + 1 < Y.block
  low : B < E

section
variable {w wr w' : World} {B D E n n' : Nat} {o l m b last : Int} {pa : Option Addr} {pc : Nat} {ps : List Pr}

theorem KW.lt (h : KW w wr B D n o l m) : D < wr.heap.size := (Array.getElem?_eq_some_iff.1 h.set).1

theorem KW.draw (h : KW w wr B D n o l m) (hd : Drn wr B n' w') : KW w w' B D n' o l m := by
  have hg := hd.grew
  have hlow := h.low
  have hlt := h.lt
  exact ⟨blk_grew hg h.r1 (fun X hX e => by cases hX; simp at e; omega), blk_grew hg h.r2 (fun X hX e => by cases hX; simp at e; omega), blk_grew hg h.set (fun X hX e => by cases hX; simp at e; omega), hd.1, h.bel.trans (hg.below (B := w.heap.size) (by omega) (fun X hX => by cases hX; simp; omega)), hlow⟩

theorem KW.more (h : KW w wr B D n o l m) (hm : More wr w') : KW w w' B D n o l m := by
  obtain ⟨x, rfl⟩ := hm
  have hlt := h.lt
  have hlow := h.low
  exact ⟨blk_plus h.r1 x, blk_plus h.r2 x, blk_plus h.set x, h.src.plus x, below_plus h.bel (by omega) x, h.low⟩

theorem KW.mono {n2 : Nat} (h : KW w wr B D n o l m) (hn : n ≤ n2) : KW w wr B D n2 o l m := ⟨h.r1, h.r2, h.set, h.src.mono hn, h.bel, h.low⟩

theorem KW.patch {o1 : Obj} (h : KW w wr B D n o l m) (hE : D < E) : KW w (Go.Proofs.Ytkpmaifdeeecjaa.patch wr E o1) B D n o l m := by
  have hlt := h.lt
  have hlow := h.low
  exact ⟨(patch_other _ _ _ (by omega)).trans h.r1, (patch_other _ _ _ (by omega)).trans h.r2, (patch_other _ _ _ (by omega)).trans h.set, h.src.of_block (fun k hk hl => patch_other _ _ _ (by omega)) (by simp), below_patch h.bel (by omega) _, h.low⟩

theorem KA.draw (h : KA w wr B E o l m pa pc ps b last) (hd : Drn wr B n' w') : KA w w' B E o l m pa pc ps b last := by
  have hg := hd.grew
  have hlow := h.low
  exact ⟨blk_grew hg h.blk (fun X hX e => by cases hX; simp at e; omega), rd_grew h.rd hg (fun X Y hX hY => by cases hX; exact (h.off Y hY).1.symm), h.off, h.low⟩

theorem KA.grew (h : KA w wr B E o l m pa pc ps b last) (hg : Grew (some ⟨B, 0, none⟩) wr w') : KA w w' B E o l m pa pc ps b last := by
  have hlow := h.low
  exact ⟨blk_grew hg h.blk (fun X hX e => by cases hX; simp at e; omega), rd_grew h.rd hg (fun X Y hX hY => by cases hX; exact (h.off Y hY).1.symm), h.off, h.low⟩

theorem KA.lt (h : KA w wr B E o l m pa pc ps b last) : E < wr.heap.size := (Array.getElem?_eq_some_iff.1 h.blk).1

theorem KA.more (h : KA w wr B E o l m pa pc ps b last) (hm : More wr w') : KA w w' B E o l m pa pc ps b last := by
  obtain ⟨x, rfl⟩ := hm
  exact ⟨blk_plus h.blk x, Rd.plus h.rd x, h.off, h.low⟩

end

theorem wp_nmW {P : Program} {c : Code} {Q : Exit → Act → World → Prop} {a : Act} {W : World} (F : World → Prop) (hF : F W) (h : ∀ X, F X → c.wp P Q a X) : c.wp P Q a W := h W hF

theorem dfB_of {o l m : Int} {s : ByteArray} (hs : sv o l m = true) (hz : s.size ≤ 16) (hb : ∀ b ∈ s.data.toList, (b.toNat : Int) < two l) : dfB o l m s = true := by
  unfold dfB litB isLit
  simp only [Bool.and_eq_true, decide_eq_true_eq, List.all_eq_true]
  exact ⟨hs, by omega, fun x hx => hb x hx⟩

set_option maxRecDepth 100000 in
set_option maxHeartbeats 4000000 in
theorem DrawSharedWords_any (a : Option Addr) (cap : Nat) (bs : List UInt8) (w : World) (hr : Rd encB w a cap bs) :
    Calls Try.prog 4 #[.slice a bs.length cap] w (RetKK w) := by
  go_enter Try.func4, Try.ntmps4
  go_wp2_with fail
  refine (l9Open_any a cap bs _ (by repeat (first | exact hr | apply rd_seq | apply Rd.plus | apply Rd.alloc | apply Rd.drew | apply Rd.drewN | refine rd_patch ?_ _ _ (by intro A hA; first | (cases hA; show _ ≠ _; omega) | (have := hal A hA; omega))))).mono ?_
  rintro e w' ⟨B, rfl, hd, hB, x0, rfl⟩
  have HD := Lib.hid hd
  have hBl := hd.B_lt
  simp at hB hBl
  clear hd
  go_wp2_with fail
  refine (l1Some_d B 0 _ (by repeat (first | (with_reducible exact HD.out) | (with_reducible apply dsrc_seq) | (with_reducible apply dsrc_draw) | (with_reducible apply Dsrc.plus) | (with_reducible apply Dsrc.alloc) | (with_reducible apply Dsrc.drew))) (by omega)).mono ?_
  rintro e w' ⟨o, l, m, rfl, hs, hdn⟩
  obtain ⟨hd1, cur1, x1, rfl⟩ := hdn
  have HD1 := Lib.hid hd1
  clear hd1
  go_wp2_with fail
  refine wp_nmW (fun X => KW w X B (w.heap.size + 1 + 1 + x0.n + x1.n) 5 o l m) ⟨(by apply blk_alloc; apply blk_plus; refine blk_patch ?_ (by omega); apply blk_plus; apply blk_alloc; exact push_new _ _ _ rfl), (by repeat (first | (with_reducible exact push_new _ _ _ rfl) | (with_reducible exact push_new _ _ _ (by simp)) | (with_reducible apply blk_plus) | (with_reducible apply blk_alloc) | (with_reducible apply blk_drew) | (with_reducible refine blk_patch ?_ (by omega)))), push_new _ _ _ (by simp <;> omega), (by repeat (first | (with_reducible exact HD1.out) | (with_reducible apply dsrc_seq) | (with_reducible apply dsrc_draw) | (with_reducible apply Dsrc.plus) | (with_reducible apply Dsrc.alloc) | (with_reducible apply Dsrc.drew))), (by repeat (first | exact Below.refl _ _ | refine below_plus ?_ (by first | omega | (simp <;> omega)) _ | refine Below.alloc ?_ (by first | omega | (simp <;> omega)) _ | refine below_patch ?_ (by omega) _ | refine Below.drew ?_)), by omega⟩ ?_
  generalize w.heap.size + 1 + 1 + x0.n + x1.n = D
  intro X hX
  have HX := Lib.hid hX
  have hDX := hX.lt
  have hlow := hX.low
  clear hX HD HD1
  go_cut [6] (fun s6 wx => ∃ (E : Nat) (pa : Option Addr) (pc : Nat) (ps : List Pr) (b : Nat) (last : Int), s6 = .pointer (some ⟨E, 0, none⟩) ∧ KW w wx B D 60 o l m ∧ KA w wx B E o l m pa pc ps b last ∧ ps.length ≤ 2000)
  case first =>
    refine wp_region_pt 10 (fun w' => w'.heap[D]? = some (.cells #[.int .i64 o, .int .i64 l, .int .i64 m] 24 (0, 0))) (Plan.quiet 0 (Plan.quiet 1 (Plan.quiet 2 (Plan.two 3 (Plan.two 4 (Plan.quiet 5 (Plan.quiet 6 (Plan.quiet 7 (Plan.one 8 (Plan.one 9 (Plan.one 10 Plan.done)))))) 8 (Plan.one 4 (Plan.quiet 5 (Plan.quiet 6 (Plan.quiet 7 (Plan.one 9 (Plan.one 10 Plan.done))))))) 8 (Plan.one 3 (Plan.one 4 (Plan.quiet 5 (Plan.quiet 6 (Plan.quiet 7 (Plan.one 9 (Plan.one 10 Plan.done))))))))))) (by kernel_rfl) (by kernel_rfl) (blk_drew HX.out.set) ?_
    refine wpPt_val rfl rfl ?_
    apply Exists.intro
    refine ⟨fun w' hS => ?_, ?_⟩
    focus (have rS := cell_of hS; simp [go_sem, ↓IntWalk.iteOmega, rS] <;> first | done | exact rfl | (rw [IntWalk.i64_in _ (by omega)]; exact rfl) | trace_state)
    refine wpPt_val rfl rfl ?_
    apply Exists.intro
    refine ⟨fun w' hS => ?_, ?_⟩
    focus (have rS := cell_of hS; simp [go_sem, ↓IntWalk.iteOmega, rS] <;> first | done | exact rfl | (rw [IntWalk.i64_in _ (by omega)]; exact rfl) | trace_state)
    refine wpPt_val rfl rfl ?_
    apply Exists.intro
    refine ⟨fun w' hS => ?_, ?_⟩
    focus (have rS := cell_of hS; simp [go_sem, ↓IntWalk.iteOmega, rS] <;> first | done | exact rfl | (rw [IntWalk.i64_in _ (by omega)]; exact rfl) | trace_state)
    refine wpPt_two rfl rfl rfl rfl (fun K hK => ?_) (fun K hK => ?_)
    go_simp
    refine (l1Data_f B 5 16 o l m _ (by repeat (first | (with_reducible exact HX.out.src) | (with_reducible apply Dsrc.plus) | (with_reducible apply Dsrc.alloc) | (with_reducible apply Dsrc.drew))) (by omega) (by omega) hs).mono ?_
    rintro e w3 ⟨s, rfl, hsz, hsb, hdn⟩
    have H3 := Lib.hid ((HX.out.more (by repeat (first | exact More.refl _ | apply More.plus | apply More.alloc | apply More.drew | apply More.drewN))).draw hdn)
    have HG3 := Lib.hid hdn.grew
    have hdf := dfB_of hs hsz hsb
    (try (have hE3 : w3.heap[X.heap.size]? = some (.cells #[.int .i64 0, .int .i64 0, .int .i64 0, .slice none 0 0, .int .i64 0, .int .i64 0] 27 (0, 0)) := blk_grew hdn.grew (push_new X.drew _ _ rfl) (fun X' hX' e => by cases hX'; simp at e; omega); have f3 := free_of hE3; have s3 := fun i v => setCell_patch hE3 i v; have c3 := cell_of hE3; have hz3 := (Array.getElem?_eq_some_iff.1 hE3).1))
    have hx3 := H3.out.lt
    have hg3 := hdn.grew.size
    (try simp at hg3)
    clear hdn hsb
    refine hK _ _ (fun hkn => (by repeat (first | (with_reducible exact H3.out.set) | (with_reducible exact HX.out.set) | (with_reducible apply blk_plus) | (with_reducible apply blk_alloc) | (with_reducible apply blk_drew)))) ?_
    clear hK K
    refine wpPt_two rfl rfl rfl rfl (fun K hK => ?_) (fun K hK => ?_)
    go_simp
    refine (specStartWith_yes0 o l m s _ hs hdf (by unfold maxLen; omega) _ rfl).mono ?_
    rintro e w' ⟨pa, pc, rfl, hown, x4, rfl⟩
    have hlo4 := own_lt hown
    have HP4 := Lib.hid hown
    clear hown
    refine hK _ _ (fun hkn => (by repeat (first | (with_reducible exact H3.out.set) | (with_reducible exact HX.out.set) | (with_reducible apply blk_plus) | (with_reducible apply blk_alloc) | (with_reducible apply blk_drew)))) ?_
    clear hK K
    refine wpPt_val rfl rfl ?_
    apply Exists.intro
    refine ⟨fun w' hS => ?_, ?_⟩
    focus (have rS := cell_of hS; simp [go_sem, ↓IntWalk.iteOmega, rS] <;> first | done | exact rfl | (rw [IntWalk.i64_in _ (by omega)]; exact rfl) | trace_state)
    refine wpPt_val rfl rfl ?_
    apply Exists.intro
    refine ⟨fun w' hS => ?_, ?_⟩
    focus (have rS := cell_of hS; simp [go_sem, ↓IntWalk.iteOmega, rS] <;> first | done | exact rfl | (rw [IntWalk.i64_in _ (by omega)]; exact rfl) | trace_state)
    refine wpPt_val rfl rfl ?_
    apply Exists.intro
    refine ⟨fun w' hS => ?_, ?_⟩
    focus (have rS := cell_of hS; simp [go_sem, ↓IntWalk.iteOmega, rS] <;> first | done | exact rfl | (rw [IntWalk.i64_in _ (by omega)]; exact rfl) | trace_state)
    refine wpPt_one rfl rfl (fun K hK => ?_)
    go_simp
    refine hK _ _ (fun hkn => (by refine blk_alloc ?_ _; repeat (first | (with_reducible exact H3.out.set) | (with_reducible exact HX.out.set) | (with_reducible apply blk_plus) | (with_reducible apply blk_alloc) | (with_reducible apply blk_drew)))) ?_
    clear hK K
    refine wpPt_one rfl rfl (fun K hK => ?_)
    go_simp
    refine hK _ _ (fun hkn => (by repeat (first | (with_reducible exact H3.out.set) | (with_reducible exact HX.out.set) | (with_reducible apply blk_plus) | (with_reducible apply blk_alloc) | (with_reducible apply blk_drew) | (with_reducible refine (patch_other _ _ _ (by omega)).trans ?_)))) ?_
    clear hK K
    refine wpPt_one rfl rfl (fun K hK => ?_)
    go_simp
    refine hK _ _ (fun hkn => absurd hkn (by decide)) ?_
    clear hK K
    refine NoPanic.normal ?_
    rotate_left
    go_simp
    refine hK _ _ (fun hkn => (by refine blk_alloc ?_ _; repeat (first | (with_reducible exact H3.out.set) | (with_reducible exact HX.out.set) | (with_reducible apply blk_plus) | (with_reducible apply blk_alloc) | (with_reducible apply blk_drew)))) ?_
    clear hK K
    refine wpPt_one rfl rfl (fun K hK => ?_)
    go_simp
    refine (specStartWith_yes0 o l m s _ hs hdf (by unfold maxLen; omega) _ rfl).mono ?_
    rintro e w' ⟨pa, pc, rfl, hown, x4, rfl⟩
    have hlo4 := own_lt hown
    have HP4 := Lib.hid hown
    clear hown
    refine hK _ _ (fun hkn => (by repeat (first | (with_reducible exact H3.out.set) | (with_reducible exact HX.out.set) | (with_reducible apply blk_plus) | (with_reducible apply blk_alloc) | (with_reducible apply blk_drew)))) ?_
    clear hK K
    refine wpPt_val rfl rfl ?_
    apply Exists.intro
    refine ⟨fun w' hS => ?_, ?_⟩
    focus (have rS := cell_of hS; simp [go_sem, ↓IntWalk.iteOmega, rS] <;> first | done | exact rfl | (rw [IntWalk.i64_in _ (by omega)]; exact rfl) | trace_state)
    refine wpPt_val rfl rfl ?_
    apply Exists.intro
    refine ⟨fun w' hS => ?_, ?_⟩
    focus (have rS := cell_of hS; simp [go_sem, ↓IntWalk.iteOmega, rS] <;> first | done | exact rfl | (rw [IntWalk.i64_in _ (by omega)]; exact rfl) | trace_state)
    refine wpPt_val rfl rfl ?_
    apply Exists.intro
    refine ⟨fun w' hS => ?_, ?_⟩
    focus (have rS := cell_of hS; simp [go_sem, ↓IntWalk.iteOmega, rS] <;> first | done | exact rfl | (rw [IntWalk.i64_in _ (by omega)]; exact rfl) | trace_state)
    refine wpPt_one rfl rfl (fun K hK => ?_)
    go_simp
    refine hK _ _ (fun hkn => (by repeat (first | (with_reducible exact H3.out.set) | (with_reducible exact HX.out.set) | (with_reducible apply blk_plus) | (with_reducible apply blk_alloc) | (with_reducible apply blk_drew) | (with_reducible refine (patch_other _ _ _ (by omega)).trans ?_)))) ?_
    clear hK K
    refine wpPt_one rfl rfl (fun K hK => ?_)
    go_simp
    refine hK _ _ (fun hkn => absurd hkn (by decide)) ?_
    clear hK K
    refine NoPanic.normal ?_
    rotate_left
    go_simp
    refine hK _ _ (fun hkn => (by refine blk_alloc ?_ _; repeat (first | (with_reducible exact H3.out.set) | (with_reducible exact HX.out.set) | (with_reducible apply blk_plus) | (with_reducible apply blk_alloc) | (with_reducible apply blk_drew)))) ?_
    clear hK K
    refine wpPt_one rfl rfl (fun K hK => ?_)
    go_simp
    refine (l1Data_f B 5 16 o l m _ (by repeat (first | (with_reducible exact HX.out.src) | (with_reducible apply Dsrc.plus) | (with_reducible apply Dsrc.alloc) | (with_reducible apply Dsrc.drew))) (by omega) (by omega) hs).mono ?_
    rintro e w3 ⟨s, rfl, hsz, hsb, hdn⟩
    have H3 := Lib.hid ((HX.out.more (by repeat (first | exact More.refl _ | apply More.plus | apply More.alloc | apply More.drew | apply More.drewN))).draw hdn)
    have HG3 := Lib.hid hdn.grew
    have hdf := dfB_of hs hsz hsb
    (try (have hE3 : w3.heap[X.heap.size]? = some (.cells #[.int .i64 0, .int .i64 0, .int .i64 0, .slice none 0 0, .int .i64 0, .int .i64 0] 27 (0, 0)) := blk_grew hdn.grew (push_new X.drew _ _ rfl) (fun X' hX' e => by cases hX'; simp at e; omega); have f3 := free_of hE3; have s3 := fun i v => setCell_patch hE3 i v; have c3 := cell_of hE3; have hz3 := (Array.getElem?_eq_some_iff.1 hE3).1))
    have hx3 := H3.out.lt
    have hg3 := hdn.grew.size
    (try simp at hg3)
    clear hdn hsb
    refine hK _ _ (fun hkn => (by repeat (first | (with_reducible exact H3.out.set) | (with_reducible exact HX.out.set) | (with_reducible apply blk_plus) | (with_reducible apply blk_alloc) | (with_reducible apply blk_drew)))) ?_
    clear hK K
    refine wpPt_one rfl rfl (fun K hK => ?_)
    go_simp
    refine (specStartWith_yes0 o l m s _ hs hdf (by unfold maxLen; omega) _ rfl).mono ?_
    rintro e w' ⟨pa, pc, rfl, hown, x4, rfl⟩
    have hlo4 := own_lt hown
    have HP4 := Lib.hid hown
    clear hown
    refine hK _ _ (fun hkn => (by repeat (first | (with_reducible exact H3.out.set) | (with_reducible exact HX.out.set) | (with_reducible apply blk_plus) | (with_reducible apply blk_alloc) | (with_reducible apply blk_drew)))) ?_
    clear hK K
    refine wpPt_val rfl rfl ?_
    apply Exists.intro
    refine ⟨fun w' hS => ?_, ?_⟩
    focus (have rS := cell_of hS; simp [go_sem, ↓IntWalk.iteOmega, rS] <;> first | done | exact rfl | (rw [IntWalk.i64_in _ (by omega)]; exact rfl) | trace_state)
    refine wpPt_val rfl rfl ?_
    apply Exists.intro
    refine ⟨fun w' hS => ?_, ?_⟩
    focus (have rS := cell_of hS; simp [go_sem, ↓IntWalk.iteOmega, rS] <;> first | done | exact rfl | (rw [IntWalk.i64_in _ (by omega)]; exact rfl) | trace_state)
    refine wpPt_val rfl rfl ?_
    apply Exists.intro
    refine ⟨fun w' hS => ?_, ?_⟩
    focus (have rS := cell_of hS; simp [go_sem, ↓IntWalk.iteOmega, rS] <;> first | done | exact rfl | (rw [IntWalk.i64_in _ (by omega)]; exact rfl) | trace_state)
    refine wpPt_one rfl rfl (fun K hK => ?_)
    go_simp
    refine hK _ _ (fun hkn => (by repeat (first | (with_reducible exact H3.out.set) | (with_reducible exact HX.out.set) | (with_reducible apply blk_plus) | (with_reducible apply blk_alloc) | (with_reducible apply blk_drew) | (with_reducible refine (patch_other _ _ _ (by omega)).trans ?_)))) ?_
    clear hK K
    refine wpPt_one rfl rfl (fun K hK => ?_)
    go_simp
    refine hK _ _ (fun hkn => absurd hkn (by decide)) ?_
    clear hK K
    refine NoPanic.normal ?_
    all_goals
      go_wp2_with fail
      go_meet
    · refine ⟨_, pa, pc, lrn0 l m s, _, _, rfl, ((KW.patch (E := X.heap.size) H3.out (by omega)).more (by repeat (first | exact More.refl _ | apply More.plus | apply More.alloc | apply More.drew | apply More.drewN))).mono (by omega), ⟨blk_plus (patch_at _ _ _ hz3) _, (own_swap (w2 := patch w3 X.heap.size _) HP4.out (by simp) (by simp)).rd, fun Y hY => by have := (hlo4 Y hY).1; omega, by omega⟩, ?_⟩
      have := lrn_few hs hdf
      omega
    · refine ⟨_, pa, pc, lrn0 l m s, _, _, rfl, (H3.out.more (by repeat (first | exact More.refl _ | apply More.plus | apply More.alloc | apply More.drew | apply More.drewN))).mono (by omega), ⟨push_new _ _ _ (by simp <;> omega), Rd.alloc HP4.out.rd _, fun Y hY => by have := (hlo4 Y hY).1; omega, by omega⟩, ?_⟩
      have := lrn_few hs hdf
      omega
    · refine ⟨_, pa, pc, lrn0 l m s, _, _, rfl, (H3.out.more (by repeat (first | exact More.refl _ | apply More.plus | apply More.alloc | apply More.drew | apply More.drewN))).mono (by omega), ⟨blk_plus (push_new _ _ _ rfl) _, (own_swap (w2 := w3.alloc _) HP4.out (by simp) (by simp)).rd, fun Y hY => by have := (hlo4 Y hY).1; (try simp at this); omega, by omega⟩, ?_⟩
      have := lrn_few hs hdf
      omega
  case rest =>
    obtain ⟨E, ra, rc, rs, c, last1, rfl, hX2, hA2, hrs⟩ := hcut
    clear HX hDX hlow X
    go_wp2_with fail
    refine wp_nmW (fun X => KW w X B D 60 o l m ∧ KA w X B E o l m ra rc rs c last1) ⟨hX2, hA2⟩ ?_
    clear hX2 hA2
    intro X hYA
    have HX := Lib.hid hYA.1
    have HA := Lib.hid hYA.2
    have hDX := hYA.1.lt
    have hlow := hYA.1.low
    have hEX := hYA.2.lt
    clear hYA
    go_cut [8] (fun s8 wx => ∃ (F : Nat) (pa : Option Addr) (pc : Nat) (ps : List Pr) (b : Nat) (last : Int), s8 = .pointer (some ⟨F, 0, none⟩) ∧ KW w wx B D 200 o l m ∧ KA w wx B E o l m ra rc rs c last1 ∧ KA w wx B F o l m pa pc ps b last ∧ ps.length ≤ 2000)
    case first =>
      refine wp_region_pt 10 (fun w' => w'.heap[D]? = some (.cells #[.int .i64 o, .int .i64 l, .int .i64 m] 24 (0, 0))) (Plan.quiet 0 (Plan.quiet 1 (Plan.quiet 2 (Plan.two 3 (Plan.two 4 (Plan.quiet 5 (Plan.quiet 6 (Plan.quiet 7 (Plan.one 8 (Plan.one 9 (Plan.one 10 Plan.done)))))) 8 (Plan.one 4 (Plan.quiet 5 (Plan.quiet 6 (Plan.quiet 7 (Plan.one 9 (Plan.one 10 Plan.done))))))) 8 (Plan.one 3 (Plan.one 4 (Plan.quiet 5 (Plan.quiet 6 (Plan.quiet 7 (Plan.one 9 (Plan.one 10 Plan.done))))))))))) (by kernel_rfl) (by kernel_rfl) (blk_drew HX.out.set) ?_
      refine wpPt_val rfl rfl ?_
      apply Exists.intro
      refine ⟨fun w' hS => ?_, ?_⟩
      focus (have rS := cell_of hS; simp [go_sem, ↓IntWalk.iteOmega, rS] <;> first | done | exact rfl | (rw [IntWalk.i64_in _ (by omega)]; exact rfl) | trace_state)
      refine wpPt_val rfl rfl ?_
      apply Exists.intro
      refine ⟨fun w' hS => ?_, ?_⟩
      focus (have rS := cell_of hS; simp [go_sem, ↓IntWalk.iteOmega, rS] <;> first | done | exact rfl | (rw [IntWalk.i64_in _ (by omega)]; exact rfl) | trace_state)
      refine wpPt_val rfl rfl ?_
      apply Exists.intro
      refine ⟨fun w' hS => ?_, ?_⟩
      focus (have rS := cell_of hS; simp [go_sem, ↓IntWalk.iteOmega, rS] <;> first | done | exact rfl | (rw [IntWalk.i64_in _ (by omega)]; exact rfl) | trace_state)
      refine wpPt_two rfl rfl rfl rfl (fun K hK => ?_) (fun K hK => ?_)
      go_simp
      refine (l1Data_f B 60 16 o l m _ (by repeat (first | (with_reducible exact HX.out.src) | (with_reducible apply Dsrc.plus) | (with_reducible apply Dsrc.alloc) | (with_reducible apply Dsrc.drew))) (by omega) (by omega) hs).mono ?_
      rintro e w3 ⟨s, rfl, hsz, hsb, hdn⟩
      have H3 := Lib.hid ((HX.out.more (by repeat (first | exact More.refl _ | apply More.plus | apply More.alloc | apply More.drew | apply More.drewN))).draw hdn)
      have HG3 := Lib.hid hdn.grew
      have hdf := dfB_of hs hsz hsb
      (try (have hE3 : w3.heap[X.heap.size]? = some (.cells #[.int .i64 0, .int .i64 0, .int .i64 0, .slice none 0 0, .int .i64 0, .int .i64 0] 27 (0, 0)) := blk_grew hdn.grew (push_new X.drew _ _ rfl) (fun X' hX' e => by cases hX'; simp at e; omega); have f3 := free_of hE3; have s3 := fun i v => setCell_patch hE3 i v; have c3 := cell_of hE3; have hz3 := (Array.getElem?_eq_some_iff.1 hE3).1))
      have hx3 := H3.out.lt
      have hg3 := hdn.grew.size
      (try simp at hg3)
      clear hdn hsb
      refine hK _ _ (fun hkn => (by repeat (first | (with_reducible exact H3.out.set) | (with_reducible exact HX.out.set) | (with_reducible apply blk_plus) | (with_reducible apply blk_alloc) | (with_reducible apply blk_drew)))) ?_
      clear hK K
      refine wpPt_two rfl rfl rfl rfl (fun K hK => ?_) (fun K hK => ?_)
      go_simp
      refine (specStartWith_yes0 o l m s _ hs hdf (by unfold maxLen; omega) _ rfl).mono ?_
      rintro e w' ⟨pa, pc, rfl, hown, x4, rfl⟩
      have hlo4 := own_lt hown
      have HP4 := Lib.hid hown
      clear hown
      refine hK _ _ (fun hkn => (by repeat (first | (with_reducible exact H3.out.set) | (with_reducible exact HX.out.set) | (with_reducible apply blk_plus) | (with_reducible apply blk_alloc) | (with_reducible apply blk_drew)))) ?_
      clear hK K
      refine wpPt_val rfl rfl ?_
      apply Exists.intro
      refine ⟨fun w' hS => ?_, ?_⟩
      focus (have rS := cell_of hS; simp [go_sem, ↓IntWalk.iteOmega, rS] <;> first | done | exact rfl | (rw [IntWalk.i64_in _ (by omega)]; exact rfl) | trace_state)
      refine wpPt_val rfl rfl ?_
      apply Exists.intro
      refine ⟨fun w' hS => ?_, ?_⟩
      focus (have rS := cell_of hS; simp [go_sem, ↓IntWalk.iteOmega, rS] <;> first | done | exact rfl | (rw [IntWalk.i64_in _ (by omega)]; exact rfl) | trace_state)
      refine wpPt_val rfl rfl ?_
      apply Exists.intro
      refine ⟨fun w' hS => ?_, ?_⟩
      focus (have rS := cell_of hS; simp [go_sem, ↓IntWalk.iteOmega, rS] <;> first | done | exact rfl | (rw [IntWalk.i64_in _ (by omega)]; exact rfl) | trace_state)
      refine wpPt_one rfl rfl (fun K hK => ?_)
      go_simp
      refine hK _ _ (fun hkn => (by refine blk_alloc ?_ _; repeat (first | (with_reducible exact H3.out.set) | (with_reducible exact HX.out.set) | (with_reducible apply blk_plus) | (with_reducible apply blk_alloc) | (with_reducible apply blk_drew)))) ?_
      clear hK K
      refine wpPt_one rfl rfl (fun K hK => ?_)
      go_simp
      refine hK _ _ (fun hkn => (by repeat (first | (with_reducible exact H3.out.set) | (with_reducible exact HX.out.set) | (with_reducible apply blk_plus) | (with_reducible apply blk_alloc) | (with_reducible apply blk_drew) | (with_reducible refine (patch_other _ _ _ (by omega)).trans ?_)))) ?_
      clear hK K
      refine wpPt_one rfl rfl (fun K hK => ?_)
      go_simp
      refine hK _ _ (fun hkn => absurd hkn (by decide)) ?_
      clear hK K
      refine NoPanic.normal ?_
      rotate_left
      go_simp
      refine hK _ _ (fun hkn => (by refine blk_alloc ?_ _; repeat (first | (with_reducible exact H3.out.set) | (with_reducible exact HX.out.set) | (with_reducible apply blk_plus) | (with_reducible apply blk_alloc) | (with_reducible apply blk_drew)))) ?_
      clear hK K
      refine wpPt_one rfl rfl (fun K hK => ?_)
      go_simp
      refine (specStartWith_yes0 o l m s _ hs hdf (by unfold maxLen; omega) _ rfl).mono ?_
      rintro e w' ⟨pa, pc, rfl, hown, x4, rfl⟩
      have hlo4 := own_lt hown
      have HP4 := Lib.hid hown
      clear hown
      refine hK _ _ (fun hkn => (by repeat (first | (with_reducible exact H3.out.set) | (with_reducible exact HX.out.set) | (with_reducible apply blk_plus) | (with_reducible apply blk_alloc) | (with_reducible apply blk_drew)))) ?_
      clear hK K
      refine wpPt_val rfl rfl ?_
      apply Exists.intro
      refine ⟨fun w' hS => ?_, ?_⟩
      focus (have rS := cell_of hS; simp [go_sem, ↓IntWalk.iteOmega, rS] <;> first | done | exact rfl | (rw [IntWalk.i64_in _ (by omega)]; exact rfl) | trace_state)
      refine wpPt_val rfl rfl ?_
      apply Exists.intro
      refine ⟨fun w' hS => ?_, ?_⟩
      focus (have rS := cell_of hS; simp [go_sem, ↓IntWalk.iteOmega, rS] <;> first | done | exact rfl | (rw [IntWalk.i64_in _ (by omega)]; exact rfl) | trace_state)
      refine wpPt_val rfl rfl ?_
      apply Exists.intro
      refine ⟨fun w' hS => ?_, ?_⟩
      focus (have rS := cell_of hS; simp [go_sem, ↓IntWalk.iteOmega, rS] <;> first | done | exact rfl | (rw [IntWalk.i64_in _ (by omega)]; exact rfl) | trace_state)
      refine wpPt_one rfl rfl (fun K hK => ?_)
      go_simp
      refine hK _ _ (fun hkn => (by repeat (first | (with_reducible exact H3.out.set) | (with_reducible exact HX.out.set) | (with_reducible apply blk_plus) | (with_reducible apply blk_alloc) | (with_reducible apply blk_drew) | (with_reducible refine (patch_other _ _ _ (by omega)).trans ?_)))) ?_
      clear hK K
      refine wpPt_one rfl rfl (fun K hK => ?_)
      go_simp
      refine hK _ _ (fun hkn => absurd hkn (by decide)) ?_
      clear hK K
      refine NoPanic.normal ?_
      rotate_left
      go_simp
      refine hK _ _ (fun hkn => (by refine blk_alloc ?_ _; repeat (first | (with_reducible exact H3.out.set) | (with_reducible exact HX.out.set) | (with_reducible apply blk_plus) | (with_reducible apply blk_alloc) | (with_reducible apply blk_drew)))) ?_
      clear hK K
      refine wpPt_one rfl rfl (fun K hK => ?_)
      go_simp
      refine (l1Data_f B 60 16 o l m _ (by repeat (first | (with_reducible exact HX.out.src) | (with_reducible apply Dsrc.plus) | (with_reducible apply Dsrc.alloc) | (with_reducible apply Dsrc.drew))) (by omega) (by omega) hs).mono ?_
      rintro e w3 ⟨s, rfl, hsz, hsb, hdn⟩
      have H3 := Lib.hid ((HX.out.more (by repeat (first | exact More.refl _ | apply More.plus | apply More.alloc | apply More.drew | apply More.drewN))).draw hdn)
      have HG3 := Lib.hid hdn.grew
      have hdf := dfB_of hs hsz hsb
      (try (have hE3 : w3.heap[X.heap.size]? = some (.cells #[.int .i64 0, .int .i64 0, .int .i64 0, .slice none 0 0, .int .i64 0, .int .i64 0] 27 (0, 0)) := blk_grew hdn.grew (push_new X.drew _ _ rfl) (fun X' hX' e => by cases hX'; simp at e; omega); have f3 := free_of hE3; have s3 := fun i v => setCell_patch hE3 i v; have c3 := cell_of hE3; have hz3 := (Array.getElem?_eq_some_iff.1 hE3).1))
      have hx3 := H3.out.lt
      have hg3 := hdn.grew.size
      (try simp at hg3)
      clear hdn hsb
      refine hK _ _ (fun hkn => (by repeat (first | (with_reducible exact H3.out.set) | (with_reducible exact HX.out.set) | (with_reducible apply blk_plus) | (with_reducible apply blk_alloc) | (with_reducible apply blk_drew)))) ?_
      clear hK K
      refine wpPt_one rfl rfl (fun K hK => ?_)
      go_simp
      refine (specStartWith_yes0 o l m s _ hs hdf (by unfold maxLen; omega) _ rfl).mono ?_
      rintro e w' ⟨pa, pc, rfl, hown, x4, rfl⟩
      have hlo4 := own_lt hown
      have HP4 := Lib.hid hown
      clear hown
      refine hK _ _ (fun hkn => (by repeat (first | (with_reducible exact H3.out.set) | (with_reducible exact HX.out.set) | (with_reducible apply blk_plus) | (with_reducible apply blk_alloc) | (with_reducible apply blk_drew)))) ?_
      clear hK K
      refine wpPt_val rfl rfl ?_
      apply Exists.intro
      refine ⟨fun w' hS => ?_, ?_⟩
      focus (have rS := cell_of hS; simp [go_sem, ↓IntWalk.iteOmega, rS] <;> first | done | exact rfl | (rw [IntWalk.i64_in _ (by omega)]; exact rfl) | trace_state)
      refine wpPt_val rfl rfl ?_
      apply Exists.intro
      refine ⟨fun w' hS => ?_, ?_⟩
      focus (have rS := cell_of hS; simp [go_sem, ↓IntWalk.iteOmega, rS] <;> first | done | exact rfl | (rw [IntWalk.i64_in _ (by omega)]; exact rfl) | trace_state)
      refine wpPt_val rfl rfl ?_
      apply Exists.intro
      refine ⟨fun w' hS => ?_, ?_⟩
      focus (have rS := cell_of hS; simp [go_sem, ↓IntWalk.iteOmega, rS] <;> first | done | exact rfl | (rw [IntWalk.i64_in _ (by omega)]; exact rfl) | trace_state)
      refine wpPt_one rfl rfl (fun K hK => ?_)
      go_simp
      refine hK _ _ (fun hkn => (by repeat (first | (with_reducible exact H3.out.set) | (with_reducible exact HX.out.set) | (with_reducible apply blk_plus) | (with_reducible apply blk_alloc) | (with_reducible apply blk_drew) | (with_reducible refine (patch_other _ _ _ (by omega)).trans ?_)))) ?_
      clear hK K
      refine wpPt_one rfl rfl (fun K hK => ?_)
      go_simp
      refine hK _ _ (fun hkn => absurd hkn (by decide)) ?_
      clear hK K
      refine NoPanic.normal ?_
      all_goals
        go_wp2_with fail
        go_meet
      · refine ⟨_, pa, pc, lrn0 l m s, _, _, rfl, ((KW.patch (E := X.heap.size) H3.out (by omega)).more (by repeat (first | exact More.refl _ | apply More.plus | apply More.alloc | apply More.drew | apply More.drewN))).mono (by omega), HA.out.grew (by repeat (first | (with_reducible exact grew_trans (by repeat (first | (with_reducible exact grew_refl _ _) | (with_reducible apply grew_plus) | (with_reducible apply grew_alloc) | (with_reducible apply grew_drew))) HG3.out) | (with_reducible apply grew_plus) | (with_reducible apply grew_alloc) | (with_reducible apply grew_drew) | (with_reducible refine grew_hi ?_ (by omega) _))), ⟨blk_plus (patch_at _ _ _ hz3) _, (own_swap (w2 := patch w3 X.heap.size _) HP4.out (by simp) (by simp)).rd, fun Y hY => by have := (hlo4 Y hY).1; omega, by omega⟩, ?_⟩
        have := lrn_few hs hdf
        omega
      · refine ⟨_, pa, pc, lrn0 l m s, _, _, rfl, (H3.out.more (by repeat (first | exact More.refl _ | apply More.plus | apply More.alloc | apply More.drew | apply More.drewN))).mono (by omega), HA.out.grew (by repeat (first | (with_reducible exact grew_trans (by repeat (first | (with_reducible exact grew_refl _ _) | (with_reducible apply grew_plus) | (with_reducible apply grew_alloc) | (with_reducible apply grew_drew))) HG3.out) | (with_reducible apply grew_plus) | (with_reducible apply grew_alloc) | (with_reducible apply grew_drew) | (with_reducible refine grew_hi ?_ (by omega) _))), ⟨push_new _ _ _ (by simp <;> omega), Rd.alloc HP4.out.rd _, fun Y hY => by have := (hlo4 Y hY).1; omega, by omega⟩, ?_⟩
        have := lrn_few hs hdf
        omega
      · refine ⟨_, pa, pc, lrn0 l m s, _, _, rfl, (H3.out.more (by repeat (first | exact More.refl _ | apply More.plus | apply More.alloc | apply More.drew | apply More.drewN))).mono (by omega), HA.out.grew (by repeat (first | (with_reducible exact grew_trans (by repeat (first | (with_reducible exact grew_refl _ _) | (with_reducible apply grew_plus) | (with_reducible apply grew_alloc) | (with_reducible apply grew_drew))) HG3.out) | (with_reducible apply grew_plus) | (with_reducible apply grew_alloc) | (with_reducible apply grew_drew) | (with_reducible refine grew_hi ?_ (by omega) _))), ⟨blk_plus (push_new _ _ _ rfl) _, (own_swap (w2 := w3.alloc _) HP4.out (by simp) (by simp)).rd, fun Y hY => by have := (hlo4 Y hY).1; (try simp at this); omega, by omega⟩, ?_⟩
        have := lrn_few hs hdf
        omega
    case rest =>
      obtain ⟨F, pa, pc, ps, b, last, rfl, hX3, hE3, hF3, hps⟩ := hcut
      clear HX HA hDX hlow hEX X
      go_wp2_with fail
      refine wp_nmW (fun X => KW w X B D 200 o l m ∧ KA w X B E o l m ra rc rs c last1 ∧ KA w X B F o l m pa pc ps b last) ⟨hX3, hE3, hF3⟩ ?_
      clear hX3 hE3 hF3
      intro X hY
      have HX := Lib.hid hY.1
      have HE := Lib.hid hY.2.1
      have HF := Lib.hid hY.2.2
      have hDX := hY.1.lt
      have hlow := hY.1.low
      have hloE := hY.2.1.low
      have hloF := hY.2.2.low
      clear hY
      refine wp_region_pt 7 (fun w' => w'.heap[E]? = some (.cells #[.int .i64 o, .int .i64 l, .int .i64 m, .slice ra rs.length rc, .int .i64 c, .int .i64 last1] 27 (0, 0)) ∧ w'.heap[F]? = some (.cells #[.int .i64 o, .int .i64 l, .int .i64 m, .slice pa ps.length pc, .int .i64 b, .int .i64 last] 27 (0, 0))) (Plan.quiet 0 (Plan.quiet 1 (Plan.quiet 3 (Plan.quiet 4 (Plan.one 2 (Plan.one 5 (Plan.one 6 (Plan.one 7 Plan.done)))))))) (by kernel_rfl) (by kernel_rfl) (⟨blk_drew HE.out.blk, blk_drew HF.out.blk⟩) ?_
      refine wpPt_val rfl rfl ?_
      apply Exists.intro
      refine ⟨fun w' hS => ?_, ?_⟩
      focus (have rE := cell_of hS.1; have rF := cell_of hS.2; simp [go_sem, ↓IntWalk.iteOmega, rE, rF] <;> first | done | exact rfl | (rw [IntWalk.i64_in _ (by omega)]; exact rfl) | trace_state)
      refine wpPt_val rfl rfl ?_
      apply Exists.intro
      refine ⟨fun w' hS => ?_, ?_⟩
      focus (have rE := cell_of hS.1; have rF := cell_of hS.2; simp [go_sem, ↓IntWalk.iteOmega, rE, rF] <;> first | done | exact rfl | (rw [IntWalk.i64_in _ (by omega)]; exact rfl) | trace_state)
      refine wpPt_val rfl rfl ?_
      apply Exists.intro
      refine ⟨fun w' hS => ?_, ?_⟩
      focus (have rE := cell_of hS.1; have rF := cell_of hS.2; simp [go_sem, ↓IntWalk.iteOmega, rE, rF] <;> first | done | exact rfl | (rw [IntWalk.i64_in _ (by omega)]; exact rfl) | trace_state)
      refine wpPt_val rfl rfl ?_
      apply Exists.intro
      refine ⟨fun w' hS => ?_, ?_⟩
      focus (have rE := cell_of hS.1; have rF := cell_of hS.2; simp [go_sem, ↓IntWalk.iteOmega, rE, rF] <;> first | done | exact rfl | (rw [IntWalk.i64_in _ (by omega)]; exact rfl) | trace_state)
      refine wpPt_one rfl rfl (fun K hK => ?_)
      go_simp
      refine (l2Bad_d B 200 o l m ra rc rs c last1 _ (HX.out.more (by repeat (first | exact More.refl _ | apply More.plus | apply More.alloc | apply More.drew | apply More.drewN))).src (by omega) hs (HE.out.more (by repeat (first | exact More.refl _ | apply More.plus | apply More.alloc | apply More.drew | apply More.drewN))).rd (fun X hX => (HE.out.off X hX).1) hrs).mono ?_
      rintro e w4 ⟨o4, l4', m4, pa4, pc4, qs4, b4, last4, rfl, hz4, hr4, hoff4, hdn⟩
      have H4 := Lib.hid ((HX.out.more (by repeat (first | exact More.refl _ | apply More.plus | apply More.alloc | apply More.drew | apply More.drewN))).draw hdn)
      have HE4 := Lib.hid ((HE.out.more (by repeat (first | exact More.refl _ | apply More.plus | apply More.alloc | apply More.drew | apply More.drewN))).draw hdn)
      have HF4 := Lib.hid ((HF.out.more (by repeat (first | exact More.refl _ | apply More.plus | apply More.alloc | apply More.drew | apply More.drewN))).draw hdn)
      have HR4 := Lib.hid (show Rd encP _ pa4 pc4 qs4 from hr4)
      have ho4 : ∀ X, pa4 = some X → w.heap.size + 1 < X.block ∧ X.block ≠ B := fun Y hY => (hoff4 Y hY).elim (fun h => ⟨(HE.out.off Y h).2, (HE.out.off Y h).1⟩) (fun h => by (try simp at h); omega)
      clear hr4 hoff4 hdn
      refine hK _ _ (fun hkn => ⟨HE4.out.blk, HF4.out.blk⟩) ?_
      clear hK K
      refine wpPt_one rfl rfl (fun K hK => ?_)
      go_simp
      refine (l2Bad_d B 203 o l m pa pc ps b last _ H4.out.src (by omega) hs HF4.out.rd (fun X hX => (HF4.out.off X hX).1) hps).mono ?_
      rintro e w5 ⟨o5, l5', m5, pa5, pc5, qs5, b5, last5, rfl, hz5, hr5, hoff5, hdn⟩
      have H5 := Lib.hid (H4.out.draw hdn)
      have HE5 := Lib.hid (HE4.out.draw hdn)
      have HF5 := Lib.hid (HF4.out.draw hdn)
      have HR5 := Lib.hid (show Rd encP _ pa5 pc5 qs5 from hr5)
      have HQ5 := Lib.hid (rd_grew HR4.out hdn.grew (fun X Y hX hY => by cases hX; exact fun e => (ho4 Y hY).2 e.symm))
      have hlt4 := H4.out.lt
      have ho5 : ∀ X, pa5 = some X → w.heap.size + 1 < X.block := fun Y hY => (hoff5 Y hY).elim (fun h => (HF4.out.off Y h).2) (fun h => by omega)
      have hlt5 := H5.out.lt
      have y1 : w.heap.size < w5.heap.size := by omega
      have y2 : w.heap.size + 1 < w5.heap.size := by omega
      have r1 := cell_of H5.out.r1
      have f1 := free_of H5.out.r1
      have s1 := fun i v => setCell_patch H5.out.r1 i v
      have r2 := fun o1 => cell_of ((patch_other w5 w.heap.size o1 (by omega : w.heap.size + 1 ≠ w.heap.size)).trans H5.out.r2)
      have f2 := fun o1 => free_of ((patch_other w5 w.heap.size o1 (by omega : w.heap.size + 1 ≠ w.heap.size)).trans H5.out.r2)
      have s2 := fun o1 i v => setCell_patch ((patch_other w5 w.heap.size o1 (by omega : w.heap.size + 1 ≠ w.heap.size)).trans H5.out.r2) i v
      clear hr5 hoff5 hdn
      refine hK _ _ (fun hkn => ⟨HE5.out.blk, HF5.out.blk⟩) ?_
      clear hK K
      refine wpPt_one rfl rfl (fun K hK => ?_)
      go_simp
      refine hK _ _ (fun hkn => (by exact ⟨by refine (patch_other _ _ _ ?_).trans HE5.out.blk; omega, by refine (patch_other _ _ _ ?_).trans HF5.out.blk; omega⟩)) ?_
      clear hK K
      refine wpPt_one rfl rfl (fun K hK => ?_)
      go_simp
      refine hK _ _ (fun hkn => absurd hkn (by decide)) ?_
      clear hK K
      refine NoPanic.normal ?_
      go_wp2_with fail
      exact bodyPost_ret (v := .tuple #[.agg #[.int .i64 o4, .int .i64 l4', .int .i64 m4, .slice pa4 qs4.length pc4, .int .i64 b4, .int .i64 last4], .agg #[.int .i64 o5, .int .i64 l5', .int .i64 m5, .slice pa5 qs5.length pc5, .int .i64 b5, .int .i64 last5]]) (by simp [results, Try.results4, go_sem, ↓IntWalk.iteOmega]) rfl ⟨o4, l4', m4, pa4, pc4, qs4, b4, last4, o5, l5', m5, pa5, pc5, qs5, b5, last5, rfl, hz4, hz5, rd_patch (rd_patch HQ5.out _ _ (fun Y hY => by have := (ho4 Y hY).1; omega)) _ _ (fun Y hY => by have := (ho4 Y hY).1; omega), rd_patch (rd_patch HR5.out _ _ (fun Y hY => by have := ho5 Y hY; omega)) _ _ (fun Y hY => by have := ho5 Y hY; omega), below_more (below_patch (below_patch H5.out.bel (Nat.le_refl _) _) (by omega) _)⟩

end Go.Proofs.Ytkpmaifdeeecjaa
