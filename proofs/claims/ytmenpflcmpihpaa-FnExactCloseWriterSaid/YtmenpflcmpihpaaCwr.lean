/- The coder of a writer: its block, the tree and the bits beside it; write. -/
import Derived.Test.YtmenpflcmpihpaaTbn
import Derived.Test.YtmenpflcmpihpaaOwm
import Derived.Test.YtmenpflcmpihpaaSgr
namespace Go.Proofs.Ytmenpflcmpihpaa
open Go.RowKit
set_option linter.unusedVariables false
set_option linter.unusedSimpArgs false

section
variable {α : Type} {E : Enc α} {e : TypeId} {av : List Nat} {w w' : World} {t lo : Nat} {o l m : Int} {ps ps' : List Pr} {base last last' : Int} {A : Option Addr} {cap : Nat} {xs : List α}

/-- the slice has grown, by more than one step -/
theorem TB.grewW {A' : Option Addr} {c' : Nat} {ys : List α} (h : TB E e av w t lo o l m ps base last A cap xs) (hown : Own E e w' A' c' ys lo) (hg : Grew A w w') (hx : Within A A' w.heap.size) :
    TB E e av w' t lo o l m ps base last A' c' ys ∧ Below lo w w' ∧ w.heap.size ≤ w'.heap.size ∧ ∀ k, k ∈ av → w'.heap[k]? = w.heap[k]? := by
  obtain ⟨pa, pc, na, nc, qa, qc, N, pn, h1, h2, h3, h4, h5, h6, h7, h8⟩ := h
  have ht := h1.at'.cells.1
  have hs := hg.size
  refine ⟨⟨pa, pc, na, nc, qa, qc, N, pn, ⟨h1.s, h1.ok, h1.len, h1.at'.of_block fun k hk hc => hg.block k hk fun X hX e => ?_, h1.ti⟩, h2, h3, h4, h5, hown, fun X hX => ?_, fun k hk => ?_⟩, hg.below (by omega) fun X hX => (own_lt h6 X hX).1, hs, fun k hk => ?_⟩
  · obtain ⟨a1, a2, a3, a4⟩ := h7 X hX
    rw [e] at a1 a2 a3 a4
    rcases hc with hc | hc | hc | hc
    · exact a1 hc
    · exact hc a2
    · exact hc a3
    · exact hc a4
  · rcases hx X hX with ⟨Y, hY, he⟩ | he
    · rw [← he]; exact h7 Y hY
    · exact ⟨by omega, own_off h1.at'.op he, own_off h1.at'.on he, own_off h1.at'.oq he⟩
  · obtain ⟨a0, a1, a2, a3, a4, a5⟩ := h8 k hk
    refine ⟨by omega, a1, a2, a3, a4, fun X hX e => ?_⟩
    rcases hx X hX with ⟨Y, hY, he⟩ | he
    · exact a5 Y hY (by omega)
    · omega
  · obtain ⟨a0, a1, a2, a3, a4, a5⟩ := h8 k hk
    exact hg.block k a0 fun X hX => a5 X hX

/-- a block turns that neither the tree nor the slice holds -/
theorem TB.patched (h : TB E e av w t lo o l m ps base last A cap xs) {B : Nat} (hB : B ∈ av) (ob : Obj) : TB E e av (patch w B ob) t lo o l m ps base last A cap xs := by
  obtain ⟨pa, pc, na, nc, qa, qc, N, pn, h1, h2, h3, h4, h5, h6, h7, h8⟩ := h
  obtain ⟨b0, b1, b2, b3, b4, b5⟩ := h8 B hB
  refine ⟨pa, pc, na, nc, qa, qc, N, pn, ⟨h1.s, h1.ok, h1.len, h1.at'.of_block fun k hk hc => patch_other _ _ _ fun e => ?_, h1.ti⟩, h2, h3, h4, h5, own_patch h6 b5, h7, fun k hk => ?_⟩
  · subst e
    rcases hc with hc | hc | hc | hc
    · exact b1 hc
    · exact hc b2
    · exact hc b3
    · exact hc b4
  · obtain ⟨a0, a1, a2, a3, a4, a5⟩ := h8 k hk
    exact ⟨by rw [patch_size]; exact a0, a1, a2, a3, a4, a5⟩

end

section
variable {w w' : World} {t lo : Nat} {o l m : Int} {ps : List Pr} {base last : Int}

/-- blocks turn that the tree does not hold -/
theorem TB.move {av av' : List Nat} {A : Option Addr} (h : TB encB 5 av w t lo o l m ps base last none 0 []) (hg : Grew A w w') (hA : ∀ X, A = some X → X.block ∈ av) (hx : ∀ k, k ∈ av' → k < w'.heap.size ∧ (k ∈ av ∨ w.heap.size ≤ k)) :
    TB encB 5 av' w' t lo o l m ps base last none 0 [] := by
  obtain ⟨pa, pc, na, nc, qa, qc, N, pn, h1, h2, h3, h4, h5, h6, h7, h8⟩ := h
  have ht := h1.at'.cells.1
  refine ⟨pa, pc, na, nc, qa, qc, N, pn, ⟨h1.s, h1.ok, h1.len, h1.at'.of_block fun k hk hc => hg.block k hk fun X hX e => ?_, h1.ti⟩, h2, h3, h4, h5, .inl ⟨rfl, rfl, rfl⟩, h7, fun k hk => ?_⟩
  · obtain ⟨a0, a1, a2, a3, a4, a5⟩ := h8 _ (hA X hX)
    rw [e] at a1 a2 a3 a4
    rcases hc with hc | hc | hc | hc
    · exact a1 hc
    · exact hc a2
    · exact hc a3
    · exact hc a4
  · obtain ⟨g0, g1⟩ := hx k hk
    rcases g1 with g1 | g1
    · obtain ⟨a0, a1, a2, a3, a4, a5⟩ := h8 k g1
      exact ⟨g0, a1, a2, a3, a4, a5⟩
    · exact ⟨g0, by omega, own_off h1.at'.op g1, own_off h1.at'.on g1, own_off h1.at'.oq g1, fun X hX => by cases hX⟩

theorem TB.blk {α : Type} {E : Enc α} {e : TypeId} {av : List Nat} {A : Option Addr} {cap : Nat} {xs : List α} (h : TB E e av w t lo o l m ps base last A cap xs) :
    ∃ pa pc X Y, w.heap[t]? = some (.cells #[.int .i64 o, .int .i64 l, .int .i64 m, .slice pa ps.length pc, .int .i64 base, .int .i64 last, X, Y] 133 (0, 0)) ∧ RdP w pa pc ps ∧ sv o l m = true ∧ ps.length ≤ 2000 := by
  obtain ⟨pa, pc, na, nc, qa, qc, N, pn, h1, h2, _⟩ := h
  exact ⟨pa, pc, _, _, h1.at'.blk, h1.at'.op.rd, h1.s, h1.len⟩

end

/-- the block of a slice -/
def avs (A : Option Addr) : List Nat := match A with
  | some X => [X.block]
  | none => []

/-- a coder in block kb, its tree in block t -/
def CB (w : World) (t kb lo : Nat) (o l m : Int) (ps : List Pr) (base last : Int) (bs : List UInt8) : Prop :=
  ∃ A cap, w.heap[kb]? = some (.cells #[.pointer (some ⟨t, 0, none⟩), .slice A bs.length cap] 115 (0, 0)) ∧ lo ≤ kb ∧ kb < w.heap.size ∧ OwM 5 w A cap bs lo ∧ Off A kb ∧ TB encB 5 (kb :: avs A) w t lo o l m ps base last none 0 []

section
variable {w w' : World} {t kb lo : Nat} {o l m : Int} {ps : List Pr} {base last : Int} {bs : List UInt8}

theorem CB.plus (h : CB w t kb lo o l m ps base last bs) (x : Ext) : CB (Go.Proofs.Ytmenpflcmpihpaa.plus w x) t kb lo o l m ps base last bs := by
  obtain ⟨A, cap, h1, h2, h3, h4, h5, h6⟩ := h
  exact ⟨A, cap, by rw [plus_block w x h3]; exact h1, h2, by rw [plus_size]; omega, h4.plus x, h5, h6.plus x⟩

theorem CB.alloc (h : CB w t kb lo o l m ps base last bs) (ob : Obj) : CB (w.alloc ob) t kb lo o l m ps base last bs := by rw [alloc_plus]; exact h.plus _

theorem CB.drew (h : CB w t kb lo o l m ps base last bs) : CB w.drew t kb lo o l m ps base last bs := by rw [drew_is_plus]; exact h.plus _

theorem cb_seq {x y : Ext} (h : CB (Go.Proofs.Ytmenpflcmpihpaa.plus w x) t kb lo o l m ps base last bs) : CB (Go.Proofs.Ytmenpflcmpihpaa.plus w (x.seq y)) t kb lo o l m ps base last bs := by rw [← plus_plus]; exact h.plus y

theorem cb_draw {x : Ext} {n : Nat} (h : CB (Go.Proofs.Ytmenpflcmpihpaa.plus w x) t kb lo o l m ps base last bs) : CB (Go.Proofs.Ytmenpflcmpihpaa.plus w (x.draw n)) t kb lo o l m ps base last bs :=
  CB.plus (w := Go.Proofs.Ytmenpflcmpihpaa.plus w x) h ⟨#[], (x.draw n).d⟩ |> fun h2 => by rw [plus_plus] at h2; simpa [Ext.seq, Ext.draw] using h2

end

/-- what a call leaves that writes a code -/
def CBR (w : World) (t kb lo : Nat) (o l m : Int) (ps : List Pr) (base last : Int) (bs : List UInt8) (en : Ending) (w' : World) : Prop :=
  en = .returned (.tuple #[]) ∧ CB w' t kb lo o l m ps base last bs ∧ Below lo w w' ∧ w.heap.size ≤ w'.heap.size

theorem cb_wrote {w w1 w6 : World} {t kb lo : Nat} {o l m : Int} {ps : List Pr} {base last : Int} {A A6 : Option Addr} {c6 : Nat} {bs' : List UInt8} (htb : TB encB 5 (kb :: avs A) w t lo o l m ps base last none 0 []) (hw : ∃ y, w1 = plus w y) (hg : Grew A w1 w6) (hin : Within A A6 w1.heap.size)
    (hom : OwM 5 w6 A6 c6 bs' lo) (hlo : lo ≤ kb) (hkb : kb < w.heap.size) (hAl : ∀ Z, A = some Z → lo ≤ Z.block ∧ Z.block < w.heap.size) (hoff : Off A kb) :
    CB (patch w6 kb (.cells #[.pointer (some ⟨t, 0, none⟩), .slice A6 bs'.length c6] 115)) t kb lo o l m ps base last bs' ∧ Below lo w (patch w6 kb (.cells #[.pointer (some ⟨t, 0, none⟩), .slice A6 bs'.length c6] 115)) ∧ w.heap.size ≤ w6.heap.size := by
  obtain ⟨y, rfl⟩ := hw
  obtain ⟨hlt, htl⟩ := htb.span
  have z6 := hg.size
  rw [plus_size] at z6
  have hAav : ∀ Z, A = some Z → Z.block ∈ kb :: avs A := fun Z hZ => by subst hZ; simp [avs]
  have hoff6 : Off A6 kb := fun Z hZ e => by
    rcases hin Z hZ with ⟨Y, hY, he⟩ | he
    · exact hoff Y hY (by omega)
    · rw [plus_size] at he; omega
  have hmv := (htb.plus y).move (av' := kb :: avs A6) hg hAav (fun k hk => by
    rcases List.mem_cons.1 hk with rfl | hk
    · exact ⟨by omega, .inl (by simp)⟩
    · cases A6 with
      | none => simp [avs] at hk
      | some Z =>
        simp [avs] at hk
        subst hk
        refine ⟨(ownm_lt hom Z rfl).2, ?_⟩
        rcases hin Z rfl with ⟨Y, hY, he⟩ | he
        · exact .inl (by rw [← he]; exact hAav Y hY)
        · exact .inr he)
  refine ⟨⟨A6, c6, patch_at _ _ _ (by omega), hlo, by rw [patch_size]; omega, hom.of_block fun Z hZ _ => patch_other _ _ _ (hoff6 Z hZ), hoff6, hmv.patched (by simp) _⟩, below_patch (Below.trans (b := plus w y) ?_ (hg.below (by rw [plus_size]; omega) fun Z hZ => (hAl Z hZ).1)) hlo _, by omega⟩
  exact (by repeat (first | exact Below.refl _ _ | refine below_plus ?_ (by first | omega | (simp <;> omega)) _ | refine Below.alloc ?_ (by first | omega | (simp <;> omega)) _ | refine below_patch ?_ (by omega) _ | refine Below.drew ?_))

theorem cb_follow {W : World} {t kb lo : Nat} {o l m : Int} {ps qs : List Pr} {base last la c : Int} {bs : List UInt8} (h : CB W t kb lo o l m ps base last bs)
    (hfol : ∀ av, TB encB 5 av W t lo o l m ps base last none 0 [] → Calls Try.prog 120 #[.pointer (some ⟨t, 0, none⟩), .int .i64 c] W (TBR encB 5 av W t lo o l m qs base la none 0 [])) :
    Calls Try.prog 120 #[.pointer (some ⟨t, 0, none⟩), .int .i64 c] W (CBR W t kb lo o l m qs base la bs) := by
  obtain ⟨A, cap, hblk, hlo, hkb, hom, hoff, htb⟩ := h
  refine (hfol _ htb).mono ?_
  rintro en w' ⟨rfl, htb', hbl, hsz, hk⟩
  exact ⟨rfl, ⟨A, cap, by rw [hk kb (by simp)]; exact hblk, hlo, by omega, hom.of_block fun Z hZ _ => hk _ (by subst hZ; simp [avs]), hoff, htb'⟩, hbl, hsz⟩

set_option maxRecDepth 100000 in
set_option maxHeartbeats 1000000 in
theorem write_end {t kb lo : Nat} {o l m : Int} {ps : List Pr} {base last : Int} {bs : List UInt8} (w : World) (h : CB w t kb lo o l m ps base last bs) (hlim : Lim o l m ps.length last) (hbl : bs.length ≤ 1000) (n : Nat) (hn : wd l m ps.length last = n) (hn10 : n ≤ 10) (c : Int) (hc : c = two l + 1) (hc0 : 0 ≤ c) (hc1 : c < 1024) :
    Calls Try.prog 95 #[.pointer (some ⟨kb, 0, none⟩), .int .i64 c] w (CBR w t kb lo o l m ps base last (bs ++ bitsL o c n)) := by
  obtain ⟨A, cap, hblk, hlo, hkb, hom, hoff, htb⟩ := h
  obtain ⟨pa, pc, X, Y, hbt, hrp, hs, hlen⟩ := htb.blk
  obtain ⟨hlt, htl⟩ := htb.span
  have hkt : kb ≠ t := (htb.av' (k := kb) (by simp)).2.1
  have hAav : ∀ Z, A = some Z → Z.block ∈ kb :: avs A := fun Z hZ => by subst hZ; simp [avs]
  have hAt : Off A t := fun Z hZ => (htb.av' (hAav Z hZ)).2.1
  have hAlo := ownm_lt hom
  have HOM := Lib.hid hom
  have HTB := Lib.hid htb
  have HAV := Lib.hid hAav
  have HAL := Lib.hid hAlo
  have HOF := Lib.hid hoff
  have HAT := Lib.hid hAt
  have HLM := Lib.hid hlim
  have rk := cell_of hblk
  have rt := cell_of hbt
  have HBK := Lib.hid hblk
  have HBT := Lib.hid hbt
  have hend := fun (W : World) => EndCode_yes o l m hs W
  (rw [← hc] at hend; clear hc)
  clear hblk hbt hom htb hrp hAav hAlo hoff hAt hlim
  go_enter Try.func95, Try.ntmps95
  go_wp2_with fail
  refine wp_region_pt 17 (fun w' => w'.heap[kb]? = some (.cells #[.pointer (some ⟨t, 0, none⟩), .slice A bs.length cap] 115 (0, 0)) ∧ w'.heap[t]? = some (.cells #[.int .i64 o, .int .i64 l, .int .i64 m, .slice pa ps.length pc, .int .i64 base, .int .i64 last, X, Y] 133 (0, 0)) ∧ w'.heap[w.heap.size]? = some (.cells #[.int .i64 o, .int .i64 l, .int .i64 m] 31 (0, 0))) (Plan.quiet 0 (Plan.quiet 1 (Plan.quiet 2 (Plan.quiet 3 (Plan.quiet 4 (Plan.quiet 5 (Plan.quiet 6 (Plan.quiet 7 (Plan.quiet 8 (Plan.quiet 9 (Plan.quiet 10 (Plan.quiet 11 (Plan.quiet 12 (Plan.quiet 13 (Plan.quiet 14 (Plan.one 15 (Plan.one 16 (Plan.one 17 (Plan.one 18 (Plan.one 19 Plan.done)))))))))))))))))))) (by kernel_rfl) (by kernel_rfl) (⟨(by repeat (first | (with_reducible exact HBK.out) | (with_reducible apply blk_seq) | (with_reducible apply blk_draw) | (with_reducible apply blk_plus) | (with_reducible apply blk_alloc) | (with_reducible apply blk_drew) | (with_reducible refine blk_patch ?_ (by omega)) | exact HBK.out)), (by repeat (first | (with_reducible exact HBT.out) | (with_reducible apply blk_seq) | (with_reducible apply blk_draw) | (with_reducible apply blk_plus) | (with_reducible apply blk_alloc) | (with_reducible apply blk_drew) | (with_reducible refine blk_patch ?_ (by omega)) | exact HBT.out)), (by repeat (first | (with_reducible exact push_new _ _ _ (by simp)) | (with_reducible apply blk_plus) | (with_reducible apply blk_drew) | (with_reducible apply blk_alloc)))⟩) ?_
  refine wpPt_val rfl rfl ?_
  apply Exists.intro
  refine ⟨fun w' hS => ?_, ?_⟩
  focus (have rS := cell_of hS.1; have rT := cell_of hS.2.1; have rU := cell_of hS.2.2; simp [go_sem, ↓IntWalk.iteOmega, rS, rT, rU] <;> first | done | exact rfl | (rw [IntWalk.i64_in _ (by omega)]; exact rfl) | trace_state)
  refine wpPt_val rfl rfl ?_
  apply Exists.intro
  refine ⟨fun w' hS => ?_, ?_⟩
  focus (have rS := cell_of hS.1; have rT := cell_of hS.2.1; have rU := cell_of hS.2.2; simp [go_sem, ↓IntWalk.iteOmega, rS, rT, rU] <;> first | done | exact rfl | (rw [IntWalk.i64_in _ (by omega)]; exact rfl) | trace_state)
  refine wpPt_val rfl rfl ?_
  apply Exists.intro
  refine ⟨fun w' hS => ?_, ?_⟩
  focus (have rS := cell_of hS.1; have rT := cell_of hS.2.1; have rU := cell_of hS.2.2; simp [go_sem, ↓IntWalk.iteOmega, rS, rT, rU] <;> first | done | exact rfl | (rw [IntWalk.i64_in _ (by omega)]; exact rfl) | trace_state)
  refine wpPt_val rfl rfl ?_
  apply Exists.intro
  refine ⟨fun w' hS => ?_, ?_⟩
  focus (have rS := cell_of hS.1; have rT := cell_of hS.2.1; have rU := cell_of hS.2.2; simp [go_sem, ↓IntWalk.iteOmega, rS, rT, rU] <;> first | done | exact rfl | (rw [IntWalk.i64_in _ (by omega)]; exact rfl) | trace_state)
  refine wpPt_val rfl rfl ?_
  apply Exists.intro
  refine ⟨fun w' hS => ?_, ?_⟩
  focus (have rS := cell_of hS.1; have rT := cell_of hS.2.1; have rU := cell_of hS.2.2; simp [go_sem, ↓IntWalk.iteOmega, rS, rT, rU] <;> first | done | exact rfl | (rw [IntWalk.i64_in _ (by omega)]; exact rfl) | trace_state)
  refine wpPt_val rfl rfl ?_
  apply Exists.intro
  refine ⟨fun w' hS => ?_, ?_⟩
  focus (have rS := cell_of hS.1; have rT := cell_of hS.2.1; have rU := cell_of hS.2.2; simp [go_sem, ↓IntWalk.iteOmega, rS, rT, rU] <;> first | done | exact rfl | (rw [IntWalk.i64_in _ (by omega)]; exact rfl) | trace_state)
  refine wpPt_val rfl rfl ?_
  apply Exists.intro
  refine ⟨fun w' hS => ?_, ?_⟩
  focus (have rS := cell_of hS.1; have rT := cell_of hS.2.1; have rU := cell_of hS.2.2; simp [go_sem, ↓IntWalk.iteOmega, rS, rT, rU] <;> first | done | exact rfl | (rw [IntWalk.i64_in _ (by omega)]; exact rfl) | trace_state)
  refine wpPt_val rfl rfl ?_
  apply Exists.intro
  refine ⟨fun w' hS => ?_, ?_⟩
  focus (have rS := cell_of hS.1; have rT := cell_of hS.2.1; have rU := cell_of hS.2.2; simp [go_sem, ↓IntWalk.iteOmega, rS, rT, rU] <;> first | done | exact rfl | (rw [IntWalk.i64_in _ (by omega)]; exact rfl) | trace_state)
  refine wpPt_val rfl rfl ?_
  apply Exists.intro
  refine ⟨fun w' hS => ?_, ?_⟩
  focus (have rS := cell_of hS.1; have rT := cell_of hS.2.1; have rU := cell_of hS.2.2; simp [go_sem, ↓IntWalk.iteOmega, rS, rT, rU] <;> first | done | exact rfl | (rw [IntWalk.i64_in _ (by omega)]; exact rfl) | trace_state)
  refine wpPt_val rfl rfl ?_
  apply Exists.intro
  refine ⟨fun w' hS => ?_, ?_⟩
  focus (have rS := cell_of hS.1; have rT := cell_of hS.2.1; have rU := cell_of hS.2.2; simp [go_sem, ↓IntWalk.iteOmega, rS, rT, rU] <;> first | done | exact rfl | (rw [IntWalk.i64_in _ (by omega)]; exact rfl) | trace_state)
  refine wpPt_val rfl rfl ?_
  apply Exists.intro
  refine ⟨fun w' hS => ?_, ?_⟩
  focus (have rS := cell_of hS.1; have rT := cell_of hS.2.1; have rU := cell_of hS.2.2; simp [go_sem, ↓IntWalk.iteOmega, rS, rT, rU] <;> first | done | exact rfl | (rw [IntWalk.i64_in _ (by omega)]; exact rfl) | trace_state)
  refine wpPt_val rfl rfl ?_
  apply Exists.intro
  refine ⟨fun w' hS => ?_, ?_⟩
  focus (have rS := cell_of hS.1; have rT := cell_of hS.2.1; have rU := cell_of hS.2.2; simp [go_sem, ↓IntWalk.iteOmega, rS, rT, rU] <;> first | done | exact rfl | (rw [IntWalk.i64_in _ (by omega)]; exact rfl) | trace_state)
  refine wpPt_val rfl rfl ?_
  apply Exists.intro
  refine ⟨fun w' hS => ?_, ?_⟩
  focus (have rS := cell_of hS.1; have rT := cell_of hS.2.1; have rU := cell_of hS.2.2; simp [go_sem, ↓IntWalk.iteOmega, rS, rT, rU] <;> first | done | exact rfl | (rw [IntWalk.i64_in _ (by omega)]; exact rfl) | trace_state)
  refine wpPt_val rfl rfl ?_
  apply Exists.intro
  refine ⟨fun w' hS => ?_, ?_⟩
  focus (have rS := cell_of hS.1; have rT := cell_of hS.2.1; have rU := cell_of hS.2.2; simp [go_sem, ↓IntWalk.iteOmega, rS, rT, rU] <;> first | done | exact rfl | (rw [IntWalk.i64_in _ (by omega)]; exact rfl) | trace_state)
  refine wpPt_val rfl rfl ?_
  apply Exists.intro
  refine ⟨fun w' hS => ?_, ?_⟩
  focus (have rS := cell_of hS.1; have rT := cell_of hS.2.1; have rU := cell_of hS.2.2; simp [go_sem, ↓IntWalk.iteOmega, rS, rT, rU] <;> first | done | exact rfl | (rw [IntWalk.i64_in _ (by omega)]; exact rfl) | trace_state)
  refine wpPt_one rfl rfl (fun K hK => ?_)
  go_simp
  refine (width_any o l m pa ps.length pc base last _ HLM.out (by omega)).mono ?_
  rintro e w' ⟨rfl, x15, rfl⟩
  rw [hn]
  refine hK _ _ (fun hkn => ⟨(by repeat (first | (with_reducible exact HBK.out) | (with_reducible apply blk_seq) | (with_reducible apply blk_draw) | (with_reducible apply blk_plus) | (with_reducible apply blk_alloc) | (with_reducible apply blk_drew) | (with_reducible refine blk_patch ?_ (by omega)) | exact HBK.out)), (by repeat (first | (with_reducible exact HBT.out) | (with_reducible apply blk_seq) | (with_reducible apply blk_draw) | (with_reducible apply blk_plus) | (with_reducible apply blk_alloc) | (with_reducible apply blk_drew) | (with_reducible refine blk_patch ?_ (by omega)) | exact HBT.out)), (by repeat (first | (with_reducible exact push_new _ _ _ (by simp)) | (with_reducible apply blk_plus) | (with_reducible apply blk_drew) | (with_reducible apply blk_alloc)))⟩) ?_
  clear hK K
  refine wpPt_one rfl rfl (fun K hK => ?_)
  go_simp
  refine (appendBits_m A cap bs lo o c n _ (by repeat (first | (with_reducible exact HOM.out) | (with_reducible apply OwM.plus) | (with_reducible apply OwM.alloc) | (with_reducible apply OwM.drew))) (by simp; omega) hc0 hc1 hn10 (by omega)).mono ?_
  rintro e w6 ⟨A6, c6, rfl, hom6, hg6, hw6⟩
  have HM6 := Lib.hid hom6
  have HG6 := Lib.hid hg6
  have HW6 := Lib.hid hw6
  have HBK6 := Lib.hid (blk_grew hg6 (by repeat (first | (with_reducible exact HBK.out) | (with_reducible apply blk_seq) | (with_reducible apply blk_draw) | (with_reducible apply blk_plus) | (with_reducible apply blk_alloc) | (with_reducible apply blk_drew) | (with_reducible refine blk_patch ?_ (by omega)) | exact HBK.out)) HOF.out)
  have HBT6 := Lib.hid (blk_grew hg6 (by repeat (first | (with_reducible exact HBT.out) | (with_reducible apply blk_seq) | (with_reducible apply blk_draw) | (with_reducible apply blk_plus) | (with_reducible apply blk_alloc) | (with_reducible apply blk_drew) | (with_reducible refine blk_patch ?_ (by omega)) | exact HBT.out)) HAT.out)
  have HBS6 := Lib.hid (show w6.heap[w.heap.size]? = some (.cells #[.int .i64 o, .int .i64 l, .int .i64 m] 31 (0, 0)) from blk_grew hg6 (by repeat (first | (with_reducible exact push_new _ _ _ (by simp)) | (with_reducible apply blk_plus) | (with_reducible apply blk_drew) | (with_reducible apply blk_alloc))) (fun Z hZ e => by have := HAL.out Z hZ; omega))
  have z6 := hg6.size
  simp at z6
  have r6 := cell_of HBK6.out
  have q6 := cell_of HBT6.out
  have u6 := cell_of HBS6.out
  have f6 := free_of HBK6.out
  have s6 := fun i v => setCell_patch HBK6.out i v
  have hkb6 : kb < w6.heap.size := by omega
  clear hom6 hg6 hw6
  refine hK _ _ (fun hkn => ⟨HBK6.out, HBT6.out, HBS6.out⟩) ?_
  clear hK K
  refine wpPt_one rfl rfl (fun K hK => ?_)
  go_simp
  refine hK _ _ (fun hkn => absurd hkn (by decide)) ?_
  clear hK K
  refine wpPt_one rfl rfl (fun K hK => ?_)
  go_simp
  refine hK _ _ (fun hkn => absurd hkn (by decide)) ?_
  clear hK K
  refine wpPt_one rfl rfl (fun K hK => ?_)
  go_simp
  refine hK _ _ (fun hkn => absurd hkn (by decide)) ?_
  clear hK K
  refine NoPanic.normal ?_
  have v1 : (c != c) = false := by simp
  go_wp2_with (go_at_call 69; refine (hend _).mono ?_; rintro e w' ⟨rfl, x11, rfl⟩)
  obtain ⟨h1, h2, h3⟩ := cb_wrote HTB.out (w1 := plus (w.alloc (.cells #[.int .i64 o, .int .i64 l, .int .i64 m] 31)) x15) ⟨_, by rw [alloc_plus, plus_plus]⟩ HG6.out HW6.out HM6.out hlo hkb HAL.out HOF.out
  simp only [List.length_append] at h1 h2
  exact bodyPost_end (v := .tuple #[]) (by simp [results, Try.results95, go_sem]) rfl ⟨rfl, h1.plus _, Below.trans h2 (by repeat (first | exact Below.refl _ _ | refine below_plus ?_ (by first | omega | (simp <;> omega)) _ | refine Below.alloc ?_ (by first | omega | (simp <;> omega)) _ | refine below_patch ?_ (by omega) _ | refine Below.drew ?_)), by simp; omega⟩

set_option maxRecDepth 100000 in
set_option maxHeartbeats 4000000 in
theorem write_code {t kb lo : Nat} {o l m : Int} {ps qs : List Pr} {base last la : Int} {bs : List UInt8} (w : World) (h : CB w t kb lo o l m ps base last bs) (hlim : Lim o l m ps.length last) (hbl : bs.length ≤ 1000) (n : Nat) (hn : wd l m ps.length last = n) (hn10 : n ≤ 10) (c : Int) (hc : c ≠ two l + 1) (hc0 : 0 ≤ c) (hc1 : c < 1024)
    (hfol : ∀ W av, TB encB 5 av W t lo o l m ps base last none 0 [] → Calls Try.prog 120 #[.pointer (some ⟨t, 0, none⟩), .int .i64 c] W (TBR encB 5 av W t lo o l m qs base la none 0 [])) :
    Calls Try.prog 95 #[.pointer (some ⟨kb, 0, none⟩), .int .i64 c] w (CBR w t kb lo o l m qs base la (bs ++ bitsL o c n)) := by
  have v1 : (c != two l + 1) = true := by simp [hc]
  have HFO := Lib.hid hfol
  obtain ⟨A, cap, hblk, hlo, hkb, hom, hoff, htb⟩ := h
  obtain ⟨pa, pc, X, Y, hbt, hrp, hs, hlen⟩ := htb.blk
  obtain ⟨hlt, htl⟩ := htb.span
  have hkt : kb ≠ t := (htb.av' (k := kb) (by simp)).2.1
  have hAav : ∀ Z, A = some Z → Z.block ∈ kb :: avs A := fun Z hZ => by subst hZ; simp [avs]
  have hAt : Off A t := fun Z hZ => (htb.av' (hAav Z hZ)).2.1
  have hAlo := ownm_lt hom
  have HOM := Lib.hid hom
  have HTB := Lib.hid htb
  have HAV := Lib.hid hAav
  have HAL := Lib.hid hAlo
  have HOF := Lib.hid hoff
  have HAT := Lib.hid hAt
  have HLM := Lib.hid hlim
  have rk := cell_of hblk
  have rt := cell_of hbt
  have HBK := Lib.hid hblk
  have HBT := Lib.hid hbt
  have hend := fun (W : World) => EndCode_yes o l m hs W
  (clear hc hfol)
  clear hblk hbt hom htb hrp hAav hAlo hoff hAt hlim
  go_enter Try.func95, Try.ntmps95
  go_wp2_with fail
  refine wp_region_pt 17 (fun w' => w'.heap[kb]? = some (.cells #[.pointer (some ⟨t, 0, none⟩), .slice A bs.length cap] 115 (0, 0)) ∧ w'.heap[t]? = some (.cells #[.int .i64 o, .int .i64 l, .int .i64 m, .slice pa ps.length pc, .int .i64 base, .int .i64 last, X, Y] 133 (0, 0)) ∧ w'.heap[w.heap.size]? = some (.cells #[.int .i64 o, .int .i64 l, .int .i64 m] 31 (0, 0))) (Plan.quiet 0 (Plan.quiet 1 (Plan.quiet 2 (Plan.quiet 3 (Plan.quiet 4 (Plan.quiet 5 (Plan.quiet 6 (Plan.quiet 7 (Plan.quiet 8 (Plan.quiet 9 (Plan.quiet 10 (Plan.quiet 11 (Plan.quiet 12 (Plan.quiet 13 (Plan.quiet 14 (Plan.one 15 (Plan.one 16 (Plan.one 17 (Plan.one 18 (Plan.one 19 Plan.done)))))))))))))))))))) (by kernel_rfl) (by kernel_rfl) (⟨(by repeat (first | (with_reducible exact HBK.out) | (with_reducible apply blk_seq) | (with_reducible apply blk_draw) | (with_reducible apply blk_plus) | (with_reducible apply blk_alloc) | (with_reducible apply blk_drew) | (with_reducible refine blk_patch ?_ (by omega)) | exact HBK.out)), (by repeat (first | (with_reducible exact HBT.out) | (with_reducible apply blk_seq) | (with_reducible apply blk_draw) | (with_reducible apply blk_plus) | (with_reducible apply blk_alloc) | (with_reducible apply blk_drew) | (with_reducible refine blk_patch ?_ (by omega)) | exact HBT.out)), (by repeat (first | (with_reducible exact push_new _ _ _ (by simp)) | (with_reducible apply blk_plus) | (with_reducible apply blk_drew) | (with_reducible apply blk_alloc)))⟩) ?_
  refine wpPt_val rfl rfl ?_
  apply Exists.intro
  refine ⟨fun w' hS => ?_, ?_⟩
  focus (have rS := cell_of hS.1; have rT := cell_of hS.2.1; have rU := cell_of hS.2.2; simp [go_sem, ↓IntWalk.iteOmega, rS, rT, rU] <;> first | done | exact rfl | (rw [IntWalk.i64_in _ (by omega)]; exact rfl) | trace_state)
  refine wpPt_val rfl rfl ?_
  apply Exists.intro
  refine ⟨fun w' hS => ?_, ?_⟩
  focus (have rS := cell_of hS.1; have rT := cell_of hS.2.1; have rU := cell_of hS.2.2; simp [go_sem, ↓IntWalk.iteOmega, rS, rT, rU] <;> first | done | exact rfl | (rw [IntWalk.i64_in _ (by omega)]; exact rfl) | trace_state)
  refine wpPt_val rfl rfl ?_
  apply Exists.intro
  refine ⟨fun w' hS => ?_, ?_⟩
  focus (have rS := cell_of hS.1; have rT := cell_of hS.2.1; have rU := cell_of hS.2.2; simp [go_sem, ↓IntWalk.iteOmega, rS, rT, rU] <;> first | done | exact rfl | (rw [IntWalk.i64_in _ (by omega)]; exact rfl) | trace_state)
  refine wpPt_val rfl rfl ?_
  apply Exists.intro
  refine ⟨fun w' hS => ?_, ?_⟩
  focus (have rS := cell_of hS.1; have rT := cell_of hS.2.1; have rU := cell_of hS.2.2; simp [go_sem, ↓IntWalk.iteOmega, rS, rT, rU] <;> first | done | exact rfl | (rw [IntWalk.i64_in _ (by omega)]; exact rfl) | trace_state)
  refine wpPt_val rfl rfl ?_
  apply Exists.intro
  refine ⟨fun w' hS => ?_, ?_⟩
  focus (have rS := cell_of hS.1; have rT := cell_of hS.2.1; have rU := cell_of hS.2.2; simp [go_sem, ↓IntWalk.iteOmega, rS, rT, rU] <;> first | done | exact rfl | (rw [IntWalk.i64_in _ (by omega)]; exact rfl) | trace_state)
  refine wpPt_val rfl rfl ?_
  apply Exists.intro
  refine ⟨fun w' hS => ?_, ?_⟩
  focus (have rS := cell_of hS.1; have rT := cell_of hS.2.1; have rU := cell_of hS.2.2; simp [go_sem, ↓IntWalk.iteOmega, rS, rT, rU] <;> first | done | exact rfl | (rw [IntWalk.i64_in _ (by omega)]; exact rfl) | trace_state)
  refine wpPt_val rfl rfl ?_
  apply Exists.intro
  refine ⟨fun w' hS => ?_, ?_⟩
  focus (have rS := cell_of hS.1; have rT := cell_of hS.2.1; have rU := cell_of hS.2.2; simp [go_sem, ↓IntWalk.iteOmega, rS, rT, rU] <;> first | done | exact rfl | (rw [IntWalk.i64_in _ (by omega)]; exact rfl) | trace_state)
  refine wpPt_val rfl rfl ?_
  apply Exists.intro
  refine ⟨fun w' hS => ?_, ?_⟩
  focus (have rS := cell_of hS.1; have rT := cell_of hS.2.1; have rU := cell_of hS.2.2; simp [go_sem, ↓IntWalk.iteOmega, rS, rT, rU] <;> first | done | exact rfl | (rw [IntWalk.i64_in _ (by omega)]; exact rfl) | trace_state)
  refine wpPt_val rfl rfl ?_
  apply Exists.intro
  refine ⟨fun w' hS => ?_, ?_⟩
  focus (have rS := cell_of hS.1; have rT := cell_of hS.2.1; have rU := cell_of hS.2.2; simp [go_sem, ↓IntWalk.iteOmega, rS, rT, rU] <;> first | done | exact rfl | (rw [IntWalk.i64_in _ (by omega)]; exact rfl) | trace_state)
  refine wpPt_val rfl rfl ?_
  apply Exists.intro
  refine ⟨fun w' hS => ?_, ?_⟩
  focus (have rS := cell_of hS.1; have rT := cell_of hS.2.1; have rU := cell_of hS.2.2; simp [go_sem, ↓IntWalk.iteOmega, rS, rT, rU] <;> first | done | exact rfl | (rw [IntWalk.i64_in _ (by omega)]; exact rfl) | trace_state)
  refine wpPt_val rfl rfl ?_
  apply Exists.intro
  refine ⟨fun w' hS => ?_, ?_⟩
  focus (have rS := cell_of hS.1; have rT := cell_of hS.2.1; have rU := cell_of hS.2.2; simp [go_sem, ↓IntWalk.iteOmega, rS, rT, rU] <;> first | done | exact rfl | (rw [IntWalk.i64_in _ (by omega)]; exact rfl) | trace_state)
  refine wpPt_val rfl rfl ?_
  apply Exists.intro
  refine ⟨fun w' hS => ?_, ?_⟩
  focus (have rS := cell_of hS.1; have rT := cell_of hS.2.1; have rU := cell_of hS.2.2; simp [go_sem, ↓IntWalk.iteOmega, rS, rT, rU] <;> first | done | exact rfl | (rw [IntWalk.i64_in _ (by omega)]; exact rfl) | trace_state)
  refine wpPt_val rfl rfl ?_
  apply Exists.intro
  refine ⟨fun w' hS => ?_, ?_⟩
  focus (have rS := cell_of hS.1; have rT := cell_of hS.2.1; have rU := cell_of hS.2.2; simp [go_sem, ↓IntWalk.iteOmega, rS, rT, rU] <;> first | done | exact rfl | (rw [IntWalk.i64_in _ (by omega)]; exact rfl) | trace_state)
  refine wpPt_val rfl rfl ?_
  apply Exists.intro
  refine ⟨fun w' hS => ?_, ?_⟩
  focus (have rS := cell_of hS.1; have rT := cell_of hS.2.1; have rU := cell_of hS.2.2; simp [go_sem, ↓IntWalk.iteOmega, rS, rT, rU] <;> first | done | exact rfl | (rw [IntWalk.i64_in _ (by omega)]; exact rfl) | trace_state)
  refine wpPt_val rfl rfl ?_
  apply Exists.intro
  refine ⟨fun w' hS => ?_, ?_⟩
  focus (have rS := cell_of hS.1; have rT := cell_of hS.2.1; have rU := cell_of hS.2.2; simp [go_sem, ↓IntWalk.iteOmega, rS, rT, rU] <;> first | done | exact rfl | (rw [IntWalk.i64_in _ (by omega)]; exact rfl) | trace_state)
  refine wpPt_one rfl rfl (fun K hK => ?_)
  go_simp
  refine (width_any o l m pa ps.length pc base last _ HLM.out (by omega)).mono ?_
  rintro e w' ⟨rfl, x15, rfl⟩
  rw [hn]
  refine hK _ _ (fun hkn => ⟨(by repeat (first | (with_reducible exact HBK.out) | (with_reducible apply blk_seq) | (with_reducible apply blk_draw) | (with_reducible apply blk_plus) | (with_reducible apply blk_alloc) | (with_reducible apply blk_drew) | (with_reducible refine blk_patch ?_ (by omega)) | exact HBK.out)), (by repeat (first | (with_reducible exact HBT.out) | (with_reducible apply blk_seq) | (with_reducible apply blk_draw) | (with_reducible apply blk_plus) | (with_reducible apply blk_alloc) | (with_reducible apply blk_drew) | (with_reducible refine blk_patch ?_ (by omega)) | exact HBT.out)), (by repeat (first | (with_reducible exact push_new _ _ _ (by simp)) | (with_reducible apply blk_plus) | (with_reducible apply blk_drew) | (with_reducible apply blk_alloc)))⟩) ?_
  clear hK K
  refine wpPt_one rfl rfl (fun K hK => ?_)
  go_simp
  refine (appendBits_m A cap bs lo o c n _ (by repeat (first | (with_reducible exact HOM.out) | (with_reducible apply OwM.plus) | (with_reducible apply OwM.alloc) | (with_reducible apply OwM.drew))) (by simp; omega) hc0 hc1 hn10 (by omega)).mono ?_
  rintro e w6 ⟨A6, c6, rfl, hom6, hg6, hw6⟩
  have HM6 := Lib.hid hom6
  have HG6 := Lib.hid hg6
  have HW6 := Lib.hid hw6
  have HBK6 := Lib.hid (blk_grew hg6 (by repeat (first | (with_reducible exact HBK.out) | (with_reducible apply blk_seq) | (with_reducible apply blk_draw) | (with_reducible apply blk_plus) | (with_reducible apply blk_alloc) | (with_reducible apply blk_drew) | (with_reducible refine blk_patch ?_ (by omega)) | exact HBK.out)) HOF.out)
  have HBT6 := Lib.hid (blk_grew hg6 (by repeat (first | (with_reducible exact HBT.out) | (with_reducible apply blk_seq) | (with_reducible apply blk_draw) | (with_reducible apply blk_plus) | (with_reducible apply blk_alloc) | (with_reducible apply blk_drew) | (with_reducible refine blk_patch ?_ (by omega)) | exact HBT.out)) HAT.out)
  have HBS6 := Lib.hid (show w6.heap[w.heap.size]? = some (.cells #[.int .i64 o, .int .i64 l, .int .i64 m] 31 (0, 0)) from blk_grew hg6 (by repeat (first | (with_reducible exact push_new _ _ _ (by simp)) | (with_reducible apply blk_plus) | (with_reducible apply blk_drew) | (with_reducible apply blk_alloc))) (fun Z hZ e => by have := HAL.out Z hZ; omega))
  have z6 := hg6.size
  simp at z6
  have r6 := cell_of HBK6.out
  have q6 := cell_of HBT6.out
  have u6 := cell_of HBS6.out
  have f6 := free_of HBK6.out
  have s6 := fun i v => setCell_patch HBK6.out i v
  have hkb6 : kb < w6.heap.size := by omega
  clear hom6 hg6 hw6
  refine hK _ _ (fun hkn => ⟨HBK6.out, HBT6.out, HBS6.out⟩) ?_
  clear hK K
  refine wpPt_one rfl rfl (fun K hK => ?_)
  go_simp
  refine hK _ _ (fun hkn => absurd hkn (by decide)) ?_
  clear hK K
  refine wpPt_one rfl rfl (fun K hK => ?_)
  go_simp
  refine hK _ _ (fun hkn => absurd hkn (by decide)) ?_
  clear hK K
  refine wpPt_one rfl rfl (fun K hK => ?_)
  go_simp
  refine hK _ _ (fun hkn => absurd hkn (by decide)) ?_
  clear hK K
  refine NoPanic.normal ?_
  obtain ⟨h1, h2, h3⟩ := cb_wrote HTB.out (w1 := plus (w.alloc (.cells #[.int .i64 o, .int .i64 l, .int .i64 m] 31)) x15) ⟨_, by rw [alloc_plus, plus_plus]⟩ HG6.out HW6.out HM6.out hlo hkb HAL.out HOF.out
  simp only [List.length_append] at h1 h2
  have H1 := Lib.hid h1
  have H2 := Lib.hid h2
  clear h1 h2
  go_wp2_with (go_at_call 69; refine (hend _).mono ?_; rintro e w' ⟨rfl, x11, rfl⟩)
  refine (cb_follow (by repeat (first | (with_reducible exact H1.out) | (with_reducible apply CB.plus) | (with_reducible apply CB.alloc) | (with_reducible apply CB.drew))) (fun av h => HFO.out _ av h)).mono ?_
  rintro e w7 ⟨rfl, hcb7, hbl7, hsz7⟩
  simp at hsz7
  have H7 := Lib.hid hcb7
  have HB7 := Lib.hid (Below.trans H2.out (Below.trans (b := _) (by repeat (first | exact Below.refl _ _ | refine below_plus ?_ (by first | omega | (simp <;> omega)) _ | refine Below.alloc ?_ (by first | omega | (simp <;> omega)) _ | refine below_patch ?_ (by omega) _ | refine Below.drew ?_)) hbl7))
  clear hcb7 hbl7
  go_wp2_with fail
  exact bodyPost_end (v := .tuple #[]) (by simp [results, Try.results95, go_sem]) rfl ⟨rfl, H7.out, HB7.out, by omega⟩

end Go.Proofs.Ytmenpflcmpihpaa
