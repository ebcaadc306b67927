/- The walk of tree.learn: a pair more. -/
import Derived.Test.YtbedikodiboofaaTch
namespace Go.Proofs.Ytbedikodiboofaa
open Go.RowKit
set_option linter.unusedVariables false
set_option linter.unusedSimpArgs false

theorem infoNode : (Try.prog.info? 117).map (fun i => (i.zero, i.size, i.bytes)) = some (some (.agg #[.int .i64 0, .int .i64 0, .int .i64 0, .int .u8 0, .int .u8 0, .int .i64 0]), 6, 40) := by kernel_rfl

theorem infoInt : (Try.prog.info? 3).map (fun i => (i.zero, i.size, i.bytes)) = some (some (.int .i64 0), 1, 8) := by kernel_rfl

theorem own_grew {α : Type} {E : Enc α} {e : TypeId} {w w' : World} {a A : Option Addr} {cap : Nat} {xs : List α} {lo : Nat} (h : Own E e w a cap xs lo) (hg : Grew A w w') (ho : ∀ X, a = some X → Off A X.block) : Own E e w' a cap xs lo :=
  h.of_block fun X hX hl => hg.block _ hl fun Y hY => ho X hX Y hY

theorem own_patch {α : Type} {E : Enc α} {e : TypeId} {w : World} {a : Option Addr} {cap : Nat} {xs : List α} {lo b : Nat} {ob : Obj} (h : Own E e w a cap xs lo) (ho : Off a b) : Own E e (patch w b ob) a cap xs lo :=
  h.of_block fun X hX hl => patch_other w b ob (ho X hX)

theorem blk_grew {A : Option Addr} {w w' : World} {k : Nat} {ob : Obj} (hg : Grew A w w') (h : w.heap[k]? = some ob) (ho : Off A k) : w'.heap[k]? = some ob := by
  rw [hg.block k (Array.getElem?_eq_some_iff.1 h).1 (fun X hX => ho X hX)]; exact h

theorem off_flip {a : Option Addr} {k : Nat} {A : Option Addr} (h : ∀ X, a = some X → Off A X.block) {Y : Addr} (hY : A = some Y) : Off a Y.block := fun X hX e => h X hX Y hY e.symm

/-- the world has turned in the tree's blocks alone -/
structure Turned (t : Nat) (pa na qa : Option Addr) (w w' : World) : Prop where
  os : w'.os = w.os
  tape : w'.tape = w.tape
  output : w'.output = w.output
  size : w.heap.size ≤ w'.heap.size
  block : ∀ k, k < w.heap.size → k ≠ t → Off pa k → Off na k → Off qa k → w'.heap[k]? = w.heap[k]?

/-- the tree's blocks: as before, or new -/
def Within (a a' : Option Addr) (n : Nat) : Prop := ∀ X, a' = some X → (∃ Y, a = some Y ∧ Y.block = X.block) ∨ n ≤ X.block

theorem Nxt.within {A A' : Option Addr} {n m : Nat} (h : Nxt A A' n) (hm : m ≤ n) : Within A A' m := fun X hX => (h X hX).imp id fun e => by omega

theorem within_refl (a : Option Addr) (n : Nat) : Within a a n := fun X hX => .inl ⟨X, hX, rfl⟩

/-- what learn leaves -/
def Learned (t : Nat) (pa na qa : Option Addr) (o l m : Int) (ps : List Pr) (base last : Int) (w : World) (e : Ending) (w' : World) : Prop :=
  e = .returned (.tuple #[]) ∧ ∃ pa' pc' na' nc' qa' qc' N' pn', Tk w' t pa' pc' na' nc' qa' qc' o l m ps base last N' pn' ∧ Turned t pa na qa w w' ∧ Within pa pa' w.heap.size ∧ Within na na' w.heap.size ∧ Within qa qa' w.heap.size

theorem nxt_off {A A' B : Option Addr} {n : Nat} (h : Nxt A A' n) (h1 : ∀ X, A = some X → Off B X.block) (h2 : ∀ Y, B = some Y → Y.block ≠ n) : ∀ X, A' = some X → Off B X.block := fun X hX Y hY e => by
  rcases h X hX with ⟨Z, hZ, he⟩ | he
  · exact h1 Z hZ Y hY (by omega)
  · exact h2 Y hY (by omega)

theorem own_alloc_drew {α : Type} {E : Enc α} {e : TypeId} {w : World} {a : Option Addr} {cap : Nat} {xs : List α} {lo : Nat} (h : Own E e w a cap xs lo) (o : Obj) : Own E e (w.drew.alloc o) a cap xs lo := h.drew.alloc o

theorem off_comm {A B : Option Addr} (h : ∀ X, A = some X → Off B X.block) : ∀ Y, B = some Y → Off A Y.block := fun Y hY X hX e => h X hX Y hY e.symm

theorem own_off {α : Type} {E : Enc α} {e : TypeId} {w : World} {a : Option Addr} {cap : Nat} {xs : List α} {lo k : Nat} (h : Own E e w a cap xs lo) (hk : w.heap.size ≤ k) : Off a k := fun A hA he => by
  have := (own_lt h A hA).2; omega

/-- what a learning leaves of the world, in one step more -/
theorem turned_trans {t : Nat} {pa na qa : Option Addr} {w w' w'' : World} {pa' na' qa' : Option Addr} (h : Turned t pa na qa w w') (k : Turned t pa' na' qa' w' w'')
    (hp : Within pa pa' w.heap.size) (hn : Within na na' w.heap.size) (hq : Within qa qa' w.heap.size) : Turned t pa na qa w w'' :=
  ⟨k.os.trans h.os, k.tape.trans h.tape, k.output.trans h.output, by have := h.size; have := k.size; omega, fun j hj h1 h2 h3 h4 => by
    have out : ∀ {a a' : Option Addr}, Within a a' w.heap.size → Off a j → Off a' j := fun {a a'} hw ho X hX e => by
      rcases hw X hX with ⟨Y, hY, he⟩ | he
      · exact ho Y hY (by omega)
      · omega
    rw [k.block j (by have := h.size; omega) h1 (out hp h2) (out hn h3) (out hq h4)]
    exact h.block j hj h1 h2 h3 h4⟩

theorem turned_plus {t : Nat} {pa na qa : Option Addr} {w w' : World} (h : Turned t pa na qa w w') (x : Ext) : Turned t pa na qa w (plus w' x) :=
  ⟨h.os, h.tape, h.output, by have := h.size; simp; omega, fun j hj h1 h2 h3 h4 => by rw [plus_block _ _ (by have := h.size; omega)]; exact h.block j hj h1 h2 h3 h4⟩

theorem turned_refl (t : Nat) (pa na qa : Option Addr) (w : World) : Turned t pa na qa w w := ⟨rfl, rfl, rfl, Nat.le_refl _, fun _ _ _ _ _ _ => rfl⟩

theorem turned_alloc {t : Nat} {pa na qa : Option Addr} {w w' : World} (h : Turned t pa na qa w w') (o : Obj) : Turned t pa na qa w (w'.alloc o) := by rw [alloc_plus]; exact turned_plus h _

theorem turned_drew {t : Nat} {pa na qa : Option Addr} {w w' : World} (h : Turned t pa na qa w w') : Turned t pa na qa w w'.drew := by rw [drew_is_plus]; exact turned_plus h _

theorem turned_patch {t : Nat} {pa na qa : Option Addr} {w w' : World} (h : Turned t pa na qa w w') (o : Obj) : Turned t pa na qa w (patch w' t o) :=
  ⟨h.os, h.tape, h.output, by have := h.size; simp; omega, fun j hj h1 h2 h3 h4 => by rw [patch_other _ _ _ h1]; exact h.block j hj h1 h2 h3 h4⟩

theorem turned_grew {t : Nat} {pa na qa A : Option Addr} {w w' w'' : World} (h : Turned t pa na qa w w') (k : Grew A w' w'') (hA : ∀ X, A = some X → (∃ Y, pa = some Y ∧ Y.block = X.block) ∨ (∃ Y, na = some Y ∧ Y.block = X.block) ∨ (∃ Y, qa = some Y ∧ Y.block = X.block) ∨ w.heap.size ≤ X.block) : Turned t pa na qa w w'' :=
  ⟨k.os.trans h.os, k.tape.trans h.tape, k.output.trans h.output, by have := h.size; have := k.size; omega, fun j hj h1 h2 h3 h4 => by
    rw [k.block j (by have := h.size; omega) fun X hX e => by
      rcases hA X hX with ⟨Y, hY, he⟩ | ⟨Y, hY, he⟩ | ⟨Y, hY, he⟩ | he
      · exact h2 Y hY (by omega)
      · exact h3 Y hY (by omega)
      · exact h4 Y hY (by omega)
      · omega]
    exact h.block j hj h1 h2 h3 h4⟩

theorem grew_patch (w : World) (b : Nat) (o : Obj) : Grew (some ⟨b, 0, none⟩) w (patch w b o) :=
  ⟨rfl, rfl, rfl, by simp, fun k hk ha => patch_other w b o (fun e => ha _ rfl e.symm)⟩

theorem row_set {α : Type} {E : Enc α} {cur : Array Value} {xs : List α} (h : Row E cur xs) {i j : Nat} {x y : α} {v : Value} (hx : xs[i]? = some x) (hj : j < E.sz) (hy : E.enc y = (E.enc x).set j v) : Row E (cur.setIfInBounds (i * E.sz + j) v) (xs.set i y) := by
  have hsz : i * E.sz + j < cur.size := by
    have h1 : (E.enc x)[j]? = some ((E.enc x)[j]'(by rw [E.len]; exact hj)) := List.getElem?_eq_getElem _
    have h2 := h (i * E.sz + j) _ (by rw [flat_get E xs i x hx j hj]; exact h1)
    exact (Array.getElem?_eq_some_iff.1 h2).1
  refine row_of E _ _ fun k z hz j' hj' => ?_
  rw [Array.getElem?_setIfInBounds]
  rw [List.getElem?_set] at hz
  have hdiv : ∀ a b : Nat, b < E.sz → (a * E.sz + b) / E.sz = a := fun a b hb => by
    rw [Nat.mul_comm, Nat.mul_add_div (by omega), Nat.div_eq_of_lt hb, Nat.add_zero]
  by_cases hik : i = k
  · subst hik
    rw [if_pos rfl, if_pos (List.getElem?_eq_some_iff.1 hx).1] at hz
    cases hz
    by_cases hjj : j = j'
    · subst hjj
      rw [if_pos rfl, if_pos hsz, hy, List.getElem?_set, if_pos rfl, if_pos (by rw [E.len]; exact hj)]
    · rw [if_neg (by omega), hy, List.getElem?_set, if_neg hjj]
      have h1 : (E.enc x)[j']? = some ((E.enc x)[j']'(by rw [E.len]; exact hj')) := List.getElem?_eq_getElem _
      rw [h1]
      exact h _ _ (by rw [flat_get E xs i x hx j' hj']; exact h1)
  · rw [if_neg hik] at hz
    have hne : i * E.sz + j ≠ k * E.sz + j' := fun e => hik (by have := congrArg (· / E.sz) e; simp only [hdiv i j hj, hdiv k j' hj'] at this; exact this)
    rw [if_neg hne]
    have h1 : (E.enc z)[j']? = some ((E.enc z)[j']'(by rw [E.len]; exact hj')) := List.getElem?_eq_getElem _
    rw [h1]
    exact h _ _ (by rw [flat_get E xs k z hz j' hj']; exact h1)


set_option maxRecDepth 100000 in
set_option maxHeartbeats 4000000 in
theorem learn_any {t : Nat} {pa : Option Addr} {pc : Nat} {na : Option Addr} {nc : Nat} {qa : Option Addr} {qc : Nat} {o l m : Int} {ps : List Pr} {base last : Int} {N : List Nd} {pn : List Int} (p : Pr) (w : World)
    (h : Tk w t pa pc na nc qa qc o l m ps base last N pn) (hp : okP l ps.length p) (hlen : ps.length < 2000) :
    Calls Try.prog 102 #[.pointer (some ⟨t, 0, none⟩), .agg #[.int .i64 p.p, .int .i64 p.b]] w (Learned t pa na qa o l m (ps ++ [p]) base last w) := by
  obtain ⟨l1, l2, l3, l4, t1, t2, t3, t4⟩ := h.lit
  obtain ⟨ht, c0, c1, c2, c3, c4, c5, c6, c7⟩ := h.at'.cells
  have hD := h.di
  have hs := h.s
  obtain ⟨nl1, nl2⟩ := h.ti.bounds hD
  obtain ⟨hpw, hb0, hb1⟩ := hp
  have HOK := Lib.hid (h.ok.snoc (p := p) ⟨hpw, hb0, hb1⟩)
  have hpw2 := hw_iff.1 hpw
  have hb2 : p.b ≤ 255 := by omega
  have hpl : pn.length ≤ 2000 := by have := h.ti.len; omega
  have hex : ∃ (q : Nat) (cq : Int), (DD l ps ps.length)[q]? = some (W l ps p.p, cq) := by
    obtain ⟨i, c', hi, _⟩ := hD.cov _ hpw
    exact ⟨i, c', hi⟩
  obtain ⟨q, cq, hq⟩ := hex
  have hqx := hD.ix hq
  have hql : q < N.length := by rw [h.ti.tn.len]; exact (List.getElem?_eq_some_iff.1 hq).1
  have hcx := ix_cases (DD l ps ps.length) (W l ps p.p ++ [UInt8.ofNat p.b.toNat])
  have HQ := Lib.hid h.at'.oq
  have HOQ := Lib.hid (own_off h.at'.oq (Nat.le_refl _))
  have HOP := Lib.hid (own_off h.at'.op (Nat.le_refl _))
  have HB := Lib.hid h.at'.blk
  have HV := Lib.hid (push_at w (.cells #[.int .i64 p.p, .int .i64 p.b] 86) w.heap.size)
  rw [if_neg (Nat.lt_irrefl _), if_pos rfl] at HV
  have HTQ := Lib.hid h.at'.tq
  have HTP := Lib.hid h.at'.tp
  have HTN := Lib.hid h.at'.tn
  have HPQ := Lib.hid h.at'.pq'
  have HNQ := Lib.hid h.at'.nq'
  have HPN := Lib.hid h.at'.pn'
  have HN := Lib.hid h.at'.on
  have HP := Lib.hid h.at'.op
  have H := Lib.hid h
  have HQW := Lib.hid hq
  have HPW := Lib.hid hpw
  have HQX := Lib.hid hqx
  clear h hpw hqx hq hD
  rcases hcx with ⟨hc1, hc2⟩ | ⟨r, cr, hc1, hc2⟩
  · have HC1 := Lib.hid hc1
    have HC2 := Lib.hid hc2
    clear hc1 hc2
    obtain ⟨i0, hi, iz0, iz1, iz2⟩ := info_parts infoNode
    have hexu : ∃ up, N[q]? = some up := ⟨_, List.getElem?_eq_getElem hql⟩
    obtain ⟨up, hup⟩ := hexu
    obtain ⟨nb, e1, e0, e2, e3, e4, e5, e6, n0, n1, n2, n3, n4, n5⟩ := H.out.at'.node hup
    have HUP := Lib.hid hup
    have HFB := Lib.hid e6
    subst e1
    have hnt : nb ≠ t := e0
    clear hup e6
    have hwr : IntKind.u8.wrap p.b = p.b := IntWalk.u8_in p.b (by omega)
    go_enter Try.func102, Try.ntmps102
    go_wp2_with fail
    refine (nodeOf_any _ _ (H.out.alloc _) HPW.out).mono ?_
    rintro e w' ⟨rfl, x1, rfl⟩
    rw [HQX.out]
    go_wp2_with fail
    refine (child_any q p.b _ ((H.out.alloc _).plus _) HQW.out hb0 hb2).mono ?_
    rintro e w' ⟨rfl, x2, rfl⟩
    rw [HC1.out]
    go_wp2
    refine wp_region_pt 21 (fun w' => Grew (some ⟨nb, 0, none⟩) _ w') (Plan.quiet 0 (Plan.quiet 1 (Plan.quiet 2 (Plan.quiet 3 (Plan.quiet 4 (Plan.quiet 5 (Plan.quiet 6 (Plan.quiet 7 (Plan.quiet 8 (Plan.quiet 9 (Plan.quiet 10 (Plan.quiet 11 (Plan.quiet 12 (Plan.quiet 13 (Plan.quiet 14 (Plan.quiet 15 (Plan.quiet 16 (Plan.one 17 (Plan.quiet 18 (Plan.one 19 (Plan.one 20 (Plan.one 21 (Plan.one 22 (Plan.one 23 Plan.done)))))))))))))))))))))))) (by kernel_rfl) (by kernel_rfl) (grew_drew (grew_refl _ _)) ?_
    refine wpPt_val rfl rfl ?_
    apply Exists.intro
    refine ⟨fun w' hS => ?_, ?_⟩
    focus (have r1 := fun i => grew_rule_off hS (n := t) (by simp; omega) HTN.out i; have r2 := fun i => grew_rule_off hS (n := w.heap.size) (by simp; omega) (own_off HN.out (Nat.le_refl _)) i; have r3 := fun i => grew_rule_off hS (n := w.heap.size + 1 + (x1.seq x2).n) (by simp) (own_off HN.out (by omega)) i; have hne : w.heap.size ≠ t := (by omega); simp [go_sem, ↓IntWalk.iteOmega, hwr, r1, r2, r3, c0, c1, c2, c3, c4, c5, c6] <;> first | done | exact rfl | (rw [IntWalk.i64_in _ (by omega)]; exact rfl) | trace_state)
    refine wpPt_val rfl rfl ?_
    apply Exists.intro
    refine ⟨fun w' hS => ?_, ?_⟩
    focus (have r1 := fun i => grew_rule_off hS (n := t) (by simp; omega) HTN.out i; have r2 := fun i => grew_rule_off hS (n := w.heap.size) (by simp; omega) (own_off HN.out (Nat.le_refl _)) i; have r3 := fun i => grew_rule_off hS (n := w.heap.size + 1 + (x1.seq x2).n) (by simp) (own_off HN.out (by omega)) i; have hne : w.heap.size ≠ t := (by omega); simp [go_sem, ↓IntWalk.iteOmega, hwr, r1, r2, r3, c0, c1, c2, c3, c4, c5, c6] <;> first | done | exact rfl | (rw [IntWalk.i64_in _ (by omega)]; exact rfl) | trace_state)
    refine wpPt_val rfl rfl ?_
    apply Exists.intro
    refine ⟨fun w' hS => ?_, ?_⟩
    focus (have r1 := fun i => grew_rule_off hS (n := t) (by simp; omega) HTN.out i; have r2 := fun i => grew_rule_off hS (n := w.heap.size) (by simp; omega) (own_off HN.out (Nat.le_refl _)) i; have r3 := fun i => grew_rule_off hS (n := w.heap.size + 1 + (x1.seq x2).n) (by simp) (own_off HN.out (by omega)) i; have hne : w.heap.size ≠ t := (by omega); simp [go_sem, ↓IntWalk.iteOmega, hwr, r1, r2, r3, c0, c1, c2, c3, c4, c5, c6] <;> first | done | exact rfl | (rw [IntWalk.i64_in _ (by omega)]; exact rfl) | trace_state)
    refine wpPt_val rfl rfl ?_
    apply Exists.intro
    refine ⟨fun w' hS => ?_, ?_⟩
    focus (have r1 := fun i => grew_rule_off hS (n := t) (by simp; omega) HTN.out i; have r2 := fun i => grew_rule_off hS (n := w.heap.size) (by simp; omega) (own_off HN.out (Nat.le_refl _)) i; have r3 := fun i => grew_rule_off hS (n := w.heap.size + 1 + (x1.seq x2).n) (by simp) (own_off HN.out (by omega)) i; have hne : w.heap.size ≠ t := (by omega); simp [go_sem, ↓IntWalk.iteOmega, hwr, r1, r2, r3, c0, c1, c2, c3, c4, c5, c6] <;> first | done | exact rfl | (rw [IntWalk.i64_in _ (by omega)]; exact rfl) | trace_state)
    refine wpPt_val rfl rfl ?_
    apply Exists.intro
    refine ⟨fun w' hS => ?_, ?_⟩
    focus (have r1 := fun i => grew_rule_off hS (n := t) (by simp; omega) HTN.out i; have r2 := fun i => grew_rule_off hS (n := w.heap.size) (by simp; omega) (own_off HN.out (Nat.le_refl _)) i; have r3 := fun i => grew_rule_off hS (n := w.heap.size + 1 + (x1.seq x2).n) (by simp) (own_off HN.out (by omega)) i; have hne : w.heap.size ≠ t := (by omega); simp [go_sem, ↓IntWalk.iteOmega, hwr, r1, r2, r3, c0, c1, c2, c3, c4, c5, c6] <;> first | done | exact rfl | (rw [IntWalk.i64_in _ (by omega)]; exact rfl) | trace_state)
    refine wpPt_val rfl rfl ?_
    apply Exists.intro
    refine ⟨fun w' hS => ?_, ?_⟩
    focus (have r1 := fun i => grew_rule_off hS (n := t) (by simp; omega) HTN.out i; have r2 := fun i => grew_rule_off hS (n := w.heap.size) (by simp; omega) (own_off HN.out (Nat.le_refl _)) i; have r3 := fun i => grew_rule_off hS (n := w.heap.size + 1 + (x1.seq x2).n) (by simp) (own_off HN.out (by omega)) i; have hne : w.heap.size ≠ t := (by omega); simp [go_sem, ↓IntWalk.iteOmega, hwr, r1, r2, r3, c0, c1, c2, c3, c4, c5, c6] <;> first | done | exact rfl | (rw [IntWalk.i64_in _ (by omega)]; exact rfl) | trace_state)
    refine wpPt_val rfl rfl ?_
    apply Exists.intro
    refine ⟨fun w' hS => ?_, ?_⟩
    focus (have r1 := fun i => grew_rule_off hS (n := t) (by simp; omega) HTN.out i; have r2 := fun i => grew_rule_off hS (n := w.heap.size) (by simp; omega) (own_off HN.out (Nat.le_refl _)) i; have r3 := fun i => grew_rule_off hS (n := w.heap.size + 1 + (x1.seq x2).n) (by simp) (own_off HN.out (by omega)) i; have hne : w.heap.size ≠ t := (by omega); simp [go_sem, ↓IntWalk.iteOmega, hwr, r1, r2, r3, c0, c1, c2, c3, c4, c5, c6] <;> first | done | exact rfl | (rw [IntWalk.i64_in _ (by omega)]; exact rfl) | trace_state)
    refine wpPt_val rfl rfl ?_
    apply Exists.intro
    refine ⟨fun w' hS => ?_, ?_⟩
    focus (have r1 := fun i => grew_rule_off hS (n := t) (by simp; omega) HTN.out i; have r2 := fun i => grew_rule_off hS (n := w.heap.size) (by simp; omega) (own_off HN.out (Nat.le_refl _)) i; have r3 := fun i => grew_rule_off hS (n := w.heap.size + 1 + (x1.seq x2).n) (by simp) (own_off HN.out (by omega)) i; have hne : w.heap.size ≠ t := (by omega); simp [go_sem, ↓IntWalk.iteOmega, hwr, r1, r2, r3, c0, c1, c2, c3, c4, c5, c6] <;> first | done | exact rfl | (rw [IntWalk.i64_in _ (by omega)]; exact rfl) | trace_state)
    refine wpPt_val rfl rfl ?_
    apply Exists.intro
    refine ⟨fun w' hS => ?_, ?_⟩
    focus (have r1 := fun i => grew_rule_off hS (n := t) (by simp; omega) HTN.out i; have r2 := fun i => grew_rule_off hS (n := w.heap.size) (by simp; omega) (own_off HN.out (Nat.le_refl _)) i; have r3 := fun i => grew_rule_off hS (n := w.heap.size + 1 + (x1.seq x2).n) (by simp) (own_off HN.out (by omega)) i; have hne : w.heap.size ≠ t := (by omega); simp [go_sem, ↓IntWalk.iteOmega, hwr, r1, r2, r3, c0, c1, c2, c3, c4, c5, c6] <;> first | done | exact rfl | (rw [IntWalk.i64_in _ (by omega)]; exact rfl) | trace_state)
    refine wpPt_val rfl rfl ?_
    apply Exists.intro
    refine ⟨fun w' hS => ?_, ?_⟩
    focus (have r1 := fun i => grew_rule_off hS (n := t) (by simp; omega) HTN.out i; have r2 := fun i => grew_rule_off hS (n := w.heap.size) (by simp; omega) (own_off HN.out (Nat.le_refl _)) i; have r3 := fun i => grew_rule_off hS (n := w.heap.size + 1 + (x1.seq x2).n) (by simp) (own_off HN.out (by omega)) i; have hne : w.heap.size ≠ t := (by omega); simp [go_sem, ↓IntWalk.iteOmega, hwr, r1, r2, r3, c0, c1, c2, c3, c4, c5, c6] <;> first | done | exact rfl | (rw [IntWalk.i64_in _ (by omega)]; exact rfl) | trace_state)
    refine wpPt_val rfl rfl ?_
    apply Exists.intro
    refine ⟨fun w' hS => ?_, ?_⟩
    focus (have r1 := fun i => grew_rule_off hS (n := t) (by simp; omega) HTN.out i; have r2 := fun i => grew_rule_off hS (n := w.heap.size) (by simp; omega) (own_off HN.out (Nat.le_refl _)) i; have r3 := fun i => grew_rule_off hS (n := w.heap.size + 1 + (x1.seq x2).n) (by simp) (own_off HN.out (by omega)) i; have hne : w.heap.size ≠ t := (by omega); simp [go_sem, ↓IntWalk.iteOmega, hwr, r1, r2, r3, c0, c1, c2, c3, c4, c5, c6] <;> first | done | exact rfl | (rw [IntWalk.i64_in _ (by omega)]; exact rfl) | trace_state)
    refine wpPt_val rfl rfl ?_
    apply Exists.intro
    refine ⟨fun w' hS => ?_, ?_⟩
    focus (have r1 := fun i => grew_rule_off hS (n := t) (by simp; omega) HTN.out i; have r2 := fun i => grew_rule_off hS (n := w.heap.size) (by simp; omega) (own_off HN.out (Nat.le_refl _)) i; have r3 := fun i => grew_rule_off hS (n := w.heap.size + 1 + (x1.seq x2).n) (by simp) (own_off HN.out (by omega)) i; have hne : w.heap.size ≠ t := (by omega); simp [go_sem, ↓IntWalk.iteOmega, hwr, r1, r2, r3, c0, c1, c2, c3, c4, c5, c6] <;> first | done | exact rfl | (rw [IntWalk.i64_in _ (by omega)]; exact rfl) | trace_state)
    refine wpPt_val rfl rfl ?_
    apply Exists.intro
    refine ⟨fun w' hS => ?_, ?_⟩
    focus (have r1 := fun i => grew_rule_off hS (n := t) (by simp; omega) HTN.out i; have r2 := fun i => grew_rule_off hS (n := w.heap.size) (by simp; omega) (own_off HN.out (Nat.le_refl _)) i; have r3 := fun i => grew_rule_off hS (n := w.heap.size + 1 + (x1.seq x2).n) (by simp) (own_off HN.out (by omega)) i; have hne : w.heap.size ≠ t := (by omega); simp [go_sem, ↓IntWalk.iteOmega, hwr, r1, r2, r3, c0, c1, c2, c3, c4, c5, c6] <;> first | done | exact rfl | (rw [IntWalk.i64_in _ (by omega)]; exact rfl) | trace_state)
    refine wpPt_val rfl rfl ?_
    apply Exists.intro
    refine ⟨fun w' hS => ?_, ?_⟩
    focus (have r1 := fun i => grew_rule_off hS (n := t) (by simp; omega) HTN.out i; have r2 := fun i => grew_rule_off hS (n := w.heap.size) (by simp; omega) (own_off HN.out (Nat.le_refl _)) i; have r3 := fun i => grew_rule_off hS (n := w.heap.size + 1 + (x1.seq x2).n) (by simp) (own_off HN.out (by omega)) i; have hne : w.heap.size ≠ t := (by omega); simp [go_sem, ↓IntWalk.iteOmega, hwr, r1, r2, r3, c0, c1, c2, c3, c4, c5, c6] <;> first | done | exact rfl | (rw [IntWalk.i64_in _ (by omega)]; exact rfl) | trace_state)
    refine wpPt_val rfl rfl ?_
    apply Exists.intro
    refine ⟨fun w' hS => ?_, ?_⟩
    focus (have r1 := fun i => grew_rule_off hS (n := t) (by simp; omega) HTN.out i; have r2 := fun i => grew_rule_off hS (n := w.heap.size) (by simp; omega) (own_off HN.out (Nat.le_refl _)) i; have r3 := fun i => grew_rule_off hS (n := w.heap.size + 1 + (x1.seq x2).n) (by simp) (own_off HN.out (by omega)) i; have hne : w.heap.size ≠ t := (by omega); simp [go_sem, ↓IntWalk.iteOmega, hwr, r1, r2, r3, c0, c1, c2, c3, c4, c5, c6] <;> first | done | exact rfl | (rw [IntWalk.i64_in _ (by omega)]; exact rfl) | trace_state)
    refine wpPt_val rfl rfl ?_
    apply Exists.intro
    refine ⟨fun w' hS => ?_, ?_⟩
    focus (have r1 := fun i => grew_rule_off hS (n := t) (by simp; omega) HTN.out i; have r2 := fun i => grew_rule_off hS (n := w.heap.size) (by simp; omega) (own_off HN.out (Nat.le_refl _)) i; have r3 := fun i => grew_rule_off hS (n := w.heap.size + 1 + (x1.seq x2).n) (by simp) (own_off HN.out (by omega)) i; have hne : w.heap.size ≠ t := (by omega); simp [go_sem, ↓IntWalk.iteOmega, hwr, r1, r2, r3, c0, c1, c2, c3, c4, c5, c6] <;> first | done | exact rfl | (rw [IntWalk.i64_in _ (by omega)]; exact rfl) | trace_state)
    refine wpPt_val rfl rfl ?_
    apply Exists.intro
    refine ⟨fun w' hS => ?_, ?_⟩
    focus (have r1 := fun i => grew_rule_off hS (n := t) (by simp; omega) HTN.out i; have r2 := fun i => grew_rule_off hS (n := w.heap.size) (by simp; omega) (own_off HN.out (Nat.le_refl _)) i; have r3 := fun i => grew_rule_off hS (n := w.heap.size + 1 + (x1.seq x2).n) (by simp) (own_off HN.out (by omega)) i; have hne : w.heap.size ≠ t := (by omega); simp [go_sem, ↓IntWalk.iteOmega, hwr, r1, r2, r3, c0, c1, c2, c3, c4, c5, c6] <;> first | done | exact rfl | (rw [IntWalk.i64_in _ (by omega)]; exact rfl) | trace_state)
    refine wpPt_one rfl rfl (fun K hK => ?_)
    go_simp
    refine (nextWord_any _ _ _ _ _ _ _ _ _ hs (by omega)).mono ?_
    rintro e w' ⟨rfl, x3, rfl⟩
    refine hK _ _ (fun hkn => (by repeat (first | assumption | exact grew_refl _ _ | apply grew_alloc | apply grew_drew | apply grew_plus))) ?_
    clear hK K
    refine wpPt_val rfl rfl ?_
    apply Exists.intro
    refine ⟨fun w' hS => ?_, ?_⟩
    focus (have r1 := fun i => grew_rule_off hS (n := t) (by simp; omega) HTN.out i; have r2 := fun i => grew_rule_off hS (n := w.heap.size) (by simp; omega) (own_off HN.out (Nat.le_refl _)) i; have r3 := fun i => grew_rule_off hS (n := w.heap.size + 1 + (x1.seq x2).n) (by simp) (own_off HN.out (by omega)) i; have hne : w.heap.size ≠ t := (by omega); simp [go_sem, ↓IntWalk.iteOmega, hwr, r1, r2, r3, c0, c1, c2, c3, c4, c5, c6] <;> first | done | exact rfl | (rw [IntWalk.i64_in _ (by omega)]; exact rfl) | trace_state)
    refine wpPt_one rfl rfl (fun K hK => ?_)
    go_simp
    refine hK _ _ (fun hkn => (by repeat (first | assumption | exact grew_refl _ _ | apply grew_alloc | apply grew_drew | apply grew_plus))) ?_
    clear hK K
    refine wpPt_one rfl rfl (fun K hK => ?_)
    refine oper_append_at encN _ _ _ _ i0 _ 40 rfl Try.underlying112 hi iz0 iz1 iz2 rfl (by decide) N (some ⟨nb, 0, none⟩) nc 0 (by repeat (first | (with_reducible exact HN.out) | (with_reducible apply Own.plus) | (with_reducible apply Own.alloc) | (with_reducible apply Own.drew))) rfl [Nd.mk q (-1) up.child p.b up.first (nw l ps.length)] _ 0 1 (new_cells encN (Nd.mk q (-1) up.child p.b up.first (nw l ps.length)) _ _ (by first | omega | rfl | (simp <;> omega) | (simp only [List.length_cons, List.length_nil, plus_size, World.size_alloc]; omega))) rfl (by first | omega | rfl | (simp <;> omega) | (simp only [List.length_cons, List.length_nil, plus_size, World.size_alloc]; omega)) (by first | omega | rfl | (simp <;> omega) | (simp only [List.length_cons, List.length_nil, plus_size, World.size_alloc]; omega)) (by first | omega | rfl | (simp <;> omega) | (simp only [List.length_cons, List.length_nil, plus_size, World.size_alloc]; omega)) ?_
    intro na4 nc4 w4 hn4 hg4 hx4
    have HN4 := Lib.hid hn4
    have HG4 := Lib.hid hg4
    have HX4 := Lib.hid hx4
    have hz4 := hg4.size
    simp at hz4
    have HB4 := Lib.hid (blk_grew hg4 (by repeat (first | (with_reducible exact HB.out) | (with_reducible apply blk_seq) | (with_reducible apply blk_plus) | (with_reducible apply blk_alloc) | (with_reducible apply blk_drew) | (with_reducible refine blk_patch ?_ (by omega)) | exact HB.out)) HTN.out)
    have s4 := fun v => setCell_patch HB4.out 6 v
    have f4 := free_of HB4.out
    have r4 := cell_of HB4.out
    clear hn4 hx4
    refine hK _ _ (fun hkn => by refine grew_trans ?_ hg4; (repeat (first | assumption | exact grew_refl _ _ | apply grew_alloc | apply grew_drew | apply grew_plus))) ?_
    clear hK K
    refine wpPt_one rfl rfl (fun K hK => ?_)
    go_simp
    refine hK _ _ (fun hkn => absurd hkn (by decide)) ?_
    clear hK K
    refine wpPt_one rfl rfl (fun K hK => ?_)
    go_simp
    refine hK _ _ (fun hkn => absurd hkn (by decide)) ?_
    clear hK K
    refine wpPt_one rfl rfl (fun K hK => ?_)
    go_simp
    refine hK _ _ (fun hkn => absurd hkn (by decide)) ?_
    clear hK K
    refine NoPanic.normal ?_
    obtain ⟨nb4, curN, rfl, _, g1, g2, g3, g4, g5, g6⟩ := own_some HN4.out (by simp)
    have hnt4 : nb4 ≠ t := HX4.out.off HTN.out (by simp; omega) _ rfl
    have HG2 := Lib.hid g2
    have HG3 := Lib.hid g3
    have HG4r := Lib.hid g4
    have hupc : curN[q * 6 + 1]? = some (.int .i64 up.child) := by
      have := g4 (q * 6 + 1) (.int .i64 up.child) (flat_get encN _ q up (by rw [List.getElem?_append_left hql]; exact HUP.out) 1 (by decide))
      exact this
    have rN := cell_of HG2.out
    have fN := free_of HG2.out
    have sN := fun v => setCell_patch HG2.out (q * 6 + 1) v
    have ht4 : t < w4.heap.size := by omega
    clear g2 g3 g4
    simp only [List.length_append, List.length_cons, List.length_nil] at g5
    have HTI := Lib.hid (H.out.ti.new (p := p) HOK.out H.out.di t2 (q := (q : Int)) (cq := cq) (up := up) (by omega) (by simpa using HUP.out) (by simpa using HQW.out) HC2.out)
    have HB0 := Lib.hid (patch_at (patch w4 nb4 (.cells (curN.setIfInBounds (q * 6 + 1) (.int .i64 (N.length : Int))) 117)) t (.cells #[.int .i64 o, .int .i64 l, .int .i64 m, .slice pa ps.length pc, .int .i64 base, .int .i64 last, .slice (some ⟨nb4, 0, none⟩) (N.length + 1) nc4, .slice qa pn.length qc] 115) (by simp; omega))
    have HV0 := Lib.hid (blk_patch (b := t) (o' := (.cells #[.int .i64 o, .int .i64 l, .int .i64 m, .slice pa ps.length pc, .int .i64 base, .int .i64 last, .slice (some ⟨nb4, 0, none⟩) (N.length + 1) nc4, .slice qa pn.length qc] 115)) (blk_patch (b := nb4) (o' := (.cells (curN.setIfInBounds (q * 6 + 1) (.int .i64 (N.length : Int))) 117)) (blk_grew HG4.out (by repeat (first | (with_reducible exact HV.out) | (with_reducible apply blk_seq) | (with_reducible apply blk_plus) | (with_reducible apply blk_alloc) | (with_reducible apply blk_drew) | (with_reducible refine blk_patch ?_ (by omega)) | exact HV.out)) (own_off HN.out (Nat.le_refl _))) (HX4.out.off (own_off HN.out (Nat.le_refl _)) (by simp; omega) _ rfl).symm) (by omega))
    have hrow := row_set HG4r.out (i := q) (x := up) (y := { up with child := (N.length : Int) }) (j := 1) (v := .int .i64 (N.length : Int)) (by rw [List.getElem?_append_left hql]; exact HUP.out) (by decide) rfl
    have HN0 := Lib.hid (own_patch (b := t) (ob := (.cells #[.int .i64 o, .int .i64 l, .int .i64 m, .slice pa ps.length pc, .int .i64 base, .int .i64 last, .slice (some ⟨nb4, 0, none⟩) (N.length + 1) nc4, .slice qa pn.length qc] 115)) (show Own encN 117 (patch w4 nb4 (.cells (curN.setIfInBounds (q * 6 + 1) (.int .i64 (N.length : Int))) 117)) (some ⟨nb4, 0, none⟩) nc4 (pushN N q p.b (nw l ps.length) up) 0 from .inr ⟨nb4, _, rfl, Nat.zero_le _, patch_at _ _ _ g1, by rw [Array.size_setIfInBounds]; exact HG3.out, hrow, by simp [pushN]; omega, g6⟩) (HX4.out.off HTN.out (by simp; omega)))
    clear hrow
    have qn4 := nxt_off HX4.out HNQ.out (fun Y hY => by have := (own_lt HQ.out Y hY).2; simp; omega)
    have pn4 := off_comm (nxt_off HX4.out (off_comm HPN.out) (fun Y hY => by have := (own_lt HP.out Y hY).2; simp; omega))
    have HQ0 := Lib.hid (own_patch (b := t) (ob := (.cells #[.int .i64 o, .int .i64 l, .int .i64 m, .slice pa ps.length pc, .int .i64 base, .int .i64 last, .slice (some ⟨nb4, 0, none⟩) (N.length + 1) nc4, .slice qa pn.length qc] 115)) (own_patch (b := nb4) (ob := (.cells (curN.setIfInBounds (q * 6 + 1) (.int .i64 (N.length : Int))) 117)) (own_grew (w := _) (by repeat (first | (with_reducible exact HQ.out) | (with_reducible apply Own.plus) | (with_reducible apply Own.alloc) | (with_reducible apply Own.drew))) HG4.out (off_comm HNQ.out)) (qn4 _ rfl)) HTQ.out)
    have HP0 := Lib.hid (own_patch (b := t) (ob := (.cells #[.int .i64 o, .int .i64 l, .int .i64 m, .slice pa ps.length pc, .int .i64 base, .int .i64 last, .slice (some ⟨nb4, 0, none⟩) (N.length + 1) nc4, .slice qa pn.length qc] 115)) (own_patch (b := nb4) (ob := (.cells (curN.setIfInBounds (q * 6 + 1) (.int .i64 (N.length : Int))) 117)) (own_grew (w := _) (by repeat (first | (with_reducible exact HP.out) | (with_reducible apply Own.plus) | (with_reducible apply Own.alloc) | (with_reducible apply Own.drew))) HG4.out HPN.out) (fun A hA e => pn4 A hA _ rfl e.symm)) HTP.out)
    have HTW := Lib.hid (turned_patch (turned_grew (turned_grew (show Turned t pa (some ⟨nb, 0, none⟩) qa w _ from (by repeat (first | exact turned_refl _ _ _ _ _ | (with_reducible apply turned_plus) | (with_reducible apply turned_alloc) | (with_reducible apply turned_drew)))) HG4.out (fun X hX => .inr (.inl ⟨X, hX, rfl⟩))) (grew_patch w4 nb4 (.cells (curN.setIfInBounds (q * 6 + 1) (.int .i64 (N.length : Int))) 117)) (fun X hX => by cases hX; rcases HX4.out _ rfl with ⟨Y, hY, he⟩ | he; exact .inr (.inl ⟨Y, hY, he⟩); exact .inr (.inr (.inr (by simp at he ⊢; omega))))) (.cells #[.int .i64 o, .int .i64 l, .int .i64 m, .slice pa ps.length pc, .int .i64 base, .int .i64 last, .slice (some ⟨nb4, 0, none⟩) (N.length + 1) nc4, .slice qa pn.length qc] 115))
    have HWN := Lib.hid (HX4.out.within (m := w.heap.size) (by simp; omega))
    have HTN0 := Lib.hid (HX4.out.off HTN.out (k := t) (by simp; omega))
    have HNQ0 := Lib.hid qn4
    have HPN0 := Lib.hid pn4
    clear HB HV HN HQ HP HTN HNQ HPN qn4 pn4
    have HB := HB0
    have HV := HV0
    have HN := HN0
    have HQ := HQ0
    have HP := HP0
    have HTN := HTN0
    have HNQ := HNQ0
    have HPN := HPN0
    clear HB0 HV0 HN0 HQ0 HP0 HTN0 HNQ0 HPN0
    obtain ⟨j0, hj, jz0, jz1, jz2⟩ := info_parts infoInt
    obtain ⟨k0, hk, kz0, kz1, kz2⟩ := info_parts infoPair
    go_wp2_with (at_builtin; refine wpList_append_at encI _ _ _ _ j0 _ 8 rfl rfl Try.underlying113 hj jz0 jz1 jz2 rfl (by decide) pn qa qc 0 (by repeat (first | (with_reducible exact HQ.out) | (with_reducible apply Own.plus) | (with_reducible apply Own.alloc) | (with_reducible apply Own.drew))) rfl [(N.length : Int)] _ 0 1 (new_cells encI (N.length : Int) _ _ (by first | omega | rfl | (simp <;> omega) | (simp only [List.length_cons, List.length_nil, plus_size, World.size_alloc]; omega))) rfl (by first | omega | rfl | (simp <;> omega) | (simp only [List.length_cons, List.length_nil, plus_size, World.size_alloc]; omega)) (by first | omega | rfl | (simp <;> omega) | (simp only [List.length_cons, List.length_nil, plus_size, World.size_alloc]; omega)) (by first | omega | rfl | (simp <;> omega) | (simp only [List.length_cons, List.length_nil, plus_size, World.size_alloc]; omega)) ?_; intro qa' qc' w5 hq5 hg5 hx5; have HQ5 := Lib.hid hq5; have HG5 := Lib.hid hg5; have HX5 := Lib.hid hx5; have hz5 := hg5.size; simp at hz5; have HB5 := Lib.hid (blk_grew hg5 (by repeat (first | (with_reducible exact HB.out) | (with_reducible apply blk_seq) | (with_reducible apply blk_plus) | (with_reducible apply blk_alloc) | (with_reducible apply blk_drew) | (with_reducible refine blk_patch ?_ (by omega)) | exact HB.out)) HTQ.out); have HV5 := Lib.hid (blk_grew hg5 (by repeat (first | (with_reducible exact HV.out) | (with_reducible apply blk_seq) | (with_reducible apply blk_plus) | (with_reducible apply blk_alloc) | (with_reducible apply blk_drew) | (with_reducible refine blk_patch ?_ (by omega)) | exact HV.out)) HOQ.out); have HP5 := Lib.hid (own_grew (w := _) (by repeat (first | (with_reducible exact HP.out) | (with_reducible apply Own.plus) | (with_reducible apply Own.alloc) | (with_reducible apply Own.drew))) hg5 HPQ.out); have HN5 := Lib.hid (own_grew (w := _) (by repeat (first | (with_reducible exact HN.out) | (with_reducible apply Own.plus) | (with_reducible apply Own.alloc) | (with_reducible apply Own.drew))) hg5 HNQ.out); have r5 := cell_of HB5.out; have f5 := free_of HB5.out; have s5 := fun v => setCell_patch HB5.out 7 v; clear hq5 hg5 hx5)
    have hv5 := cell_of HV5.out
    have ht5 : t < w5.heap.size := by omega
    refine wp_region_pt 9 (fun w' => Grew pa _ w') (Plan.quiet 0 (Plan.quiet 1 (Plan.quiet 2 (Plan.quiet 3 (Plan.quiet 4 (Plan.quiet 5 (Plan.quiet 6 (Plan.one 7 (Plan.one 8 (Plan.one 9 (Plan.one 10 (Plan.one 11 (Plan.one 12 Plan.done))))))))))))) (by kernel_rfl) (by kernel_rfl) (grew_drew (grew_refl _ _)) ?_
    refine wpPt_val rfl rfl ?_
    apply Exists.intro
    refine ⟨fun w' hS => ?_, ?_⟩
    focus (have r1 := fun i => grew_rule_off hS (n := t) (by simp; omega) HTP.out i; have r2 := fun i => grew_rule_off hS (n := w.heap.size) (by simp; omega) HOP.out i; have hne : w.heap.size ≠ t := (by omega); simp [go_sem, ↓IntWalk.iteOmega, r1, r2, hv5] <;> first | done | exact rfl | (rw [IntWalk.i64_in _ (by omega)]; exact rfl) | trace_state)
    refine wpPt_val rfl rfl ?_
    apply Exists.intro
    refine ⟨fun w' hS => ?_, ?_⟩
    focus (have r1 := fun i => grew_rule_off hS (n := t) (by simp; omega) HTP.out i; have r2 := fun i => grew_rule_off hS (n := w.heap.size) (by simp; omega) HOP.out i; have hne : w.heap.size ≠ t := (by omega); simp [go_sem, ↓IntWalk.iteOmega, r1, r2, hv5] <;> first | done | exact rfl | (rw [IntWalk.i64_in _ (by omega)]; exact rfl) | trace_state)
    refine wpPt_val rfl rfl ?_
    apply Exists.intro
    refine ⟨fun w' hS => ?_, ?_⟩
    focus (have r1 := fun i => grew_rule_off hS (n := t) (by simp; omega) HTP.out i; have r2 := fun i => grew_rule_off hS (n := w.heap.size) (by simp; omega) HOP.out i; have hne : w.heap.size ≠ t := (by omega); simp [go_sem, ↓IntWalk.iteOmega, r1, r2, hv5] <;> first | done | exact rfl | (rw [IntWalk.i64_in _ (by omega)]; exact rfl) | trace_state)
    refine wpPt_val rfl rfl ?_
    apply Exists.intro
    refine ⟨fun w' hS => ?_, ?_⟩
    focus (have r1 := fun i => grew_rule_off hS (n := t) (by simp; omega) HTP.out i; have r2 := fun i => grew_rule_off hS (n := w.heap.size) (by simp; omega) HOP.out i; have hne : w.heap.size ≠ t := (by omega); simp [go_sem, ↓IntWalk.iteOmega, r1, r2, hv5] <;> first | done | exact rfl | (rw [IntWalk.i64_in _ (by omega)]; exact rfl) | trace_state)
    refine wpPt_val rfl rfl ?_
    apply Exists.intro
    refine ⟨fun w' hS => ?_, ?_⟩
    focus (have r1 := fun i => grew_rule_off hS (n := t) (by simp; omega) HTP.out i; have r2 := fun i => grew_rule_off hS (n := w.heap.size) (by simp; omega) HOP.out i; have hne : w.heap.size ≠ t := (by omega); simp [go_sem, ↓IntWalk.iteOmega, r1, r2, hv5] <;> first | done | exact rfl | (rw [IntWalk.i64_in _ (by omega)]; exact rfl) | trace_state)
    refine wpPt_val rfl rfl ?_
    apply Exists.intro
    refine ⟨fun w' hS => ?_, ?_⟩
    focus (have r1 := fun i => grew_rule_off hS (n := t) (by simp; omega) HTP.out i; have r2 := fun i => grew_rule_off hS (n := w.heap.size) (by simp; omega) HOP.out i; have hne : w.heap.size ≠ t := (by omega); simp [go_sem, ↓IntWalk.iteOmega, r1, r2, hv5] <;> first | done | exact rfl | (rw [IntWalk.i64_in _ (by omega)]; exact rfl) | trace_state)
    refine wpPt_val rfl rfl ?_
    apply Exists.intro
    refine ⟨fun w' hS => ?_, ?_⟩
    focus (have r1 := fun i => grew_rule_off hS (n := t) (by simp; omega) HTP.out i; have r2 := fun i => grew_rule_off hS (n := w.heap.size) (by simp; omega) HOP.out i; have hne : w.heap.size ≠ t := (by omega); simp [go_sem, ↓IntWalk.iteOmega, r1, r2, hv5] <;> first | done | exact rfl | (rw [IntWalk.i64_in _ (by omega)]; exact rfl) | trace_state)
    refine wpPt_one rfl rfl (fun K hK => ?_)
    go_simp
    refine hK _ _ (fun hkn => (by repeat (first | assumption | exact grew_refl _ _ | apply grew_alloc | apply grew_drew))) ?_
    clear hK K
    refine wpPt_one rfl rfl (fun K hK => ?_)
    refine oper_append_at encP _ _ _ _ k0 _ 16 rfl Try.underlying29 hk kz0 kz1 kz2 rfl (by decide) ps pa pc 0 (by repeat (first | (with_reducible exact HP5.out) | (with_reducible apply Own.plus) | (with_reducible apply Own.alloc) | (with_reducible apply Own.drew) | (with_reducible refine own_patch ?_ HTP.out))) rfl [p] _ 0 1 (new_cells encP p _ _ (by first | omega | rfl | (simp <;> omega) | (simp only [List.length_cons, List.length_nil, plus_size, World.size_alloc]; omega))) rfl (by first | omega | rfl | (simp <;> omega) | (simp only [List.length_cons, List.length_nil, plus_size, World.size_alloc]; omega)) (by first | omega | rfl | (simp <;> omega) | (simp only [List.length_cons, List.length_nil, plus_size, World.size_alloc]; omega)) (by first | omega | rfl | (simp <;> omega) | (simp only [List.length_cons, List.length_nil, plus_size, World.size_alloc]; omega)) ?_
    intro pa' pc' w6 hp6 hg6 hx6
    have HP6 := Lib.hid hp6
    have HG6 := Lib.hid hg6
    have HX6 := Lib.hid hx6
    have hz6 := hg6.size
    simp at hz6
    have HB6 := Lib.hid (blk_grew hg6 (blk_alloc (blk_drew (patch_at w5 t _ ht5)) _) HTP.out)
    have s6 := fun v => setCell_patch HB6.out 3 v
    have f6 := free_of HB6.out
    have r6 := cell_of HB6.out
    clear hp6 hx6
    refine hK _ _ (fun hkn => by refine grew_trans ?_ hg6; exact grew_alloc (grew_drew (grew_refl _ _)) _) ?_
    clear hK K
    refine wpPt_one rfl rfl (fun K hK => ?_)
    go_simp
    refine hK _ _ (fun hkn => absurd hkn (by decide)) ?_
    clear hK K
    refine wpPt_one rfl rfl (fun K hK => ?_)
    go_simp
    refine hK _ _ (fun hkn => absurd hkn (by decide)) ?_
    clear hK K
    refine wpPt_one rfl rfl (fun K hK => ?_)
    go_simp
    refine hK _ _ (fun hkn => absurd hkn (by decide)) ?_
    clear hK K
    refine wpPt_one rfl rfl (fun K hK => ?_)
    go_simp
    refine hK _ _ (fun hkn => absurd hkn (by decide)) ?_
    clear hK K
    refine NoPanic.normal ?_
    have tp' := HX6.out.off HTP.out (k := t) (by simp; omega)
    have tq' := HX5.out.off HTQ.out (k := t) (by simp; omega)
    have qp' := nxt_off HX5.out (off_comm HPQ.out) (fun Y hY => by have := (own_lt HP.out Y hY).2; (try simp at this); simp; omega)
    have qn' := nxt_off HX5.out (off_comm HNQ.out) (fun Y hY => by have := (own_lt HN.out Y hY).2; (try simp at this); simp; omega)
    have on6 := own_grew (own_alloc_drew (own_patch (b := t) (ob := _) HN5.out HTN.out) _) HG6.out (off_comm HPN.out)
    have oq6 := own_grew (own_alloc_drew (own_patch (b := t) (ob := _) HQ5.out tq') _) HG6.out qp'
    refine bodyPost_end (v := .tuple #[]) (by simp [results, Try.results102, go_sem]) rfl ⟨rfl, pa', pc', _, _, qa', qc', _, _, ⟨hs, HOK.out, by simp; omega, ⟨by rw [show (ps ++ [p]).length = ps.length + 1 by simp, show (pn ++ [(N.length : Int)]).length = pn.length + 1 by simp]; first | exact patch_at _ _ _ (by omega) | (rw [show (pushN N q p.b (nw l ps.length) up).length = N.length + 1 by simp [pushN]]; exact patch_at _ _ _ (by omega)), own_patch HP6.out tp', own_patch on6 HTN.out, own_patch oq6 tq', tp', HTN.out, tq', nxt_off HX6.out HPN.out (fun Y hY => by have := (own_lt HN.out Y hY).2; (try simp at this); simp; omega), nxt_off HX6.out (off_comm qp') (fun Y hY => by have := (own_lt HQ5.out Y hY).2; (try simp at this); simp; omega), off_comm qn'⟩, HTI.out⟩, ?_, HX6.out.within (by simp; omega), HWN.out, HX5.out.within (by simp; omega)⟩
    refine turned_patch (turned_grew (turned_alloc (turned_drew (turned_patch (turned_grew ?_ HG5.out (fun X hX => .inr (.inr (.inl ⟨X, hX, rfl⟩)))) _)) _) HG6.out (fun X hX => .inl ⟨X, hX, rfl⟩)) _
    exact (by repeat (first | (with_reducible exact HTW.out) | (with_reducible apply turned_plus) | (with_reducible apply turned_alloc) | (with_reducible apply turned_drew)))
  · have HC1 := Lib.hid hc1
    have HC2 := Lib.hid hc2
    clear hc1 hc2
    go_enter Try.func102, Try.ntmps102
    go_wp2_with fail
    refine (nodeOf_any _ _ (H.out.alloc _) HPW.out).mono ?_
    rintro e w' ⟨rfl, x1, rfl⟩
    rw [HQX.out]
    go_wp2_with fail
    refine (child_any q p.b _ ((H.out.alloc _).plus _) HQW.out hb0 hb2).mono ?_
    rintro e w' ⟨rfl, x2, rfl⟩
    rw [HC1.out]
    have v0 : decide ((r : Int) < 0) = false := by simp
    have hrl := (List.getElem?_eq_some_iff.1 HC2.out).1
    rw [← H.out.ti.tn.len] at hrl
    have hr0 : (r : Int) ≤ 3000 := by omega
    have HTI := Lib.hid (H.out.ti.old (p := p) HOK.out (r := (r : Int)) (c := cr) (by omega) (by simpa using HC2.out))
    have HTW := Lib.hid (turned_refl t pa na qa w)
    have HWN := Lib.hid (within_refl na w.heap.size)
    obtain ⟨j0, hj, jz0, jz1, jz2⟩ := info_parts infoInt
    obtain ⟨k0, hk, kz0, kz1, kz2⟩ := info_parts infoPair
    go_wp2_with (at_builtin; refine wpList_append_at encI _ _ _ _ j0 _ 8 rfl rfl Try.underlying113 hj jz0 jz1 jz2 rfl (by decide) pn qa qc 0 (by repeat (first | (with_reducible exact HQ.out) | (with_reducible apply Own.plus) | (with_reducible apply Own.alloc) | (with_reducible apply Own.drew))) rfl [(r : Int)] _ 0 1 (new_cells encI (r : Int) _ _ (by first | omega | rfl | (simp <;> omega) | (simp only [List.length_cons, List.length_nil, plus_size, World.size_alloc]; omega))) rfl (by first | omega | rfl | (simp <;> omega) | (simp only [List.length_cons, List.length_nil, plus_size, World.size_alloc]; omega)) (by first | omega | rfl | (simp <;> omega) | (simp only [List.length_cons, List.length_nil, plus_size, World.size_alloc]; omega)) (by first | omega | rfl | (simp <;> omega) | (simp only [List.length_cons, List.length_nil, plus_size, World.size_alloc]; omega)) ?_; intro qa' qc' w5 hq5 hg5 hx5; have HQ5 := Lib.hid hq5; have HG5 := Lib.hid hg5; have HX5 := Lib.hid hx5; have hz5 := hg5.size; simp at hz5; have HB5 := Lib.hid (blk_grew hg5 (by repeat (first | (with_reducible exact HB.out) | (with_reducible apply blk_seq) | (with_reducible apply blk_plus) | (with_reducible apply blk_alloc) | (with_reducible apply blk_drew) | (with_reducible refine blk_patch ?_ (by omega)) | exact HB.out)) HTQ.out); have HV5 := Lib.hid (blk_grew hg5 (by repeat (first | (with_reducible exact HV.out) | (with_reducible apply blk_seq) | (with_reducible apply blk_plus) | (with_reducible apply blk_alloc) | (with_reducible apply blk_drew) | (with_reducible refine blk_patch ?_ (by omega)) | exact HV.out)) HOQ.out); have HP5 := Lib.hid (own_grew (w := _) (by repeat (first | (with_reducible exact HP.out) | (with_reducible apply Own.plus) | (with_reducible apply Own.alloc) | (with_reducible apply Own.drew))) hg5 HPQ.out); have HN5 := Lib.hid (own_grew (w := _) (by repeat (first | (with_reducible exact HN.out) | (with_reducible apply Own.plus) | (with_reducible apply Own.alloc) | (with_reducible apply Own.drew))) hg5 HNQ.out); have r5 := cell_of HB5.out; have f5 := free_of HB5.out; have s5 := fun v => setCell_patch HB5.out 7 v; clear hq5 hg5 hx5)
    have hv5 := cell_of HV5.out
    have ht5 : t < w5.heap.size := by omega
    refine wp_region_pt 9 (fun w' => Grew pa _ w') (Plan.quiet 0 (Plan.quiet 1 (Plan.quiet 2 (Plan.quiet 3 (Plan.quiet 4 (Plan.quiet 5 (Plan.quiet 6 (Plan.one 7 (Plan.one 8 (Plan.one 9 (Plan.one 10 (Plan.one 11 (Plan.one 12 Plan.done))))))))))))) (by kernel_rfl) (by kernel_rfl) (grew_drew (grew_refl _ _)) ?_
    refine wpPt_val rfl rfl ?_
    apply Exists.intro
    refine ⟨fun w' hS => ?_, ?_⟩
    focus (have r1 := fun i => grew_rule_off hS (n := t) (by simp; omega) HTP.out i; have r2 := fun i => grew_rule_off hS (n := w.heap.size) (by simp; omega) HOP.out i; have hne : w.heap.size ≠ t := (by omega); simp [go_sem, ↓IntWalk.iteOmega, r1, r2, hv5] <;> first | done | exact rfl | (rw [IntWalk.i64_in _ (by omega)]; exact rfl) | trace_state)
    refine wpPt_val rfl rfl ?_
    apply Exists.intro
    refine ⟨fun w' hS => ?_, ?_⟩
    focus (have r1 := fun i => grew_rule_off hS (n := t) (by simp; omega) HTP.out i; have r2 := fun i => grew_rule_off hS (n := w.heap.size) (by simp; omega) HOP.out i; have hne : w.heap.size ≠ t := (by omega); simp [go_sem, ↓IntWalk.iteOmega, r1, r2, hv5] <;> first | done | exact rfl | (rw [IntWalk.i64_in _ (by omega)]; exact rfl) | trace_state)
    refine wpPt_val rfl rfl ?_
    apply Exists.intro
    refine ⟨fun w' hS => ?_, ?_⟩
    focus (have r1 := fun i => grew_rule_off hS (n := t) (by simp; omega) HTP.out i; have r2 := fun i => grew_rule_off hS (n := w.heap.size) (by simp; omega) HOP.out i; have hne : w.heap.size ≠ t := (by omega); simp [go_sem, ↓IntWalk.iteOmega, r1, r2, hv5] <;> first | done | exact rfl | (rw [IntWalk.i64_in _ (by omega)]; exact rfl) | trace_state)
    refine wpPt_val rfl rfl ?_
    apply Exists.intro
    refine ⟨fun w' hS => ?_, ?_⟩
    focus (have r1 := fun i => grew_rule_off hS (n := t) (by simp; omega) HTP.out i; have r2 := fun i => grew_rule_off hS (n := w.heap.size) (by simp; omega) HOP.out i; have hne : w.heap.size ≠ t := (by omega); simp [go_sem, ↓IntWalk.iteOmega, r1, r2, hv5] <;> first | done | exact rfl | (rw [IntWalk.i64_in _ (by omega)]; exact rfl) | trace_state)
    refine wpPt_val rfl rfl ?_
    apply Exists.intro
    refine ⟨fun w' hS => ?_, ?_⟩
    focus (have r1 := fun i => grew_rule_off hS (n := t) (by simp; omega) HTP.out i; have r2 := fun i => grew_rule_off hS (n := w.heap.size) (by simp; omega) HOP.out i; have hne : w.heap.size ≠ t := (by omega); simp [go_sem, ↓IntWalk.iteOmega, r1, r2, hv5] <;> first | done | exact rfl | (rw [IntWalk.i64_in _ (by omega)]; exact rfl) | trace_state)
    refine wpPt_val rfl rfl ?_
    apply Exists.intro
    refine ⟨fun w' hS => ?_, ?_⟩
    focus (have r1 := fun i => grew_rule_off hS (n := t) (by simp; omega) HTP.out i; have r2 := fun i => grew_rule_off hS (n := w.heap.size) (by simp; omega) HOP.out i; have hne : w.heap.size ≠ t := (by omega); simp [go_sem, ↓IntWalk.iteOmega, r1, r2, hv5] <;> first | done | exact rfl | (rw [IntWalk.i64_in _ (by omega)]; exact rfl) | trace_state)
    refine wpPt_val rfl rfl ?_
    apply Exists.intro
    refine ⟨fun w' hS => ?_, ?_⟩
    focus (have r1 := fun i => grew_rule_off hS (n := t) (by simp; omega) HTP.out i; have r2 := fun i => grew_rule_off hS (n := w.heap.size) (by simp; omega) HOP.out i; have hne : w.heap.size ≠ t := (by omega); simp [go_sem, ↓IntWalk.iteOmega, r1, r2, hv5] <;> first | done | exact rfl | (rw [IntWalk.i64_in _ (by omega)]; exact rfl) | trace_state)
    refine wpPt_one rfl rfl (fun K hK => ?_)
    go_simp
    refine hK _ _ (fun hkn => (by repeat (first | assumption | exact grew_refl _ _ | apply grew_alloc | apply grew_drew))) ?_
    clear hK K
    refine wpPt_one rfl rfl (fun K hK => ?_)
    refine oper_append_at encP _ _ _ _ k0 _ 16 rfl Try.underlying29 hk kz0 kz1 kz2 rfl (by decide) ps pa pc 0 (by repeat (first | (with_reducible exact HP5.out) | (with_reducible apply Own.plus) | (with_reducible apply Own.alloc) | (with_reducible apply Own.drew) | (with_reducible refine own_patch ?_ HTP.out))) rfl [p] _ 0 1 (new_cells encP p _ _ (by first | omega | rfl | (simp <;> omega) | (simp only [List.length_cons, List.length_nil, plus_size, World.size_alloc]; omega))) rfl (by first | omega | rfl | (simp <;> omega) | (simp only [List.length_cons, List.length_nil, plus_size, World.size_alloc]; omega)) (by first | omega | rfl | (simp <;> omega) | (simp only [List.length_cons, List.length_nil, plus_size, World.size_alloc]; omega)) (by first | omega | rfl | (simp <;> omega) | (simp only [List.length_cons, List.length_nil, plus_size, World.size_alloc]; omega)) ?_
    intro pa' pc' w6 hp6 hg6 hx6
    have HP6 := Lib.hid hp6
    have HG6 := Lib.hid hg6
    have HX6 := Lib.hid hx6
    have hz6 := hg6.size
    simp at hz6
    have HB6 := Lib.hid (blk_grew hg6 (blk_alloc (blk_drew (patch_at w5 t _ ht5)) _) HTP.out)
    have s6 := fun v => setCell_patch HB6.out 3 v
    have f6 := free_of HB6.out
    have r6 := cell_of HB6.out
    clear hp6 hx6
    refine hK _ _ (fun hkn => by refine grew_trans ?_ hg6; exact grew_alloc (grew_drew (grew_refl _ _)) _) ?_
    clear hK K
    refine wpPt_one rfl rfl (fun K hK => ?_)
    go_simp
    refine hK _ _ (fun hkn => absurd hkn (by decide)) ?_
    clear hK K
    refine wpPt_one rfl rfl (fun K hK => ?_)
    go_simp
    refine hK _ _ (fun hkn => absurd hkn (by decide)) ?_
    clear hK K
    refine wpPt_one rfl rfl (fun K hK => ?_)
    go_simp
    refine hK _ _ (fun hkn => absurd hkn (by decide)) ?_
    clear hK K
    refine wpPt_one rfl rfl (fun K hK => ?_)
    go_simp
    refine hK _ _ (fun hkn => absurd hkn (by decide)) ?_
    clear hK K
    refine NoPanic.normal ?_
    have tp' := HX6.out.off HTP.out (k := t) (by simp; omega)
    have tq' := HX5.out.off HTQ.out (k := t) (by simp; omega)
    have qp' := nxt_off HX5.out (off_comm HPQ.out) (fun Y hY => by have := (own_lt HP.out Y hY).2; (try simp at this); simp; omega)
    have qn' := nxt_off HX5.out (off_comm HNQ.out) (fun Y hY => by have := (own_lt HN.out Y hY).2; (try simp at this); simp; omega)
    have on6 := own_grew (own_alloc_drew (own_patch (b := t) (ob := _) HN5.out HTN.out) _) HG6.out (off_comm HPN.out)
    have oq6 := own_grew (own_alloc_drew (own_patch (b := t) (ob := _) HQ5.out tq') _) HG6.out qp'
    refine bodyPost_end (v := .tuple #[]) (by simp [results, Try.results102, go_sem]) rfl ⟨rfl, pa', pc', _, _, qa', qc', _, _, ⟨hs, HOK.out, by simp; omega, ⟨by rw [show (ps ++ [p]).length = ps.length + 1 by simp, show (pn ++ [(r : Int)]).length = pn.length + 1 by simp]; first | exact patch_at _ _ _ (by omega) | (rw [show (pushN N q p.b (nw l ps.length) up).length = N.length + 1 by simp [pushN]]; exact patch_at _ _ _ (by omega)), own_patch HP6.out tp', own_patch on6 HTN.out, own_patch oq6 tq', tp', HTN.out, tq', nxt_off HX6.out HPN.out (fun Y hY => by have := (own_lt HN.out Y hY).2; (try simp at this); simp; omega), nxt_off HX6.out (off_comm qp') (fun Y hY => by have := (own_lt HQ5.out Y hY).2; (try simp at this); simp; omega), off_comm qn'⟩, HTI.out⟩, ?_, HX6.out.within (by simp; omega), HWN.out, HX5.out.within (by simp; omega)⟩
    refine turned_patch (turned_grew (turned_alloc (turned_drew (turned_patch (turned_grew ?_ HG5.out (fun X hX => .inr (.inr (.inl ⟨X, hX, rfl⟩)))) _)) _) HG6.out (fun X hX => .inl ⟨X, hX, rfl⟩)) _
    exact (by repeat (first | (with_reducible exact HTW.out) | (with_reducible apply turned_plus) | (with_reducible apply turned_alloc) | (with_reducible apply turned_drew)))

end Go.Proofs.Ytbedikodiboofaa
