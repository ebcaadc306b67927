/- Worlds that have turned in a range of blocks alone; marks of what a call returned. -/
import Derived.Test.YtmddcbebaijjkaaDoorGb

import Derived.Test.YtmddcbebaijjkaaDoorGa
namespace Go.Proofs.YtmddcbebaijjkaaDoor
open Go.RowKit
set_option linter.unusedVariables false
set_option linter.unusedSimpArgs false

@[simp, go_sem] theorem seq_sz (x y : Ext) : (x.seq y).n = x.n + y.n := by simp [Ext.seq, Ext.n]

@[simp, go_sem] theorem drw_sz (x : Ext) (k : Nat) : (x.draw k).n = x.n := rfl

/-- of the old blocks only those from lo up to hi have turned -/
structure Rng (lo hi : Nat) (w w' : World) : Prop where
  os : w'.os = w.os
  tape : w'.tape = w.tape
  output : w'.output = w.output
  size : w.heap.size ≤ w'.heap.size
  block : ∀ k, k < w.heap.size → (k < lo ∨ hi ≤ k) → w'.heap[k]? = w.heap[k]?

theorem rng_plus {lo hi : Nat} {w w' : World} (h : Rng lo hi w w') (x : Ext) : Rng lo hi w (plus w' x) :=
  ⟨h.os, h.tape, h.output, by have := h.size; simp; omega, fun k hk ha => by rw [plus_block _ _ (by have := h.size; omega)]; exact h.block k hk ha⟩

theorem rng_refl (lo hi : Nat) (w : World) : Rng lo hi w w := ⟨rfl, rfl, rfl, Nat.le_refl _, fun _ _ _ => rfl⟩

theorem rng_patch {lo hi : Nat} {w w' : World} (h : Rng lo hi w w') {b : Nat} (o : Obj) (h1 : lo ≤ b) (h2 : b < hi) : Rng lo hi w (patch w' b o) :=
  ⟨h.os, h.tape, h.output, by have := h.size; simpa, fun k hk ha => by rw [patch_other _ _ _ (by omega)]; exact h.block k hk ha⟩

theorem Rng.below {lo hi B : Nat} {w w' : World} (h : Rng lo hi w w') (hB : B ≤ lo) (hB2 : B ≤ w.heap.size) : Below B w w' :=
  ⟨h.os, h.tape, h.output, h.size, fun k hk => h.block k (by omega) (.inl (by omega))⟩

theorem rd_rng {α : Type} {E : Enc α} {w w' : World} {a : Option Addr} {cap : Nat} {xs : List α} {lo hi : Nat} (h : Rd E w a cap xs) (hg : Rng lo hi w w') (ha : ∀ A, a = some A → 0 < cap → A.block < lo ∨ hi ≤ A.block) : Rd E w' a cap xs := by
  obtain ⟨h1, h2, h3⟩ := h
  rcases Nat.eq_zero_or_pos cap with h0 | h0
  · exact ⟨h1, h2, .inl h0⟩
  · rcases h3 with h3 | ⟨b, off, e, hb, hc⟩
    · omega
    · refine ⟨h1, h2, .inr ⟨b, off, e, by have := hg.size; omega, fun j u hj => ?_⟩⟩
      rw [World.cell?_of_block (a := ⟨b, off + j, none⟩) (hg.block b hb (ha _ e h0))]
      exact hc j u hj

theorem rng_cell {lo hi : Nat} {w w' : World} (h : Rng lo hi w w') (n i : Nat) : w'.cell? ⟨n, i, none⟩ = if n < w.heap.size ∧ (n < lo ∨ hi ≤ n) then w.cell? ⟨n, i, none⟩ else cellPast w' ⟨n, i, none⟩ := by
  split
  · rename_i hc
    exact World.cell?_of_block (a := ⟨n, i, none⟩) (h.block n hc.1 hc.2)
  · rfl

/-- where what a call returned lies -/
theorem own_span {α : Type} {E : Enc α} {e : TypeId} {w : World} {a : Option Addr} {cap : Nat} {xs : List α} {lo : Nat} (h : Own E e w a cap xs lo) : ∃ lo' hi' : Nat, lo' = lo ∧ hi' = w.heap.size ∧ ∀ A, a = some A → lo' ≤ A.block ∧ A.block < hi' :=
  ⟨lo, _, rfl, rfl, own_lt h⟩

/-- what a call leaves that writes marks into pairs -/
def RetMk (lo hi : Nat) (w : World) (a : Option Addr) (cap n : Nat) (k : Int) (e : Ending) (w' : World) : Prop :=
  e = .returned (.int .i64 (k + 2 * n)) ∧ RdP w' a cap (marks k n) ∧ Rng lo hi w w'

theorem retMk_of {lo hi : Nat} {w : World} {a : Option Addr} {cap : Nat} {ps : List Pr} {k : Int} {lo' : Nat} {f : FuncId} {args : Array Value} (h : Own encP 53 w a cap ps lo') (ha : ∀ A, a = some A → lo ≤ A.block ∧ A.block < hi)
    (h0 : ps.length = 0 → Calls Tryd.prog f args w (Ret w (.int .i64 k)))
    (h1 : ∀ (b : Nat) (cur : Array Value), a = some ⟨b, 0, none⟩ → w.heap[b]? = some (.cells cur 53 (0, 0)) → cur.size = cap * 2 → ps.length ≤ cap → 0 < ps.length → Calls Tryd.prog f args w (RetM w b cap ps.length k)) :
    Calls Tryd.prog f args w (RetMk lo hi w a cap ps.length k) := by
  rcases Nat.eq_zero_or_pos ps.length with hz | hz
  · refine (h0 hz).mono ?_
    rintro e w' ⟨rfl, x, rfl⟩
    refine ⟨by rw [hz]; simp, ?_, rng_plus (rng_refl _ _ _) x⟩
    obtain ⟨h2, h3, h4⟩ := h.rd
    exact ⟨by rw [marks_len]; omega, h3, h4.imp id fun ⟨b, off, e, hb, hc⟩ => ⟨b, off, e, by simp; omega, fun j u hj => by rw [hz] at hj; simp [flat, marks] at hj⟩⟩
  · obtain ⟨b, cur, rfl, q1, q2, q3, q4, q5, q6, q7⟩ := own_some h hz
    refine (h1 b cur rfl q3 q4 q6 hz).mono ?_
    rintro e w' ⟨rfl, cur', x, rfl, r1, r2⟩
    obtain ⟨s1, s2⟩ := ha _ rfl
    exact ⟨rfl, Rd.plus (rd_patched q2 r2 (by rw [marks_len]; omega) q7) x, rng_plus (rng_patch (rng_refl _ _ _) _ s1 s2) x⟩

theorem markKnown_own (o l m : Int) (a : Option Addr) (cap : Nat) (ps : List Pr) (base last : Int) (k : Int) (w : World) {lo hi lo' : Nat} (h : Own encP 53 w a cap ps lo') (ha : ∀ A, a = some A → lo ≤ A.block ∧ A.block < hi) (hn2 : ps.length ≤ 2000000) (hk0 : 0 ≤ k) (hk1 : k ≤ 4000000000) :
    Calls Tryd.prog 13 #[.agg #[.int .i64 o, .int .i64 l, .int .i64 m, .slice a ps.length cap, .int .i64 base, .int .i64 last], .int .i64 k] w (RetMk lo hi w a cap ps.length k) := by
  refine retMk_of h ha (fun hz => ?_) (fun b cur e hb hc hle hp => ?_)
  · rw [hz]
    exact markKnown_nil o l m a cap base last k w
  · subst e
    exact markKnown_some o l m b cap ps.length base last cur k w hb hc hle hn2 hk0 hk1

theorem eqKnown_yes (o l m : Int) (a : Option Addr) (cap : Nat) (ps : List Pr) (base last : Int) (a' : Option Addr) (cap' : Nat) (w : World) (hr : RdP w a cap ps) (hr' : RdP w a' cap' ps) :
    Calls Tryd.prog 10 #[.agg #[.int .i64 o, .int .i64 l, .int .i64 m, .slice a ps.length cap, .int .i64 base, .int .i64 last], .agg #[.int .i64 o, .int .i64 l, .int .i64 m, .slice a' ps.length cap', .int .i64 base, .int .i64 last]] w (Ret w (.bool true)) := by
  have := eqKnown_any o l m a cap ps base last o l m a' cap' ps base last w hr hr'
  simpa using this

theorem own_seq {α : Type} {E : Enc α} {e : TypeId} {w : World} {a : Option Addr} {cap : Nat} {xs : List α} {lo : Nat} {x y : Ext} (h : Own E e (plus w x) a cap xs lo) : Own E e (plus w (x.seq y)) a cap xs lo := by
  rw [← plus_plus]; exact h.plus y

theorem own_draw {α : Type} {E : Enc α} {e : TypeId} {w : World} {a : Option Addr} {cap : Nat} {xs : List α} {lo : Nat} {x : Ext} {n : Nat} (h : Own E e (plus w x) a cap xs lo) : Own E e (plus w (x.draw n)) a cap xs lo := h

theorem Own.drewN {α : Type} {E : Enc α} {e : TypeId} {w : World} {a : Option Addr} {cap : Nat} {xs : List α} {lo : Nat} {n : Nat} (h : Own E e w a cap xs lo) : Own E e (w.drewN n) a cap xs lo := by
  rw [drewN_is_plus]; exact h.plus _

/-- what a call leaves that returns a value with pairs of its own -/
def RetO (w : World) (v : Option Addr → Nat → Value) (ps : List Pr) (e : Ending) (w' : World) : Prop :=
  ∃ a c, e = .returned (v a c) ∧ Own encP 53 w' a c ps w.heap.size ∧ ∃ x, w' = plus w x

end Go.Proofs.YtmddcbebaijjkaaDoor
