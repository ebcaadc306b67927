/- The tree in memory: its block, its nodes and its pairs' nodes; reading it. -/
import Derived.Test.YtbedikodiboofaaTrp
import Derived.Test.YtbedikodiboofaaPln
import Derived.Test.YtbedikodiboofaaWid2
import Derived.Test.YtbedikodiboofaaApn
namespace Go.Proofs.Ytbedikodiboofaa
open Go.RowKit
set_option linter.unusedVariables false
set_option linter.unusedSimpArgs false

def encI : Enc Int where
  sz := 1
  enc i := [.int .i64 i]
  len _ := rfl
  one := by intro x u hu; simp at hu; subst hu; rfl

def encN : Enc Nd where
  sz := 6
  enc d := [.int .i64 d.parent, .int .i64 d.child, .int .i64 d.next, .int .u8 d.last, .int .u8 d.first, .int .i64 d.code]
  len _ := rfl
  one := by intro x u hu; simp at hu; rcases hu with rfl | rfl | rfl | rfl | rfl | rfl <;> rfl

theorem cell_of {w : World} {b : Nat} {cur : Array Value} {e : TypeId} {fz : Nat × Nat} (h : w.heap[b]? = some (.cells cur e fz)) (i : Nat) : w.cell? ⟨b, i, none⟩ = cur[i]? := by
  simp [World.cell?, h]

theorem free_of {w : World} {b : Nat} {cur : Array Value} {e : TypeId} (h : w.heap[b]? = some (.cells cur e (0, 0))) (i : Nat) : w.frozen? ⟨b, i, none⟩ = false := by
  simp [World.frozen?, h]

theorem own_cell {α : Type} {E : Enc α} {e : TypeId} {w : World} {a : Option Addr} {cap : Nat} {xs : List α} {lo : Nat} (h : Own E e w a cap xs lo) {i : Nat} {x : α} (hx : xs[i]? = some x) :
    ∃ b, a = some ⟨b, 0, none⟩ ∧ b < w.heap.size ∧ xs.length ≤ cap ∧ cap ≤ 9223372036854775807 ∧ (∀ k, w.frozen? ⟨b, k, none⟩ = false) ∧ ∀ (j : Nat) (u : Value), (E.enc x)[j]? = some u → w.cell? ⟨b, i * E.sz + j, none⟩ = some u := by
  obtain ⟨b, cur, rfl, h1, h2, h3, h4, h5, h6, h7⟩ := own_some h (by have := (List.getElem?_eq_some_iff.1 hx).1; omega)
  refine ⟨b, rfl, h2, h6, h7, fun k => free_of h3 k, fun j u hj => ?_⟩
  have hj2 : j < E.sz := by have := (List.getElem?_eq_some_iff.1 hj).1; rwa [E.len] at this
  rw [cell_of h3]
  exact h5 _ _ (by rw [flat_get E xs i x hx j hj2]; exact hj)

/-- the tree's block, and what it holds -/
structure TreeAt (w : World) (t : Nat) (pa : Option Addr) (pc : Nat) (na : Option Addr) (nc : Nat) (qa : Option Addr) (qc : Nat) (o l m : Int) (ps : List Pr) (base last : Int) (N : List Nd) (pn : List Int) : Prop where
  blk : w.heap[t]? = some (.cells #[.int .i64 o, .int .i64 l, .int .i64 m, .slice pa ps.length pc, .int .i64 base, .int .i64 last, .slice na N.length nc, .slice qa pn.length qc] 115 (0, 0))
  op : Own encP 86 w pa pc ps 0
  on : Own encN 117 w na nc N 0
  oq : Own encI 3 w qa qc pn 0
  tp : Off pa t
  tn : Off na t
  tq : Off qa t
  pn' : ∀ A, pa = some A → Off na A.block
  pq' : ∀ A, pa = some A → Off qa A.block
  nq' : ∀ A, na = some A → Off qa A.block

section
variable {w w' : World} {t : Nat} {pa : Option Addr} {pc : Nat} {na : Option Addr} {nc : Nat} {qa : Option Addr} {qc : Nat} {o l m : Int} {ps : List Pr} {base last : Int} {N : List Nd} {pn : List Int}

theorem TreeAt.cells (h : TreeAt w t pa pc na nc qa qc o l m ps base last N pn) :
    t < w.heap.size ∧ w.cell? ⟨t, 0, none⟩ = some (.int .i64 o) ∧ w.cell? ⟨t, 1, none⟩ = some (.int .i64 l) ∧ w.cell? ⟨t, 2, none⟩ = some (.int .i64 m) ∧ w.cell? ⟨t, 3, none⟩ = some (.slice pa ps.length pc) ∧
      w.cell? ⟨t, 4, none⟩ = some (.int .i64 base) ∧ w.cell? ⟨t, 5, none⟩ = some (.int .i64 last) ∧ w.cell? ⟨t, 6, none⟩ = some (.slice na N.length nc) ∧ w.cell? ⟨t, 7, none⟩ = some (.slice qa pn.length qc) := by
  refine ⟨(Array.getElem?_eq_some_iff.1 h.blk).1, ?_, ?_, ?_, ?_, ?_, ?_, ?_, ?_⟩ <;> rw [cell_of h.blk] <;> rfl

/-- worlds in which nothing of the tree has turned -/
theorem TreeAt.of_block (h : TreeAt w t pa pc na nc qa qc o l m ps base last N pn) (hs : ∀ k, k < w.heap.size → (k = t ∨ ¬ Off pa k ∨ ¬ Off na k ∨ ¬ Off qa k) → w'.heap[k]? = w.heap[k]?) : TreeAt w' t pa pc na nc qa qc o l m ps base last N pn where
  blk := by rw [hs t (Array.getElem?_eq_some_iff.1 h.blk).1 (.inl rfl)]; exact h.blk
  op := h.op.of_block fun A hA hl => hs _ hl (.inr (.inl fun hf => hf A hA rfl))
  on := h.on.of_block fun A hA hl => hs _ hl (.inr (.inr (.inl fun hf => hf A hA rfl)))
  oq := h.oq.of_block fun A hA hl => hs _ hl (.inr (.inr (.inr fun hf => hf A hA rfl)))
  tp := h.tp
  tn := h.tn
  tq := h.tq
  pn' := h.pn'
  pq' := h.pq'
  nq' := h.nq'

theorem TreeAt.plus (h : TreeAt w t pa pc na nc qa qc o l m ps base last N pn) (x : Ext) : TreeAt (plus w x) t pa pc na nc qa qc o l m ps base last N pn :=
  h.of_block fun k hk _ => plus_block w x hk

theorem TreeAt.node (h : TreeAt w t pa pc na nc qa qc o l m ps base last N pn) {i : Nat} {d : Nd} (hd : N[i]? = some d) : ∃ nb, na = some ⟨nb, 0, none⟩ ∧ nb ≠ t ∧ nb < w.heap.size ∧ i < N.length ∧ N.length ≤ nc ∧ nc ≤ 9223372036854775807 ∧ (∀ k, w.frozen? ⟨nb, k, none⟩ = false) ∧
      w.cell? ⟨nb, i * 6, none⟩ = some (.int .i64 d.parent) ∧ w.cell? ⟨nb, i * 6 + 1, none⟩ = some (.int .i64 d.child) ∧ w.cell? ⟨nb, i * 6 + 2, none⟩ = some (.int .i64 d.next) ∧
      w.cell? ⟨nb, i * 6 + 3, none⟩ = some (.int .u8 d.last) ∧ w.cell? ⟨nb, i * 6 + 4, none⟩ = some (.int .u8 d.first) ∧ w.cell? ⟨nb, i * 6 + 5, none⟩ = some (.int .i64 d.code) := by
  obtain ⟨nb, e, h1, h2, h3, h4, h5⟩ := own_cell h.on hd
  exact ⟨nb, e, h.tn _ e, h1, (List.getElem?_eq_some_iff.1 hd).1, h2, h3, h4, h5 0 _ rfl, h5 1 _ rfl, h5 2 _ rfl, h5 3 _ rfl, h5 4 _ rfl, h5 5 _ rfl⟩

end

/-- the tree of what is known, as far as it has been learned -/
structure Tk (w : World) (t : Nat) (pa : Option Addr) (pc : Nat) (na : Option Addr) (nc : Nat) (qa : Option Addr) (qc : Nat) (o l m : Int) (ps : List Pr) (base last : Int) (N : List Nd) (pn : List Int) : Prop where
  s : sv o l m = true
  ok : OKs l ps
  len : ps.length ≤ 2000
  at' : TreeAt w t pa pc na nc qa qc o l m ps base last N pn
  ti : TI l ps N pn

/-- the index of a word, or -1 -/
def ix (D : List (List UInt8 × Int)) (w : List UInt8) : Int := match D.findIdx? (fun x => decide (x.1 = w)) with
  | some i => i
  | none => -1

theorem DI.ix {l : Int} {ps : List Pr} {D : List (List UInt8 × Int)} {n : Nat} (h : DI l ps D n) {i : Nat} {w : List UInt8} {c : Int} (hi : D[i]? = some (w, c)) : ix D w = i := by
  have hl := (List.getElem?_eq_some_iff.1 hi).1
  have he := (List.getElem?_eq_some_iff.1 hi).2
  have : D.findIdx? (fun x => decide (x.1 = w)) = some i := by
    rw [List.findIdx?_eq_some_iff_getElem]
    refine ⟨hl, by simp [he], fun j hj hp => ?_⟩
    simp only [decide_eq_true_eq] at hp
    have hj2 : D[j]? = some (w, (D[j]'(by omega)).2) := by
      rw [List.getElem?_eq_getElem (by omega)]
      exact congrArg some (Prod.ext hp rfl)
    have := (h.same hi hj2).1
    omega
  unfold Go.Proofs.Ytbedikodiboofaa.ix
  rw [this]

theorem ix_no {D : List (List UInt8 × Int)} {w : List UInt8} (h : w ∉ D.map (·.1)) : ix D w = -1 := by
  have : D.findIdx? (fun x => decide (x.1 = w)) = none := by
    rw [List.findIdx?_eq_none_iff]
    intro x hx
    simp only [decide_eq_false_iff_not]
    exact fun e => h (List.mem_map.2 ⟨x, hx, e⟩)
  unfold ix
  rw [this]

theorem ix_cases (D : List (List UInt8 × Int)) (w : List UInt8) : (ix D w = -1 ∧ w ∉ D.map (·.1)) ∨ (∃ (i : Nat) (c : Int), ix D w = i ∧ D[i]? = some (w, c)) := by
  unfold ix
  split
  · rename_i i hi
    obtain ⟨hl, hp, _⟩ := List.findIdx?_eq_some_iff_getElem.1 hi
    simp only [decide_eq_true_eq] at hp
    refine .inr ⟨i, D[i].2, rfl, ?_⟩
    rw [List.getElem?_eq_getElem hl]
    exact congrArg some (Prod.ext hp rfl)
  · rename_i hi
    refine .inl ⟨rfl, fun hm => ?_⟩
    obtain ⟨x, hx, e⟩ := List.mem_map.1 hm
    have := List.findIdx?_eq_none_iff.1 hi x hx
    simp [e] at this

section
variable {w : World} {t : Nat} {pa : Option Addr} {pc : Nat} {na : Option Addr} {nc : Nat} {qa : Option Addr} {qc : Nat} {o l m : Int} {ps : List Pr} {base last : Int} {N : List Nd} {pn : List Int}

theorem Tk.lit (h : Tk w t pa pc na nc qa qc o l m ps base last N pn) : 1 ≤ l ∧ l ≤ 8 ∧ l + 2 ≤ m ∧ m ≤ 10 ∧ 2 ≤ two l ∧ two l ≤ 256 ∧ 1 ≤ two m ∧ two m ≤ 1024 := by
  obtain ⟨_, h2, h3, h4, h5⟩ := sv_iff.1 h.s
  obtain ⟨t1, t2⟩ := two_lit h2 h3
  obtain ⟨t3, t4⟩ := two_bd (n := m) (by omega) (by omega)
  exact ⟨h2, h3, h4, h5, t1, t2, t3, t4⟩

theorem Tk.di (h : Tk w t pa pc na nc qa qc o l m ps base last N pn) : DI l ps (DD l ps ps.length) ps.length := by
  obtain ⟨_, _, _, _, t1, t2, _, _⟩ := h.lit
  exact DI_all h.ok t1 t2 (Nat.le_refl _)

theorem Tk.plus (h : Tk w t pa pc na nc qa qc o l m ps base last N pn) (x : Ext) : Tk (Go.Proofs.Ytbedikodiboofaa.plus w x) t pa pc na nc qa qc o l m ps base last N pn :=
  ⟨h.s, h.ok, h.len, h.at'.plus x, h.ti⟩

theorem Tk.alloc (h : Tk w t pa pc na nc qa qc o l m ps base last N pn) (ob : Obj) : Tk (w.alloc ob) t pa pc na nc qa qc o l m ps base last N pn := by
  rw [alloc_plus]; exact h.plus _

theorem tk_seq {x y : Ext} (h : Tk (Go.Proofs.Ytbedikodiboofaa.plus w x) t pa pc na nc qa qc o l m ps base last N pn) : Tk (Go.Proofs.Ytbedikodiboofaa.plus w (x.seq y)) t pa pc na nc qa qc o l m ps base last N pn := by
  rw [← plus_plus]; exact h.plus _

theorem Tk.drew (h : Tk w t pa pc na nc qa qc o l m ps base last N pn) : Tk w.drew t pa pc na nc qa qc o l m ps base last N pn := by
  rw [drew_is_plus]; exact h.plus _

end

set_option maxHeartbeats 1000000 in
theorem nodeOf_any {t : Nat} {pa : Option Addr} {pc : Nat} {na : Option Addr} {nc : Nat} {qa : Option Addr} {qc : Nat} {o l m : Int} {ps : List Pr} {base last : Int} {N : List Nd} {pn : List Int} (c : Int) (w : World)
    (h : Tk w t pa pc na nc qa qc o l m ps base last N pn) (hc : hw l ps.length c = true) :
    Calls Try.prog 106 #[.pointer (some ⟨t, 0, none⟩), .int .i64 c] w (Ret w (.int .i64 (ix (DD l ps ps.length) (W l ps c)))) := by
  obtain ⟨l1, l2, l3, l4, t1, t2, t3, t4⟩ := h.lit
  obtain ⟨ht, c0, c1, c2, c3, c4, c5, c6, c7⟩ := h.at'.cells
  have hD := h.di
  have hs := h.s
  have hcw := hw_iff.1 hc
  have hlen := h.len
  rcases h.ti.node hD hc with ⟨g1, g2, c', g3⟩ | ⟨g1, i, g2, g3, c', g4⟩
  · have HX := Lib.hid (show ix (DD l ps ps.length) (W l ps c) = c by rw [hD.ix g3]; omega)
    clear hD g3 hc h
    have gd : decide (two l + 1 < c) = false := by simp; omega
    go_enter Try.func106, Try.ntmps106
    go_wp2_with (go_at_call 68; refine (EndCode_yes _ _ _ hs _).mono ?_; rintro e w' ⟨rfl, xc, rfl⟩)
    go_ret
    exact ret_of (int_val HX.out.symm) (by repeat (first | exact More.refl _ | apply More.plus | apply More.alloc | apply More.drew | apply More.drewN))
  · have HX := Lib.hid (show ix (DD l ps ps.length) (W l ps c) = i by rw [hD.ix g4]; omega)
    obtain ⟨qb, e1, e2, e3, e4, e5, e6⟩ := own_cell h.at'.oq g2
    have hpl := h.ti.len
    have cq := e6 0 _ rfl
    simp only [encI, Nat.mul_one, Nat.add_zero] at cq
    clear hD g4 hc e5 e6
    have i1 : 0 ≤ c - (two l + 1) - 1 := by omega
    have i2 : c - (two l + 1) - 1 < (pn.length : Int) := by omega
    subst e1
    clear h hpl g2
    go_enter Try.func106, Try.ntmps106
    go_wp2_with (go_at_call 68; refine (EndCode_yes _ _ _ hs _).mono ?_; rintro e w' ⟨rfl, xc, rfl⟩)
    go_ret
    exact ret_of (int_val HX.out.symm) (by repeat (first | exact More.refl _ | apply More.plus | apply More.alloc | apply More.drew | apply More.drewN))

end Go.Proofs.Ytbedikodiboofaa
