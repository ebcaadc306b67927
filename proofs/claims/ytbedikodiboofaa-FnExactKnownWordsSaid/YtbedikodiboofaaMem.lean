/- Slices that read as lists, whatever the element; append onto nothing; make. No function of the program in sight. -/
import Derived.Test.YtbedikodiboofaaBase
import Derived.Deep.AppendSrc
namespace Go.Proofs.Ytbedikodiboofaa
open Go.RowKit
set_option linter.unusedVariables false
set_option linter.unusedSimpArgs false

/-- how an element lies in cells -/
structure Enc (α : Type) where
  sz : Nat
  enc : α → List Value
  len : ∀ x, (enc x).length = sz
  one : ∀ x u, u ∈ enc x → u.oneCell' = true

def flat {α : Type} (E : Enc α) (xs : List α) : List Value := xs.flatMap E.enc

theorem flat_len {α : Type} (E : Enc α) (xs : List α) : (flat E xs).length = xs.length * E.sz := by
  induction xs with
  | nil => simp [flat]
  | cons x xs ih => simp only [flat, List.flatMap_cons, List.length_append, E.len] at *; rw [ih, List.length_cons, Nat.add_mul]; omega

theorem flat_append {α : Type} (E : Enc α) (xs ys : List α) : flat E (xs ++ ys) = flat E xs ++ flat E ys := by simp [flat]

theorem flat_one {α : Type} (E : Enc α) (xs : List α) : ∀ u ∈ flat E xs, u.oneCell' = true := by
  intro u hu
  simp only [flat, List.mem_flatMap] at hu
  obtain ⟨x, _, hx⟩ := hu
  exact E.one x u hx

theorem flat_get {α : Type} (E : Enc α) (xs : List α) (i : Nat) (x : α) (h : xs[i]? = some x) (j : Nat) (hj : j < E.sz) : (flat E xs)[i * E.sz + j]? = (E.enc x)[j]? := by
  induction xs generalizing i with
  | nil => simp at h
  | cons y ys ih =>
    have e : flat E (y :: ys) = E.enc y ++ flat E ys := by simp [flat]
    cases i with
    | zero =>
      simp at h; subst h
      rw [e, Nat.zero_mul, Nat.zero_add, List.getElem?_append_left (by rw [E.len]; omega)]
    | succ i =>
      simp at h
      rw [e, List.getElem?_append_right (by rw [E.len, Nat.add_mul]; omega), E.len]
      rw [show (i + 1) * E.sz + j - E.sz = i * E.sz + j by rw [Nat.add_mul]; omega]
      exact ih i h

/-- the slice at a with room for cap reads as xs -/
def Rd {α : Type} (E : Enc α) (w : World) (a : Option Addr) (cap : Nat) (xs : List α) : Prop :=
  xs.length ≤ cap ∧ cap ≤ 9223372036854775807 ∧ (cap = 0 ∨ ∃ b off, a = some ⟨b, off, none⟩ ∧ b < w.heap.size ∧
    ∀ j u, (flat E xs)[j]? = some u → w.cell? ⟨b, off + j, none⟩ = some u)

theorem Rd.of_block {α : Type} {E : Enc α} {w w' : World} {a : Option Addr} {cap : Nat} {xs : List α} (h : Rd E w a cap xs)
    (hs : ∀ A, a = some A → A.block < w.heap.size → A.block < w'.heap.size ∧ w'.heap[A.block]? = w.heap[A.block]?) : Rd E w' a cap xs := by
  obtain ⟨h1, h2, h3⟩ := h
  refine ⟨h1, h2, ?_⟩
  rcases h3 with h3 | ⟨b, off, rfl, hb, hc⟩
  · exact .inl h3
  · obtain ⟨q1, q2⟩ := hs _ rfl hb
    exact .inr ⟨b, off, rfl, q1, fun j u hj => (World.cell?_of_block (a := ⟨b, off + j, none⟩) q2).trans (hc j u hj)⟩

theorem Rd.plus {α : Type} {E : Enc α} {w : World} {a : Option Addr} {cap : Nat} {xs : List α} (h : Rd E w a cap xs) (x : Ext) : Rd E (plus w x) a cap xs :=
  h.of_block fun A _ hb => ⟨by rw [plus_size]; omega, plus_block w x hb⟩

theorem rd_seq {α : Type} {E : Enc α} {w : World} {a : Option Addr} {cap : Nat} {xs : List α} {x y : Ext} (h : Rd E (plus w x) a cap xs) : Rd E (plus w (x.seq y)) a cap xs := by
  rw [← plus_plus]; exact h.plus _

theorem Rd.alloc {α : Type} {E : Enc α} {w : World} {a : Option Addr} {cap : Nat} {xs : List α} (h : Rd E w a cap xs) (o : Obj) : Rd E (w.alloc o) a cap xs := by
  rw [alloc_plus]; exact h.plus _

theorem Rd.drew {α : Type} {E : Enc α} {w : World} {a : Option Addr} {cap : Nat} {xs : List α} (h : Rd E w a cap xs) : Rd E w.drew a cap xs := by
  rw [drew_is_plus]; exact h.plus _

theorem Rd.drewN {α : Type} {E : Enc α} {w : World} {a : Option Addr} {cap : Nat} {xs : List α} (h : Rd E w a cap xs) (n : Nat) : Rd E (w.drewN n) a cap xs := by
  rw [drewN_is_plus]; exact h.plus _

/-- cells that begin with the elements xs -/
def Row {α : Type} (E : Enc α) (cur : Array Value) (xs : List α) : Prop := ∀ (j : Nat) (u : Value), (flat E xs)[j]? = some u → cur[j]? = some u

theorem Rd.of_row {α : Type} {E : Enc α} {w : World} {b cap : Nat} {e : TypeId} {fz : Nat × Nat} {cur : Array Value} {xs : List α} (hb : w.heap[b]? = some (.cells cur e fz)) (hr : Row E cur xs)
    (h1 : xs.length ≤ cap) (h2 : cap ≤ 9223372036854775807) : Rd E w (some ⟨b, 0, none⟩) cap xs := by
  refine ⟨h1, h2, .inr ⟨b, 0, rfl, (Array.getElem?_eq_some_iff.1 hb).1, fun j u hj => ?_⟩⟩
  simp only [World.cell?, hb, Nat.zero_add]
  exact hr j u hj

/-- a slice is nil, or lies in a block from B on -/
def FreshA (B N : Nat) (a : Option Addr) : Prop := ∀ A, a = some A → B ≤ A.block ∧ A.block < N

theorem nextcap (n : Nat) : Builtin.nextslicecap n 0 = n := by
  unfold Builtin.nextslicecap
  rcases Nat.eq_zero_or_pos n with rfl | h
  · rfl
  · rw [if_pos (by omega)]

section
variable {P : Program} {ops : Array Oper} {rest : List Oper} {o : Oper} {a : Act} {w : World} {Q : Exit → Act → World → Prop}

/-- append onto an empty slice without room, the source not empty -/
theorem wpList_append_new {α : Type} (E : Enc α) (s x : Operand) (t e : TypeId) (i : TypeInfo) (z : Value) (bytes : Nat) (hgd : o.guard = none)
    (ho : o.op = .call { callee := .builtin .append, args := #[s, x], argTypes := #[t, t] }) (ht : P.underlying t = some (.slice e)) (hi : P.info? e = some i) (hz : i.zero = some z) (hsz : i.size = E.sz) (hby : i.bytes = bytes)
    (hzs : z.cells.size = E.sz) (xs : List α) (A : Option Addr) (cap : Nat) (hr : Rd E w A cap xs) (hne : 0 < xs.length) (D : Option Addr) (hs : a.eval s = .slice D 0 0) (hx : a.eval x = .slice A xs.length cap)
    (hbd : xs.length * bytes ≤ 140737488355328) (hlen : xs.length ≤ 140737488355328)
    (h : ∀ (c : Nat) (cur : Array Value), Row E cur xs → xs.length ≤ c → c ≤ 9223372036854775807 → cur.size = c * E.sz →
      wpList P ops Q rest (a.put o.dst (.slice (some ⟨w.heap.size, 0, none⟩) xs.length c)) (w.drew.alloc (.cells cur e))) :
    wpList P ops Q (o :: rest) a w := by
  refine wpList_plain hgd fun K hK => ?_
  obtain ⟨h1, h2, h3⟩ := hr
  rcases h3 with hc0 | ⟨b, off, rfl, hb, hc⟩
  · omega
  have hsrc : Src P i.size t (.slice (some ⟨b, off, none⟩) xs.length cap) xs.length (flat E xs) w :=
    Src.ofSlice w ht _ _ _ _ (by rw [flat_len, hsz]) (fun j u hj => by rw [Addr.add_lit]; exact hc j u hj) (flat_one E xs)
  have hrun := run_append_grow_src (P := P) w t t o.type e i z ht hi hz D 0 0 [] (by cases D with | none => simpa using run_firstCells_none (P := P) w.drew i.size 0 0 0 | some d => simpa using run_firstCells_some (P := P) w.drew i.size 0 d 0 0 [] (by simp) (by simp)) _ _ _ hsrc (by omega) (by omega) (by rw [Nat.zero_add, nextcap, hby]; omega)
  have hge := grownCap_ge w (0 + xs.length) 0 e
  have hle := grownCap_le_maxLen w (0 + xs.length) 0 e (by simp [maxLen]; omega)
  unfold Oper.wp execOp
  simp only [ho, resolve, invoke, builtin, Sem.run_bind, Sem.run_pure, Result.andThen_ok, List.map_toArray, List.map_cons, List.map_nil, hs, hx, hrun]
  have hl := flat_len E xs
  refine hK _ _ ?_
  have hfin := h (grownCap w (0 + xs.length) 0 e) (([] ++ flat E xs).toArray ++ Builtin.zeroCells z.cells (grownCap w (0 + xs.length) 0 e - (0 + xs.length))) ?_ (by omega) (by simpa [maxLen] using hle) ?_
  · simpa using hfin
  · refine (fun j u hj => ?_ : ∀ (j : Nat) (u : Value), (flat E xs)[j]? = some u → _)
    have hjl := (List.getElem?_eq_some_iff.1 hj).1
    rw [Array.getElem?_append_left (by simpa using hjl)]
    simpa using hj
  · have hm : (grownCap w (0 + xs.length) 0 e) * E.sz = xs.length * E.sz + (grownCap w (0 + xs.length) 0 e - (0 + xs.length)) * E.sz := by
      rw [← Nat.add_mul]; congr 1; omega
    rw [Array.size_append, size_zeroCells, hzs, hm]
    simp [hl]

/-- append onto an empty slice without room, the source empty -/
theorem wpList_append_none (s x : Operand) (t e : TypeId) (i : TypeInfo) (hgd : o.guard = none)
    (ho : o.op = .call { callee := .builtin .append, args := #[s, x], argTypes := #[t, t] }) (ht : P.underlying t = some (.slice e)) (hi : P.info? e = some i)
    (A D : Option Addr) (cap : Nat) (hs : a.eval s = .slice D 0 0) (hx : a.eval x = .slice A 0 cap)
    (h : wpList P ops Q rest (a.put o.dst (.slice D 0 0)) w) :
    wpList P ops Q (o :: rest) a w := by
  refine wpList_plain hgd fun K hK => ?_
  have hrun : (Builtin.append_ #[t, t] o.type #[.slice D 0 0, .slice A 0 cap]).run P w = .ok (.slice D 0 0) w := by
    have hf : (Builtin.firstCells i.size 0 (.slice A 0 cap)).run P w = .ok #[] w := by
      cases A with
      | none => exact run_firstCells_none (P := P) w i.size 0 0 cap
      | some d => simpa using run_firstCells_some (P := P) w i.size 0 d 0 cap [] (by simp) (by simp)
    simp [Builtin.append_, run_underlying ht, sizeOf, typeInfo, hi, Builtin.lenOf, hf]
    cases D <;> simp [storeCells]
  unfold Oper.wp execOp
  simp only [ho, resolve, invoke, builtin, Sem.run_bind, Sem.run_pure, Result.andThen_ok, List.map_toArray, List.map_cons, List.map_nil, hs, hx, hrun]
  exact hK _ _ h

end

/-- a slice of the call's own: nil, or at the head of a block from lo on that nothing else holds -/
def Own {α : Type} (E : Enc α) (e : TypeId) (w : World) (a : Option Addr) (cap : Nat) (xs : List α) (lo : Nat) : Prop :=
  (a = none ∧ cap = 0 ∧ xs = []) ∨ ∃ b cur, a = some ⟨b, 0, none⟩ ∧ lo ≤ b ∧ w.heap[b]? = some (.cells cur e (0, 0)) ∧ cur.size = cap * E.sz ∧ Row E cur xs ∧ xs.length ≤ cap ∧ cap ≤ 9223372036854775807

theorem Own.rd {α : Type} {E : Enc α} {e : TypeId} {w : World} {a : Option Addr} {cap : Nat} {xs : List α} {lo : Nat} (h : Own E e w a cap xs lo) : Rd E w a cap xs := by
  rcases h with ⟨rfl, rfl, rfl⟩ | ⟨b, cur, rfl, _, hb, _, hr, h1, h2⟩
  · exact ⟨by simp, by omega, .inl rfl⟩
  · exact Rd.of_row hb hr h1 h2

theorem Own.of_block {α : Type} {E : Enc α} {e : TypeId} {w w' : World} {a : Option Addr} {cap : Nat} {xs : List α} {lo : Nat} (h : Own E e w a cap xs lo)
    (hs : ∀ A, a = some A → A.block < w.heap.size → w'.heap[A.block]? = w.heap[A.block]?) : Own E e w' a cap xs lo := by
  rcases h with h | ⟨b, cur, rfl, h0, hb, h1⟩
  · exact .inl h
  · exact .inr ⟨b, cur, rfl, h0, (hs _ rfl (Array.getElem?_eq_some_iff.1 hb).1).trans hb, h1⟩

theorem own_some {α : Type} {E : Enc α} {e : TypeId} {w : World} {a : Option Addr} {cap : Nat} {xs : List α} {lo : Nat} (h : Own E e w a cap xs lo) (hn : 0 < xs.length) :
    ∃ b cur, a = some ⟨b, 0, none⟩ ∧ lo ≤ b ∧ b < w.heap.size ∧ w.heap[b]? = some (.cells cur e (0, 0)) ∧ cur.size = cap * E.sz ∧ Row E cur xs ∧ xs.length ≤ cap ∧ cap ≤ 9223372036854775807 := by
  rcases h with ⟨_, _, rfl⟩ | ⟨b, cur, h0, h1, hb, h2⟩
  · simp at hn
  · exact ⟨b, cur, h0, h1, (Array.getElem?_eq_some_iff.1 hb).1, hb, h2⟩

theorem rd_patch {α : Type} {E : Enc α} {w : World} {a : Option Addr} {cap : Nat} {xs : List α} (h : Rd E w a cap xs) (b : Nat) (o : Obj) (hb : ∀ A, a = some A → A.block ≠ b) : Rd E (patch w b o) a cap xs :=
  h.of_block fun A hA hs => ⟨by simpa using hs, patch_other w b o (hb A hA)⟩

theorem rd_patched {α : Type} {E : Enc α} {w : World} {b cap : Nat} {e : TypeId} {cur : Array Value} {xs : List α} (hb : b < w.heap.size) (hr : Row E cur xs) (h1 : xs.length ≤ cap) (h2 : cap ≤ 9223372036854775807) :
    Rd E (patch w b (.cells cur e)) (some ⟨b, 0, none⟩) cap xs := Rd.of_row (patch_at w b _ hb) hr h1 h2

theorem Own.plus {α : Type} {E : Enc α} {e : TypeId} {w : World} {a : Option Addr} {cap : Nat} {xs : List α} {lo : Nat} (h : Own E e w a cap xs lo) (x : Ext) : Own E e (plus w x) a cap xs lo :=
  h.of_block fun A _ hb => plus_block w x hb

theorem Own.alloc {α : Type} {E : Enc α} {e : TypeId} {w : World} {a : Option Addr} {cap : Nat} {xs : List α} {lo : Nat} (h : Own E e w a cap xs lo) (o : Obj) : Own E e (w.alloc o) a cap xs lo := by
  rw [alloc_plus]; exact h.plus _

theorem Own.drew {α : Type} {E : Enc α} {e : TypeId} {w : World} {a : Option Addr} {cap : Nat} {xs : List α} {lo : Nat} (h : Own E e w a cap xs lo) : Own E e w.drew a cap xs lo := by
  rw [drew_is_plus]; exact h.plus _

theorem Own.lower {α : Type} {E : Enc α} {e : TypeId} {w : World} {a : Option Addr} {cap : Nat} {xs : List α} {lo lo' : Nat} (h : Own E e w a cap xs lo) (hl : lo' ≤ lo) : Own E e w a cap xs lo' := by
  rcases h with h | ⟨b, cur, h0, h1, h2⟩
  · exact .inl h
  · exact .inr ⟨b, cur, h0, by omega, h2⟩

theorem Own.new {α : Type} {E : Enc α} {e : TypeId} {w : World} {cap : Nat} {cur : Array Value} {xs : List α} {lo : Nat} (hlo : lo ≤ w.heap.size) (h1 : cur.size = cap * E.sz) (h2 : Row E cur xs) (h3 : xs.length ≤ cap) (h4 : cap ≤ 9223372036854775807) :
    Own E e (w.alloc (.cells cur e)) (some ⟨w.heap.size, 0, none⟩) cap xs lo :=
  .inr ⟨w.heap.size, cur, rfl, hlo, by rw [push_at, if_neg (by omega), if_pos rfl], h1, h2, h3, h4⟩

theorem plus_above (w1 w2 : World) (x : Ext) (hs : w1.heap.size = w2.heap.size) {k : Nat} (hk : w1.heap.size ≤ k) : (plus w2 x).heap[k]? = (plus w1 x).heap[k]? := by
  simp [plus, Array.getElem?_append, show ¬ k < w1.heap.size by omega, show ¬ k < w2.heap.size by omega, hs]

/-- what the call owns stays owned while older blocks turn -/
theorem own_swap {α : Type} {E : Enc α} {e : TypeId} {w1 w2 : World} {x : Ext} {a : Option Addr} {cap : Nat} {xs : List α} {lo : Nat} (h : Own E e (plus w1 x) a cap xs lo)
    (hs : w1.heap.size = w2.heap.size) (hlo : w1.heap.size ≤ lo) : Own E e (plus w2 x) a cap xs lo := by
  rcases h with h | ⟨b, cur, h0, h1, hb, h2⟩
  · exact .inl h
  · exact .inr ⟨b, cur, h0, h1, (plus_above w1 w2 x hs (by omega)).trans hb, h2⟩

theorem Own.newAt {α : Type} {E : Enc α} {e : TypeId} {w : World} {cap : Nat} {cur : Array Value} {xs : List α} {lo b : Nat} (hb : b = w.heap.size) (hlo : lo ≤ b) (h1 : cur.size = cap * E.sz) (h2 : Row E cur xs) (h3 : xs.length ≤ cap) (h4 : cap ≤ 9223372036854775807) :
    Own E e (w.alloc (.cells cur e)) (some ⟨b, 0, none⟩) cap xs lo := by
  subst hb
  exact Own.new hlo h1 h2 h3 h4

/-! ### Pairs -/

structure Pr where
  p : Int
  b : Int
deriving DecidableEq

def encP : Enc Pr where
  sz := 2
  enc p := [.int .i64 p.p, .int .i64 p.b]
  len _ := rfl
  one := by intro x u hu; simp at hu; rcases hu with rfl | rfl <;> rfl

/-- the slice at a reads as the pairs ps -/
def RdP (w : World) (a : Option Addr) (cap : Nat) (ps : List Pr) : Prop := Rd encP w a cap ps

theorem RdP.open {w : World} {a : Option Addr} {cap : Nat} {ps : List Pr} (h : RdP w a cap ps) : ps.length ≤ cap ∧ cap ≤ 9223372036854775807 ∧ (cap = 0 ∨ ∃ b off, a = some ⟨b, off, none⟩ ∧ b < w.heap.size ∧
    ∀ i p, ps[i]? = some p → w.cell? ⟨b, off + i * 2, none⟩ = some (.int .i64 p.p) ∧ w.cell? ⟨b, off + i * 2 + 1, none⟩ = some (.int .i64 p.b)) := by
  obtain ⟨h1, h2, h3⟩ := h
  refine ⟨h1, h2, ?_⟩
  rcases h3 with h3 | ⟨b, off, rfl, hb, hc⟩
  · exact .inl h3
  · refine .inr ⟨b, off, rfl, hb, fun i p hp => ⟨?_, ?_⟩⟩
    · exact hc (i * 2) _ (flat_get encP ps i p hp 0 (by decide))
    · have := hc (i * 2 + 1) _ (flat_get encP ps i p hp 1 (by decide))
      rwa [← Nat.add_assoc] at this

theorem get_some {cur : Array Value} {i : Nat} (h : i < cur.size) : ∃ v, cur[i]? = some v := ⟨cur[i], Array.getElem?_eq_getElem h⟩

theorem row_of {α : Type} (E : Enc α) (cur : Array Value) (xs : List α) (h : ∀ i x, xs[i]? = some x → ∀ j, j < E.sz → cur[i * E.sz + j]? = (E.enc x)[j]?) : Row E cur xs := by
  refine (fun j u hj => ?_ : ∀ (j : Nat) (u : Value), (flat E xs)[j]? = some u → _)
  have hl := (List.getElem?_eq_some_iff.1 hj).1
  rw [flat_len] at hl
  have hpos : 0 < E.sz := by
    rcases Nat.eq_zero_or_pos E.sz with h0 | h0
    · rw [h0] at hl; omega
    · exact h0
  have hi : j / E.sz < xs.length := Nat.div_lt_of_lt_mul (by rw [Nat.mul_comm]; exact hl)
  have hx : xs[j / E.sz]? = some xs[j / E.sz] := List.getElem?_eq_getElem hi
  have hm : j % E.sz < E.sz := Nat.mod_lt _ hpos
  have hj2 : j / E.sz * E.sz + j % E.sz = j := by rw [Nat.mul_comm]; exact Nat.div_add_mod j E.sz
  have h1 := flat_get E xs _ _ hx _ hm
  have h2 := h _ _ hx _ hm
  rw [hj2] at h1 h2
  rw [h2, ← h1, hj]

theorem rowP_of (cur : Array Value) (ps : List Pr) (h : ∀ i p, ps[i]? = some p → cur[i * 2]? = some (.int .i64 p.p) ∧ cur[i * 2 + 1]? = some (.int .i64 p.b)) : Row encP cur ps :=
  row_of encP cur ps fun i p hp j hj => by
    obtain ⟨h1, h2⟩ := h i p hp
    have hj' : j < 2 := hj
    rcases (by omega : j = 0 ∨ j = 1) with rfl | rfl
    · exact h1
    · exact h2

/-- the pairs below k stand in cur -/
def UpTo (cur : Array Value) (ps : List Pr) (k : Nat) : Prop := ∀ i p, ps[i]? = some p → i < k → cur[i * 2]? = some (.int .i64 p.p) ∧ cur[i * 2 + 1]? = some (.int .i64 p.b)

theorem UpTo.zero (cur : Array Value) (ps : List Pr) : UpTo cur ps 0 := fun _ _ _ h => absurd h (by omega)

theorem UpTo.step {cur : Array Value} {ps : List Pr} {k : Nat} {p : Pr} (h : UpTo cur ps k) (hp : ps[k]? = some p) (hk : k * 2 + 1 < cur.size) :
    UpTo ((cur.setIfInBounds (k * 2) (.int .i64 p.p)).setIfInBounds (k * 2 + 1) (.int .i64 p.b)) ps (k + 1) := by
  intro i q hq hi
  by_cases hik : i = k
  · subst hik
    rw [hp] at hq; cases hq
    simp only [Array.getElem?_setIfInBounds, Array.size_setIfInBounds]
    refine ⟨?_, ?_⟩
    · rw [if_neg (by omega), if_pos trivial, if_pos (by omega)]
    · rw [if_pos trivial, if_pos hk]
  · obtain ⟨h1, h2⟩ := h i q hq (by omega)
    simp only [Array.getElem?_setIfInBounds, Array.size_setIfInBounds]
    refine ⟨?_, ?_⟩
    · rw [if_neg (by omega), if_neg (by omega)]; exact h1
    · rw [if_neg (by omega), if_neg (by omega)]; exact h2

theorem UpTo.row {cur : Array Value} {ps : List Pr} (h : UpTo cur ps ps.length) : Row encP cur ps :=
  rowP_of cur ps fun i p hp => h i p hp (List.getElem?_eq_some_iff.1 hp).1

end Go.Proofs.Ytbedikodiboofaa
