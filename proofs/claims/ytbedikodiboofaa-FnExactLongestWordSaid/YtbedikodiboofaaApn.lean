/- append onto an own slice: the new one lies where the old one lay, or in a new block. -/
import Derived.Test.YtbedikodiboofaaOwr
import Derived.Maps.AppendAt
namespace Go.Proofs.Ytbedikodiboofaa
open Go.RowKit
set_option linter.unusedVariables false
set_option linter.unusedSimpArgs false

/-- block k is not that of a -/
def Off (a : Option Addr) (k : Nat) : Prop := ∀ A, a = some A → A.block ≠ k

/-- A' lies where A lay, or in block n -/
def Nxt (A A' : Option Addr) (n : Nat) : Prop := ∀ X, A' = some X → (∃ Y, A = some Y ∧ Y.block = X.block) ∨ X.block = n

theorem Nxt.off {A A' : Option Addr} {n k : Nat} (h : Nxt A A' n) (h1 : Off A k) (h2 : k ≠ n) : Off A' k := fun X hX e => by
  rcases h X hX with ⟨Y, hY, he⟩ | he
  · exact h1 Y hY (by omega)
  · omega

theorem new_cells {α : Type} (E : Enc α) (y : α) {e : TypeId} (W : World) (b : Nat) (hb : b = W.heap.size) : ∀ (j : Nat) (u : Value), (flat E [y])[j]? = some u → (W.alloc (.cells (E.enc y).toArray e)).cell? ⟨b, 0 + j, none⟩ = some u := by
  intro j u hj
  subst hb
  have e1 : flat E [y] = E.enc y := by simp [flat]
  rw [e1] at hj
  rw [alloc_cell, if_neg (by omega), if_pos rfl, Nat.zero_add]
  simpa using hj

theorem own_nxt {α : Type} {E : Enc α} {e : TypeId} {w : World} {v : Value} {A' : Option Addr} {c' n k : Nat} {A : Option Addr} {len cap : Nat} {xs : List α} {lo : Nat} (h : (Value.slice A' k c').ownBlock = (Value.slice A len cap).ownBlock ∨ (Value.slice A' k c').ownBlock = some n) : Nxt A A' n := by
  intro X hX
  subst hX
  rcases h with h | h
  · cases A with
    | none => simp [Value.ownBlock] at h
    | some d => simp [Value.ownBlock] at h; exact .inl ⟨d, rfl, h.symm⟩
  · simp [Value.ownBlock] at h
    exact .inr h

/-- append of elements that lie in memory onto an own slice: one operation -/
theorem oper_append_at {P : Program} {o : Oper} {a : Act} {w : World} {K : Act → World → Prop} {Q : Exit → Act → World → Prop} {α : Type} (E : Enc α) (s x : Operand) (t e : TypeId) (i : TypeInfo) (z : Value) (bytes : Nat)
    (ho : o.op = .call { callee := .builtin .append, args := #[s, x], argTypes := #[t, t] }) (ht : P.underlying t = some (.slice e)) (hi : P.info? e = some i) (hz : i.zero = some z) (hsz : i.size = E.sz) (hby : i.bytes = bytes)
    (hzs : z.cells.size = E.sz) (hpos : 0 < E.sz) (xs : List α) (A : Option Addr) (cap : Nat) (lo : Nat) (hown : Own E e w A cap xs lo) (hs : a.eval s = .slice A xs.length cap)
    (ys : List α) (b off c : Nat) (hr : ∀ j u, (flat E ys)[j]? = some u → w.cell? ⟨b, off + j, none⟩ = some u) (hx : a.eval x = .slice (some ⟨b, off, none⟩) ys.length c)
    (h63 : xs.length + ys.length ≤ 140737488355328) (hbd : (xs.length + ys.length) * bytes ≤ 140737488355328) (hlo : lo ≤ w.heap.size)
    (h : ∀ (A' : Option Addr) (c' : Nat) (w' : World), Own E e w' A' c' (xs ++ ys) lo → Grew A w w' → Nxt A A' w.heap.size → K (a.put o.dst (.slice A' (xs ++ ys).length c')) w') :
    o.wp P a w K Q := by
  obtain ⟨v', w', hrun, h1, h2, _, h5⟩ := run_append_own_at (P := P) w lo t o.type e i z E.sz bytes ht hi hz hsz hby hzs hpos _ xs.length (flat E xs) (own_to hown) ⟨b, off, none⟩ ys.length c (flat E ys) (flat_len E ys)
    (fun j u hj => by rw [Addr.add_lit]; exact hr j u hj) (flat_one E ys) (by simp [maxLen]; omega) hbd hlo
  rw [← flat_append, ← List.length_append] at h1
  obtain ⟨A', c', rfl, hown'⟩ := own_of h1
  unfold Oper.wp execOp
  simp only [ho, resolve, invoke, builtin, Sem.run_bind, Sem.run_pure, Result.andThen_ok, List.map_toArray, List.map_cons, List.map_nil, hs, hx, hrun]
  refine h A' c' w' hown' ⟨h2.os, h2.tape, h2.output, h2.size, fun k hk hA => h2.block k hk fun he => ?_⟩ (own_nxt (E := E) (e := e) (w := w) (v := z) (xs := xs) (lo := lo) h5)
  cases A with
  | none => simp [Value.ownBlock] at he
  | some d => simp [Value.ownBlock] at he; exact hA d rfl he.symm

/-- append of elements that lie in memory onto an own slice -/
theorem wpList_append_at {P : Program} {ops : Array Oper} {rest : List Oper} {o : Oper} {a : Act} {w : World} {Q : Exit → Act → World → Prop} {α : Type} (E : Enc α) (s x : Operand) (t e : TypeId) (i : TypeInfo) (z : Value) (bytes : Nat) (hgd : o.guard = none)
    (ho : o.op = .call { callee := .builtin .append, args := #[s, x], argTypes := #[t, t] }) (ht : P.underlying t = some (.slice e)) (hi : P.info? e = some i) (hz : i.zero = some z) (hsz : i.size = E.sz) (hby : i.bytes = bytes)
    (hzs : z.cells.size = E.sz) (hpos : 0 < E.sz) (xs : List α) (A : Option Addr) (cap : Nat) (lo : Nat) (hown : Own E e w A cap xs lo) (hs : a.eval s = .slice A xs.length cap)
    (ys : List α) (b off c : Nat) (hr : ∀ j u, (flat E ys)[j]? = some u → w.cell? ⟨b, off + j, none⟩ = some u) (hx : a.eval x = .slice (some ⟨b, off, none⟩) ys.length c)
    (h63 : xs.length + ys.length ≤ 140737488355328) (hbd : (xs.length + ys.length) * bytes ≤ 140737488355328) (hlo : lo ≤ w.heap.size)
    (h : ∀ (A' : Option Addr) (c' : Nat) (w' : World), Own E e w' A' c' (xs ++ ys) lo → Grew A w w' → Nxt A A' w.heap.size → wpList P ops Q rest (a.put o.dst (.slice A' (xs ++ ys).length c')) w') :
    wpList P ops Q (o :: rest) a w := by
  refine wpList_plain hgd fun K hK => ?_
  exact oper_append_at E s x t e i z bytes ho ht hi hz hsz hby hzs hpos xs A cap lo hown hs ys b off c hr hx h63 hbd hlo fun A' c' w' h1 h2 h3 => hK _ _ (h A' c' w' h1 h2 h3)

/-- what lay outside a's block reads as it did: a rule for the walk -/
theorem grew_rule_off {A : Option Addr} {w w' : World} (h : Grew A w w') {n : Nat} (hn : n < w.heap.size) (ho : Off A n) (i : Nat) : w'.cell? ⟨n, i, none⟩ = w.cell? ⟨n, i, none⟩ :=
  World.cell?_of_block (a := ⟨n, i, none⟩) (h.block n hn fun a ha e => ho a ha e)

theorem grew_plus {A : Option Addr} {w w' : World} (h : Grew A w w') (x : Ext) : Grew A w (plus w' x) :=
  ⟨h.os, h.tape, h.output, by have := h.size; simp; omega, fun k hk ha => by rw [plus_block _ _ (by have := h.size; omega)]; exact h.block k hk ha⟩

theorem grew_alloc {A : Option Addr} {w w' : World} (h : Grew A w w') (o : Obj) : Grew A w (w'.alloc o) := by rw [alloc_plus]; exact grew_plus h _

theorem grew_drew {A : Option Addr} {w w' : World} (h : Grew A w w') : Grew A w w'.drew := by rw [drew_is_plus]; exact grew_plus h _

theorem grew_refl (A : Option Addr) (w : World) : Grew A w w := ⟨rfl, rfl, rfl, Nat.le_refl _, fun _ _ _ => rfl⟩

theorem grew_trans {A : Option Addr} {w w' w'' : World} (h : Grew A w w') (k : Grew A w' w'') : Grew A w w'' :=
  ⟨k.os.trans h.os, k.tape.trans h.tape, k.output.trans h.output, by have := h.size; have := k.size; omega, fun j hj ha => (k.block j (by have := h.size; omega) ha).trans (h.block j hj ha)⟩

theorem setCell_patch {w : World} {b : Nat} {cur : Array Value} {e : TypeId} {fz : Nat × Nat} (h : w.heap[b]? = some (.cells cur e fz)) (i : Nat) (v : Value) : w.setCell ⟨b, i, none⟩ v = patch w b (.cells (cur.setIfInBounds i v) e fz) := by
  refine world_ext (fun k => ?_) rfl rfl rfl rfl
  rw [setCell_at, patch_heap]
  by_cases hk : k = b
  · subst hk
    rw [if_pos rfl, if_pos rfl, if_pos (Array.getElem?_eq_some_iff.1 h).1, h]
    rfl
  · rw [if_neg hk, if_neg (fun e => hk e.symm)]

end Go.Proofs.Ytbedikodiboofaa
