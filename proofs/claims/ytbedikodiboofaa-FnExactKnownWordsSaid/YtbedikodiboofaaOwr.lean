/- Own slices that grow by append: the kit's law on rows, in the words of Own. -/
import Derived.Test.YtbedikodiboofaaFin
namespace Go.Proofs.Ytbedikodiboofaa
open Go.RowKit
set_option linter.unusedVariables false
set_option linter.unusedSimpArgs false

theorem row_take {α : Type} {E : Enc α} {cur : Array Value} {xs : List α} (h : Row E cur xs) : cur.toList.take (xs.length * E.sz) = flat E xs := by
  apply List.ext_getElem?
  intro j
  have hl := flat_len E xs
  by_cases hj : j < xs.length * E.sz
  · rw [List.getElem?_take, if_pos hj]
    have : (flat E xs)[j]? = some ((flat E xs)[j]'(by omega)) := List.getElem?_eq_getElem (by omega)
    rw [this]
    have := h j _ this
    simpa using this
  · rw [List.getElem?_take, if_neg hj, List.getElem?_eq_none (by omega)]

theorem take_row {α : Type} {E : Enc α} {cur : Array Value} {xs : List α} {n : Nat} (h : cur.toList.take n = flat E xs) : Row E cur xs := by
  refine (fun j u hj => ?_ : ∀ (j : Nat) (u : Value), (flat E xs)[j]? = some u → _)
  rw [← h, List.getElem?_take] at hj
  split at hj
  · simpa using hj
  · cases hj

theorem own_to {α : Type} {E : Enc α} {e : TypeId} {w : World} {a : Option Addr} {cap : Nat} {xs : List α} {lo : Nat} (h : Own E e w a cap xs lo) : w.ownsRow lo e E.sz (.slice a xs.length cap) xs.length (flat E xs) := by
  refine ⟨flat_len E xs, ?_⟩
  rcases h with ⟨rfl, rfl, rfl⟩ | ⟨b, cur, rfl, h1, hb, hs, hr, hl, hm⟩
  · exact .inl ⟨rfl, rfl⟩
  · exact .inr ⟨b, cap, cur, rfl, h1, hb, hl, by simpa [maxLen] using hm, hs, row_take hr⟩

theorem own_of {α : Type} {E : Enc α} {e : TypeId} {w : World} {v : Value} {xs : List α} {lo : Nat} (h : w.ownsRow lo e E.sz v xs.length (flat E xs)) : ∃ a cap, v = .slice a xs.length cap ∧ Own E e w a cap xs lo := by
  obtain ⟨_, h2⟩ := h
  rcases h2 with ⟨rfl, h0⟩ | ⟨g, cap, cur, rfl, h1, hb, hl, hm, hs, ht⟩
  · obtain rfl : xs = [] := List.eq_nil_of_length_eq_zero h0
    exact ⟨none, 0, rfl, .inl ⟨rfl, rfl, rfl⟩⟩
  · exact ⟨some ⟨g, 0, none⟩, cap, rfl, .inr ⟨g, cur, rfl, h1, hb, hs, take_row ht, hl, by simpa [maxLen] using hm⟩⟩

/-- below B nothing has turned, and no block but a's has -/
structure Grew (a : Option Addr) (w w' : World) : Prop where
  os : w'.os = w.os
  tape : w'.tape = w.tape
  output : w'.output = w.output
  size : w.heap.size ≤ w'.heap.size
  block : ∀ k, k < w.heap.size → (∀ A, a = some A → A.block ≠ k) → w'.heap[k]? = w.heap[k]?

theorem Grew.below {a : Option Addr} {w w' : World} (h : Grew a w w') {B : Nat} (hB : B ≤ w.heap.size) (ha : ∀ A, a = some A → B ≤ A.block) : Below B w w' :=
  ⟨h.os, h.tape, h.output, h.size, fun k hk => h.block k (by omega) fun A hA e => by have := ha A hA; omega⟩

section
variable {P : Program} {ops : Array Oper} {rest : List Oper} {o : Oper} {a : Act} {w : World} {Q : Exit → Act → World → Prop}

/-- append of elements that lie in memory onto an own slice -/
theorem wpList_append_more {α : Type} (E : Enc α) (s x : Operand) (t e : TypeId) (i : TypeInfo) (z : Value) (bytes : Nat) (hgd : o.guard = none)
    (ho : o.op = .call { callee := .builtin .append, args := #[s, x], argTypes := #[t, t] }) (ht : P.underlying t = some (.slice e)) (hi : P.info? e = some i) (hz : i.zero = some z) (hsz : i.size = E.sz) (hby : i.bytes = bytes)
    (hzs : z.cells.size = E.sz) (hpos : 0 < E.sz) (xs : List α) (A : Option Addr) (cap : Nat) (lo : Nat) (hown : Own E e w A cap xs lo) (hs : a.eval s = .slice A xs.length cap)
    (ys : List α) (b off c : Nat) (hr : ∀ j u, (flat E ys)[j]? = some u → w.cell? ⟨b, off + j, none⟩ = some u) (hx : a.eval x = .slice (some ⟨b, off, none⟩) ys.length c)
    (h63 : xs.length + ys.length ≤ 140737488355328) (hbd : (xs.length + ys.length) * bytes ≤ 140737488355328) (hlo : lo ≤ w.heap.size)
    (h : ∀ (A' : Option Addr) (c' : Nat) (w' : World), Own E e w' A' c' (xs ++ ys) lo → Grew A w w' → wpList P ops Q rest (a.put o.dst (.slice A' (xs ++ ys).length c')) w') :
    wpList P ops Q (o :: rest) a w := by
  refine wpList_append_own (P := P) w hgd s x t ho lo e i z E.sz bytes ht hi hz hsz hby hzs hpos _ xs.length (flat E xs) hs (own_to hown) ⟨b, off, none⟩ ys.length c (flat E ys) hx (flat_len E ys)
    (fun j u hj => by rw [Addr.add_lit]; exact hr j u hj) (flat_one E ys) (by simp [maxLen]; omega) hbd hlo ?_
  intro v' w' h1 h2 _
  rw [← flat_append, ← List.length_append] at h1
  obtain ⟨A', c', rfl, hown'⟩ := own_of h1
  refine h A' c' w' hown' ⟨h2.os, h2.tape, h2.output, h2.size, fun k hk hA => h2.block k hk fun he => ?_⟩
  cases A with
  | none => simp [Value.ownBlock] at he
  | some d => simp [Value.ownBlock] at he; exact hA d rfl he.symm

end
end Go.Proofs.Ytbedikodiboofaa
