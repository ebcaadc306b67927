/- append of whatever yields elements (a string's bytes, a slice's) onto an own slice: with where the new slice lies. -/
import Derived.Test.YtkpmaifdeeecjaaGc
import Derived.Test.YtkpmaifdeeecjaaGa
import Derived.Test.YtkpmaifdeeecjaaGd
import Derived.Deep.AppendSrc
namespace Go.Proofs.Ytkpmaifdeeecjaa
open Go.RowKit
set_option linter.unusedVariables false
set_option linter.unusedSimpArgs false

/-- cells written one after the other -/
def putL (cur : Array Value) : Nat → List Value → Array Value
  | _, [] => cur
  | o, v :: r => putL (cur.setIfInBounds o v) (o + 1) r

theorem putL_size : ∀ (vs : List Value) (o : Nat) (cur : Array Value), (putL cur o vs).size = cur.size
  | [], _, _ => rfl
  | v :: r, o, cur => by
    show (putL (cur.setIfInBounds o v) (o + 1) r).size = _
    rw [putL_size r]; simp

theorem putL_out : ∀ (vs : List Value) (o : Nat) (cur : Array Value) (j : Nat), j < o → (putL cur o vs)[j]? = cur[j]?
  | [], _, _, _, _ => rfl
  | v :: r, o, cur, j, h => by
    show (putL (cur.setIfInBounds o v) (o + 1) r)[j]? = _
    rw [putL_out r (o + 1) _ j (by omega), Array.getElem?_setIfInBounds, if_neg (by omega)]

theorem putL_in : ∀ (vs : List Value) (o : Nat) (cur : Array Value) (j : Nat) (u : Value), vs[j]? = some u → o + vs.length ≤ cur.size → (putL cur o vs)[o + j]? = some u
  | [], _, _, _, _, h, _ => by simp at h
  | v :: r, o, cur, 0, u, h, hs => by
    simp at h hs
    show (putL (cur.setIfInBounds o v) (o + 1) r)[o + 0]? = _
    rw [putL_out r (o + 1) _ _ (by omega), Array.getElem?_setIfInBounds]
    subst h
    rw [if_pos (by omega), if_pos (by omega)]
  | v :: r, o, cur, j + 1, u, h, hs => by
    simp at h hs
    have := putL_in r (o + 1) (cur.setIfInBounds o v) j u h (by simp; omega)
    show (putL (cur.setIfInBounds o v) (o + 1) r)[o + (j + 1)]? = _
    rw [show o + (j + 1) = o + 1 + j by omega]
    exact this

theorem setCells_patch {b : Nat} {e : TypeId} {fz : Nat × Nat} : ∀ (vs : List Value) (o : Nat) (w : World) (cur : Array Value), w.heap[b]? = some (.cells cur e fz) → w.setCells b o vs = patch w b (.cells (putL cur o vs) e fz)
  | [], o, w, cur, h => (patch_self w b _ h).symm
  | v :: r, o, w, cur, h => by
    show (w.setCell ⟨b, o, none⟩ v).setCells b (o + 1) r = _
    rw [setCell_patch h, setCells_patch r (o + 1) _ _ (patch_at w b _ (Array.getElem?_eq_some_iff.1 h).1), patch_patch]
    rfl

theorem run_append_any {P : Program} {w : World} {α : Type} (E : Enc α) (t tx ty e : TypeId) (i : TypeInfo) (z : Value) (bytes : Nat) (ht : P.underlying t = some (.slice e)) (hi : P.info? e = some i) (hz : i.zero = some z) (hsz : i.size = E.sz) (hby : i.bytes = bytes)
    (hzs : z.cells.size = E.sz) (xs : List α) (A : Option Addr) (cap lo : Nat) (hown : Own E e w A cap xs lo) (x : Value) (ys : List α) (hs : Src P E.sz tx x ys.length (flat E ys) w)
    (h63 : xs.length + ys.length ≤ 140737488355328) (hbd : (xs.length + ys.length) * bytes ≤ 140737488355328) (hlo : lo ≤ w.heap.size) :
    ∃ A' c' w', (Builtin.append_ #[t, tx] ty #[.slice A xs.length cap, x]).run P w = .ok (.slice A' (xs ++ ys).length c') w' ∧ Own E e w' A' c' (xs ++ ys) lo ∧ Grew A w w' ∧ Nxt A A' w.heap.size := by
  have hfl : flat E (xs ++ ys) = flat E xs ++ flat E ys := by simp [flat]
  have hlx := flat_len E xs
  have hly := flat_len E ys
  by_cases hfit : xs.length + ys.length ≤ cap
  · rcases hown with ⟨rfl, rfl, rfl⟩ | ⟨b, cur, rfl, h0, hb, hcs, hr, h1, h2⟩
    · obtain rfl : ys = [] := List.eq_nil_of_length_eq_zero (by have h9 : ([] : List α).length = 0 := rfl; omega)
      refine ⟨none, 0, w, ?_, .inl ⟨rfl, rfl, rfl⟩, grew_refl _ _, fun X hX => by cases hX⟩
      have hf : (Builtin.firstCells i.size 0 x).run P w = .ok #[] w := by
        have := hs.cells
        rw [hsz]
        simpa [flat] using this
      rcases hs.kind with ⟨e', hk⟩ | hk <;> simp [Builtin.append_, run_underlying ht, run_underlying hk, sizeOf, typeInfo, hi, hs.len, hf, storeCells]
      all_goals
        have hl := hs.len
        simp at hl
        simp [hl, hf, storeCells]
    · have hbs := (Array.getElem?_eq_some_iff.1 hb).1
      have hend : xs.length * E.sz + (flat E ys).length ≤ cur.size := by rw [hly, hcs, ← Nat.add_mul]; exact Nat.mul_le_mul_right _ hfit
      have hrun := run_append_room_src (P := P) w t tx ty e i ht hi b 0 xs.length cap x ys.length (flat E ys) (by rw [hsz]; exact hs) hfit
        (fun j hj => by rw [cell_of hb, hsz, Array.getElem?_eq_getElem (by omega)]; rfl) (fun j hj => free_of hb _)
      rw [hsz, Nat.zero_add, setCells_patch _ _ _ _ hb] at hrun
      refine ⟨some ⟨b, 0, none⟩, cap, _, by rw [List.length_append]; exact hrun, .inr ⟨b, _, rfl, h0, patch_at _ _ _ hbs, by rw [putL_size]; exact hcs, ?_, by rw [List.length_append]; exact hfit, h2⟩, ⟨rfl, rfl, rfl, by simp, fun k hk hA => patch_other _ _ _ (fun e => hA _ rfl e.symm)⟩, fun X hX => .inl ⟨_, rfl, by cases hX; rfl⟩⟩
      refine (fun j u hj => ?_ : ∀ (j : Nat) (u : Value), (flat E (xs ++ ys))[j]? = some u → _)
      rw [hfl, List.getElem?_append, hlx] at hj
      split at hj
      · rw [putL_out _ _ _ _ (by assumption)]; exact hr j u hj
      · have := putL_in (flat E ys) (xs.length * E.sz) cur _ u hj hend
        rwa [show xs.length * E.sz + (j - xs.length * E.sz) = j by omega] at this
  · have hold : (Builtin.firstCells i.size xs.length (.slice A xs.length cap)).run P w.drew = .ok (flat E xs).toArray w.drew := by
      rcases hown with ⟨rfl, rfl, rfl⟩ | ⟨b, cur, rfl, h0, hb, hcs, hr, h1, h2⟩
      · exact run_firstCells_none (P := P) w.drew i.size 0 0 0
      · exact run_firstCells_some (P := P) w.drew i.size xs.length ⟨b, 0, none⟩ xs.length cap (flat E xs) (by rw [hsz]; exact hlx) (fun j v hj => by
          rw [Addr.add_lit, Nat.zero_add]
          exact (cell_of (w := w.drew) hb j).trans (hr j v hj))
    have hcb : cap ≤ xs.length + ys.length := by omega
    have hnx : Builtin.nextslicecap (xs.length + ys.length) cap * i.bytes ≤ 281474976710656 := by
      have : Builtin.nextslicecap (xs.length + ys.length) cap ≤ 2 * (xs.length + ys.length) := by
        exact nextslicecap_le (by omega)
      rw [hby]
      calc _ ≤ 2 * (xs.length + ys.length) * bytes := Nat.mul_le_mul_right _ this
        _ = 2 * ((xs.length + ys.length) * bytes) := by rw [Nat.mul_assoc]
        _ ≤ _ := by omega
    have hrun := run_append_grow_src (P := P) w t tx ty e i z ht hi hz A xs.length cap (flat E xs) hold x ys.length (flat E ys) (by rw [hsz]; exact hs) (by omega) (by omega) hnx
    have hge := grownCap_ge w (xs.length + ys.length) cap e
    have hle := grownCap_le_maxLen w (xs.length + ys.length) cap e (by simp [maxLen]; omega)
    refine ⟨some ⟨w.heap.size, 0, none⟩, grownCap w (xs.length + ys.length) cap e, w.drew.alloc (.cells ((flat E xs ++ flat E ys).toArray ++ Builtin.zeroCells z.cells (grownCap w (xs.length + ys.length) cap e - (xs.length + ys.length))) e), by rw [List.length_append]; exact hrun, .inr ⟨w.heap.size, _, rfl, hlo, by show (w.drew.alloc _).heap[w.drew.heap.size]? = _; rw [push_at, if_neg (by omega), if_pos rfl], ?_, ?_, by rw [List.length_append]; omega, by simpa [maxLen] using hle⟩, ⟨rfl, rfl, rfl, by simp, fun k hk _ => by show (w.drew.alloc _).heap[k]? = _; rw [push_at, if_pos (show k < w.drew.heap.size from hk)]; rfl⟩, fun X hX => .inr (by cases hX; rfl)⟩
    · have hm : (grownCap w (xs.length + ys.length) cap e) * E.sz = (xs.length + ys.length) * E.sz + (grownCap w (xs.length + ys.length) cap e - (xs.length + ys.length)) * E.sz := by
        rw [← Nat.add_mul]; congr 1; omega
      rw [Array.size_append, size_zeroCells, hzs, hm]
      simp [hlx, hly, Nat.add_mul]
    · refine (fun j u hj => ?_ : ∀ (j : Nat) (u : Value), (flat E (xs ++ ys))[j]? = some u → _)
      have hjl := (List.getElem?_eq_some_iff.1 hj).1
      rw [hfl] at hj hjl
      rw [Array.getElem?_append_left (by simpa using hjl)]
      simpa using hj

/-- a string's bytes, as elements -/
theorem src_string {P : Program} {tx : TypeId} {w : World} (hk : P.underlying tx = some .string) (s : ByteArray) : Src P encB.sz tx (.string s) s.data.toList.length (flat encB s.data.toList) w := by
  have h := Src.ofString (P := P) w hk s
  have e1 : s.data.toList.length = s.size := by simp
  have e2 : flat encB s.data.toList = byteCells s := by rw [flatB]; unfold byteCells; rw [List.map_map]; rfl
  rw [e1, e2]
  exact h

/-- append of a string's bytes onto an own slice of bytes -/
theorem wpList_append_str {P : Program} {ops : Array Oper} {rest : List Oper} {o : Oper} {a : Act} {w : World} {Q : Exit → Act → World → Prop} (s x : Operand) (t tx e : TypeId) (i : TypeInfo) (hgd : o.guard = none)
    (ho : o.op = .call { callee := .builtin .append, args := #[s, x], argTypes := #[t, tx] }) (ht : P.underlying t = some (.slice e)) (hk : P.underlying tx = some .string) (hi : P.info? e = some i) (hz : i.zero = some (.int .u8 0)) (hsz : i.size = 1) (hby : i.bytes = 1)
    (xs : List UInt8) (A : Option Addr) (cap : Nat) (lo : Nat) (hown : Own encB e w A cap xs lo) (hs : a.eval s = .slice A xs.length cap) (y : ByteArray) (hx : a.eval x = .string y)
    (h63 : xs.length + y.size ≤ 140737488355328) (hlo : lo ≤ w.heap.size)
    (h : ∀ (A' : Option Addr) (c' : Nat) (w' : World), Own encB e w' A' c' (xs ++ y.data.toList) lo → Grew A w w' → Nxt A A' w.heap.size → wpList P ops Q rest (a.put o.dst (.slice A' (xs ++ y.data.toList).length c')) w') :
    wpList P ops Q (o :: rest) a w := by
  refine wpList_plain hgd fun K hK => ?_
  have hl : y.data.toList.length = y.size := by simp
  obtain ⟨A', c', w', hrun, h1, h2, h3⟩ := run_append_any (P := P) (w := w) encB t tx o.type e i _ 1 ht hi hz hsz hby rfl xs A cap lo hown (.string y) y.data.toList (src_string hk y) (by omega) (by omega) hlo
  unfold Oper.wp execOp
  simp only [ho, resolve, invoke, builtin, Sem.run_bind, Sem.run_pure, Result.andThen_ok, List.map_toArray, List.map_cons, List.map_nil, hs, hx, hrun]
  exact hK _ _ (h A' c' w' h1 h2 h3)

end Go.Proofs.Ytkpmaifdeeecjaa
