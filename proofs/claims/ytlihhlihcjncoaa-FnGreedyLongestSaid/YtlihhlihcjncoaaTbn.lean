/- A tree and a slice beside it: what the calls on the tree leave of both. -/
import Derived.Test.YtlihhlihcjncoaaGe
import Derived.Test.YtlihhlihcjncoaaGd

namespace Go.Proofs.Ytlihhlihcjncoaa
open Go.RowKit
set_option linter.unusedVariables false
set_option linter.unusedSimpArgs false

/-- a tree from block lo on, a slice of the call's own beside it, and blocks that neither holds -/
def TB {α : Type} (E : Enc α) (e : TypeId) (av : List Nat) (w : World) (t lo : Nat) (o l m : Int) (ps : List Pr) (base last : Int) (A : Option Addr) (cap : Nat) (xs : List α) : Prop :=
  ∃ pa pc na nc qa qc N pn, Tk w t pa pc na nc qa qc o l m ps base last N pn ∧ lo ≤ t ∧ Lo pa lo ∧ Lo na lo ∧ Lo qa lo ∧ Own E e w A cap xs lo ∧
    (∀ X, A = some X → X.block ≠ t ∧ Off pa X.block ∧ Off na X.block ∧ Off qa X.block) ∧ ∀ k, k ∈ av → k < w.heap.size ∧ k ≠ t ∧ Off pa k ∧ Off na k ∧ Off qa k ∧ Off A k

theorem Within.off {a a' : Option Addr} {n k : Nat} (h : Within a a' n) (ho : Off a k) (hk : k < n) : Off a' k := fun X hX e => by
  rcases h X hX with ⟨Y, hY, he⟩ | he
  · exact ho Y hY (by omega)
  · omega

/-- what a call on the tree leaves -/
def TBR {α : Type} (E : Enc α) (e : TypeId) (av : List Nat) (w : World) (t lo : Nat) (o l m : Int) (ps : List Pr) (base last : Int) (A : Option Addr) (cap : Nat) (xs : List α) (en : Ending) (w' : World) : Prop :=
  en = .returned (.tuple #[]) ∧ TB E e av w' t lo o l m ps base last A cap xs ∧ Below lo w w' ∧ w.heap.size ≤ w'.heap.size ∧ ∀ k, k ∈ av → w'.heap[k]? = w.heap[k]?

section
variable {α : Type} {E : Enc α} {e : TypeId} {av : List Nat} {w w' : World} {t lo : Nat} {o l m : Int} {ps ps' : List Pr} {base last last' : Int} {A : Option Addr} {cap : Nat} {xs : List α}

theorem TB.plus (h : TB E e av w t lo o l m ps base last A cap xs) (x : Ext) : TB E e av (Go.Proofs.Ytlihhlihcjncoaa.plus w x) t lo o l m ps base last A cap xs := by
  obtain ⟨pa, pc, na, nc, qa, qc, N, pn, h1, h2, h3, h4, h5, h6, h7, h8⟩ := h
  refine ⟨pa, pc, na, nc, qa, qc, N, pn, h1.plus x, h2, h3, h4, h5, h6.plus x, h7, fun k hk => ?_⟩
  obtain ⟨a1, a2⟩ := h8 k hk
  exact ⟨by rw [plus_size]; omega, a2⟩

theorem TB.alloc (h : TB E e av w t lo o l m ps base last A cap xs) (ob : Obj) : TB E e av (w.alloc ob) t lo o l m ps base last A cap xs := by rw [alloc_plus]; exact h.plus _

theorem TB.drew (h : TB E e av w t lo o l m ps base last A cap xs) : TB E e av w.drew t lo o l m ps base last A cap xs := by rw [drew_is_plus]; exact h.plus _

theorem tb_seq {x y : Ext} (h : TB E e av (Go.Proofs.Ytlihhlihcjncoaa.plus w x) t lo o l m ps base last A cap xs) : TB E e av (Go.Proofs.Ytlihhlihcjncoaa.plus w (x.seq y)) t lo o l m ps base last A cap xs := by rw [← plus_plus]; exact h.plus y

theorem tb_draw {x : Ext} {n : Nat} (h : TB E e av (Go.Proofs.Ytlihhlihcjncoaa.plus w x) t lo o l m ps base last A cap xs) : TB E e av (Go.Proofs.Ytlihhlihcjncoaa.plus w (x.draw n)) t lo o l m ps base last A cap xs :=
  TB.plus (w := Go.Proofs.Ytlihhlihcjncoaa.plus w x) h ⟨#[], (x.draw n).d⟩ |> fun h2 => by rw [plus_plus] at h2; simpa [Ext.seq, Ext.draw] using h2

/-- what is known, as it lies in the tree's block -/
theorem TB.known (h : TB E e av w t lo o l m ps base last A cap xs) : ∃ pa pc, (t < w.heap.size ∧ lo ≤ t ∧ w.cell? ⟨t, 0, none⟩ = some (.int .i64 o) ∧ w.cell? ⟨t, 1, none⟩ = some (.int .i64 l) ∧ w.cell? ⟨t, 2, none⟩ = some (.int .i64 m) ∧
    w.cell? ⟨t, 3, none⟩ = some (.slice pa ps.length pc) ∧ w.cell? ⟨t, 4, none⟩ = some (.int .i64 base) ∧ w.cell? ⟨t, 5, none⟩ = some (.int .i64 last)) ∧ RdP w pa pc ps ∧ sv o l m = true ∧ ps.length ≤ 2000 := by
  obtain ⟨pa, pc, na, nc, qa, qc, N, pn, h1, h2, _⟩ := h
  obtain ⟨ht, c0, c1, c2, c3, c4, c5, c6, c7⟩ := h1.at'.cells
  exact ⟨pa, pc, ⟨ht, h2, c0, c1, c2, c3, c4, c5⟩, h1.at'.op.rd, h1.s, h1.len⟩

theorem TB.lower {lo' : Nat} (h : TB E e av w t lo o l m ps base last A cap xs) (hl : lo' ≤ lo) : TB E e av w t lo' o l m ps base last A cap xs := by
  obtain ⟨pa, pc, na, nc, qa, qc, N, pn, h1, h2, h3, h4, h5, h6, h7, h8⟩ := h
  exact ⟨pa, pc, na, nc, qa, qc, N, pn, h1, by omega, fun X hX => by have := h3 X hX; omega, fun X hX => by have := h4 X hX; omega, fun X hX => by have := h5 X hX; omega, h6.lower hl, h7, h8⟩

theorem TB.own (h : TB E e av w t lo o l m ps base last A cap xs) : Own E e w A cap xs lo := by
  obtain ⟨pa, pc, na, nc, qa, qc, N, pn, h1, h2, h3, h4, h5, h6, h7, h8⟩ := h
  exact h6

theorem TB.span (h : TB E e av w t lo o l m ps base last A cap xs) : lo ≤ t ∧ t < w.heap.size := by
  obtain ⟨_, _, ⟨h1, h2, _⟩, _⟩ := h.known
  exact ⟨h2, h1⟩

theorem TB.av' (h : TB E e av w t lo o l m ps base last A cap xs) {k : Nat} (hk : k ∈ av) : k < w.heap.size ∧ k ≠ t ∧ Off A k := by
  obtain ⟨pa, pc, na, nc, qa, qc, N, pn, h1, h2, h3, h4, h5, h6, h7, h8⟩ := h
  obtain ⟨a1, a2, _, _, _, a6⟩ := h8 k hk
  exact ⟨a1, a2, a6⟩

theorem tb_learned {pa : Option Addr} {pc : Nat} {na : Option Addr} {nc : Nat} {qa : Option Addr} {qc : Nat} {N : List Nd} {pn : List Int} (h1 : Tk w t pa pc na nc qa qc o l m ps base last N pn) (h2 : lo ≤ t) (h3 : Lo pa lo) (h4 : Lo na lo) (h5 : Lo qa lo) (h6 : Own E e w A cap xs lo)
    (h7 : ∀ X, A = some X → X.block ≠ t ∧ Off pa X.block ∧ Off na X.block ∧ Off qa X.block) (h8 : ∀ k, k ∈ av → k < w.heap.size ∧ k ≠ t ∧ Off pa k ∧ Off na k ∧ Off qa k ∧ Off A k)
    {en : Ending} (hl : Learned t pa na qa o l m ps' base last' w en w') : TBR E e av w t lo o l m ps' base last' A cap xs en w' := by
  obtain ⟨rfl, pa', pc', na', nc', qa', qc', N', pn', htk, htu, hwp, hwn, hwq⟩ := hl
  have ht := h1.at'.cells.1
  have hs := htu.size
  refine ⟨rfl, ⟨pa', pc', na', nc', qa', qc', N', pn', htk, h2, h3.within hwp (by omega), h4.within hwn (by omega), h5.within hwq (by omega), ?_, fun X hX => ?_, fun k hk => ?_⟩, htu.below (by omega) h2 h3 h4 h5, hs, fun k hk => ?_⟩
  · exact h6.of_block fun X hX hlt => htu.block _ hlt (h7 X hX).1 (h7 X hX).2.1 (h7 X hX).2.2.1 (h7 X hX).2.2.2
  · obtain ⟨a1, a2, a3, a4⟩ := h7 X hX
    have := (own_lt h6 X hX).2
    exact ⟨a1, hwp.off a2 this, hwn.off a3 this, hwq.off a4 this⟩
  · obtain ⟨a0, a1, a2, a3, a4, a5⟩ := h8 k hk
    exact ⟨by omega, a1, hwp.off a2 a0, hwn.off a3 a0, hwq.off a4 a0, a5⟩
  · obtain ⟨a0, a1, a2, a3, a4, a5⟩ := h8 k hk
    exact htu.block k a0 a1 a2 a3 a4

theorem tb_clear {b : Nat} (h : TB E e av w t lo o l m ps (b : Int) last A cap xs) (hb : b ≤ ps.length) :
    Calls Try.prog 125 #[.pointer (some ⟨t, 0, none⟩), .int .i64 (two l)] w (TBR E e av w t lo o l m (ps.take b) (b : Int) (-1) A cap xs) := by
  obtain ⟨pa, pc, na, nc, qa, qc, N, pn, h1, h2, h3, h4, h5, h6, h7, h8⟩ := h
  exact (follow_clear w h1 hb).mono fun en w' hl => tb_learned h1 h2 h3 h4 h5 h6 h7 h8 hl

theorem tb_code (c : Int) (h : TB E e av w t lo o l m ps base last A cap xs) (hlast : last = -1 ∨ hw l ps.length last = true) (hc : Okc l m ps.length last c) :
    Calls Try.prog 125 #[.pointer (some ⟨t, 0, none⟩), .int .i64 c] w (TBR E e av w t lo o l m (aftP l m ps last c) base c A cap xs) := by
  obtain ⟨pa, pc, na, nc, qa, qc, N, pn, h1, h2, h3, h4, h5, h6, h7, h8⟩ := h
  exact (follow_code c w h1 hlast hc).mono fun en w' hl => tb_learned h1 h2 h3 h4 h5 h6 h7 h8 hl

theorem tb_longest (s : ByteArray) (h : TB E e av w t lo o l m ps base last A cap xs) (hlast : last = -1 ∨ hw l ps.length last = true) (hsz : 0 < s.size) (hs2 : s.size ≤ maxLen) (hlit : (s[0].toNat : Int) < two l) :
    Calls Try.prog 71 #[.pointer (some ⟨t, 0, none⟩), .string s] w (RetLon l m ps last s.data.toList w) := by
  obtain ⟨pa, pc, na, nc, qa, qc, N, pn, h1, h2, h3, h4, h5, h6, h7, h8⟩ := h
  exact longest_any s w h1 hlast hsz hs2 hlit

/-- the slice has grown -/
theorem TB.grew {A' : Option Addr} {c' : Nat} {ys : List α} (h : TB E e av w t lo o l m ps base last A cap xs) (hown : Own E e w' A' c' ys lo) (hg : Grew A w w') (hx : Nxt A A' w.heap.size) :
    TB E e av w' t lo o l m ps base last A' c' ys ∧ Below lo w w' ∧ w.heap.size ≤ w'.heap.size ∧ ∀ k, k ∈ av → w'.heap[k]? = w.heap[k]? := by
  obtain ⟨pa, pc, na, nc, qa, qc, N, pn, h1, h2, h3, h4, h5, h6, h7, h8⟩ := h
  have ht := h1.at'.cells.1
  have hs := hg.size
  refine ⟨⟨pa, pc, na, nc, qa, qc, N, pn, ⟨h1.s, h1.ok, h1.len, h1.at'.of_block fun k hk hc => hg.block k hk fun X hX e => ?_, h1.ti⟩, h2, h3, h4, h5, hown, fun X hX => ?_, fun k hk => ?_⟩, hg.below (by omega) fun X hX => (own_lt h6 X hX).1, hs, fun k hk => ?_⟩
  · obtain ⟨a1, a2, a3, a4⟩ := h7 X hX
    rw [e] at a1 a2 a3 a4
    rcases hc with hc | hc | hc | hc
    · exact a1 hc
    · exact hc a2
    · exact hc a3
    · exact hc a4
  · rcases hx X hX with ⟨Y, hY, he⟩ | he
    · rw [← he]; exact h7 Y hY
    · rw [he]
      exact ⟨by omega, own_off h1.at'.op (Nat.le_refl _), own_off h1.at'.on (Nat.le_refl _), own_off h1.at'.oq (Nat.le_refl _)⟩
  · obtain ⟨a0, a1, a2, a3, a4, a5⟩ := h8 k hk
    refine ⟨by omega, a1, a2, a3, a4, fun X hX e => ?_⟩
    rcases hx X hX with ⟨Y, hY, he⟩ | he
    · exact a5 Y hY (by omega)
    · omega
  · obtain ⟨a0, a1, a2, a3, a4, a5⟩ := h8 k hk
    exact hg.block k a0 fun X hX => a5 X hX

/-- the first elements, in a block of their own -/
theorem TB.first {cur : Array Value} {ys : List α} {c : Nat} (h : TB E e av w t lo o l m ps base last none 0 []) (h1 : cur.size = c * E.sz) (h2 : Row E cur ys) (h3 : ys.length ≤ c) (h4 : c ≤ 9223372036854775807) :
    TB E e av (w.alloc (.cells cur e)) t lo o l m ps base last (some ⟨w.heap.size, 0, none⟩) c ys := by
  have hl := h.span
  have hown : Own E e (w.alloc (.cells cur e)) (some ⟨w.heap.size, 0, none⟩) c ys lo := Own.new (by omega) h1 h2 h3 h4
  exact (h.grew hown ⟨rfl, rfl, rfl, by simp, fun k hk _ => by rw [push_at, if_pos hk]⟩ (fun X hX => by cases hX; exact .inr rfl)).1

/-- blocks of which the tree is known to hold none are added -/
theorem TB.shun {av' : List Nat} (h : TB E e av w t lo o l m ps base last A cap xs) {B : Nat} (hB : B < w.heap.size) (hlo : B < lo) : TB E e (B :: av) w t lo o l m ps base last A cap xs := by
  obtain ⟨pa, pc, na, nc, qa, qc, N, pn, h1, h2, h3, h4, h5, h6, h7, h8⟩ := h
  refine ⟨pa, pc, na, nc, qa, qc, N, pn, h1, h2, h3, h4, h5, h6, h7, fun k hk => ?_⟩
  rcases List.mem_cons.1 hk with rfl | hk
  · exact ⟨hB, by omega, fun X hX e => by have := h3 X hX; omega, fun X hX e => by have := h4 X hX; omega, fun X hX e => by have := h5 X hX; omega, fun X hX e => by have := own_lo h6 X hX; omega⟩
  · exact h8 k hk

end

/-- append of elements that lie in memory onto the slice beside a tree -/
theorem wpList_append_tb {P : Program} {ops : Array Oper} {rest : List Oper} {op : Oper} {a : Act} {w : World} {Q : Exit → Act → World → Prop} {α : Type} (E : Enc α) (s x : Operand) (ty e : TypeId) (i : TypeInfo) (z : Value) (bytes : Nat) (hgd : op.guard = none)
    (ho : op.op = .call { callee := .builtin .append, args := #[s, x], argTypes := #[ty, ty] }) (ht : P.underlying ty = some (.slice e)) (hi : P.info? e = some i) (hz : i.zero = some z) (hsz : i.size = E.sz) (hby : i.bytes = bytes)
    (hzs : z.cells.size = E.sz) (hpos : 0 < E.sz) (xs : List α) (A : Option Addr) (cap : Nat) {av : List Nat} {t lo : Nat} {o l m : Int} {ps : List Pr} {base last : Int} (hT : TB E e av w t lo o l m ps base last A cap xs) (hs : a.eval s = .slice A xs.length cap)
    (ys : List α) (b off c : Nat) (hr : ∀ j u, (flat E ys)[j]? = some u → w.cell? ⟨b, off + j, none⟩ = some u) (hx : a.eval x = .slice (some ⟨b, off, none⟩) ys.length c)
    (h63 : xs.length + ys.length ≤ 140737488355328) (hbd : (xs.length + ys.length) * bytes ≤ 140737488355328)
    (h : ∀ (A' : Option Addr) (c' : Nat) (w' : World), TB E e av w' t lo o l m ps base last A' c' (xs ++ ys) → Below lo w w' → w.heap.size ≤ w'.heap.size → (∀ k, k ∈ av → w'.heap[k]? = w.heap[k]?) → wpList P ops Q rest (a.put op.dst (.slice A' (xs ++ ys).length c')) w') :
    wpList P ops Q (op :: rest) a w := by
  have hlo := hT.span
  refine wpList_append_at E s x ty e i z bytes hgd ho ht hi hz hsz hby hzs hpos xs A cap lo hT.own hs ys b off c hr hx h63 hbd (by omega) fun A' c' w' h1 h2 h3 => ?_
  obtain ⟨q1, q2, q3, q4⟩ := hT.grew h1 h2 h3
  exact h A' c' w' q1 q2 q3 q4

/-- the tree of what is known, with no slice beside it -/
theorem tb_new {α : Type} (E : Enc α) (e : TypeId) (o l m : Int) (a : Option Addr) (cap : Nat) (ps : List Pr) (base last : Int) (w : World) (hr : RdP w a cap ps) (hs : sv o l m = true) (hok : OKs l ps) (hlen : ps.length ≤ 2000) :
    Calls Try.prog 70 #[.agg #[.int .i64 o, .int .i64 l, .int .i64 m, .slice a ps.length cap, .int .i64 base, .int .i64 last]] w (fun en w' => ∃ t, en = .returned (.pointer (some ⟨t, 0, none⟩)) ∧ w.heap.size ≤ t ∧ TB E e [] w' t w.heap.size o l m ps base last none 0 ([] : List α) ∧ ∃ x, w' = plus w x) := by
  refine (newTree_any o l m a cap ps base last w hr hs hok hlen).mono ?_
  rintro en w' ⟨t, pa, pc, na, nc, qa, qc, N, pn, rfl, htk, g1, g2, g3, g4, hx⟩
  have hown : Own E e w' none 0 ([] : List α) w.heap.size := .inl ⟨rfl, rfl, rfl⟩
  have h1 : ∀ X : Addr, (none : Option Addr) = some X → X.block ≠ t ∧ Off pa X.block ∧ Off na X.block ∧ Off qa X.block := fun X hX => absurd hX (by simp)
  have h2 : ∀ k, k ∈ ([] : List Nat) → k < w'.heap.size ∧ k ≠ t ∧ Off pa k ∧ Off na k ∧ Off qa k ∧ Off none k := fun k hk => absurd hk (by simp)
  exact ⟨t, rfl, g1, ⟨pa, pc, na, nc, qa, qc, N, pn, htk, g1, g2, g3, g4, hown, h1, h2⟩, hx⟩

end Go.Proofs.Ytlihhlihcjncoaa
