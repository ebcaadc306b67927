/- Lemmas and walks, part Gi. -/
import Derived.Test.YtmddcbebaijjkaaGreatDoorGc
import Derived.Test.YtmddcbebaijjkaaGreatDoorGa
import Derived.Test.YtmddcbebaijjkaaGreatDoorGd
import Derived.Deep.AppendSrc
import Derived.Test.YtmddcbebaijjkaaGreatDoorGe

/- append of whatever yields elements (a string's bytes, a slice's) onto an own slice: with where the new slice lies. -/
namespace Go.Proofs.YtmddcbebaijjkaaGreatDoor
open Go.RowKit
set_option linter.unusedVariables false
set_option linter.unusedSimpArgs false

/-- cells written one after the other -/
def putL (cur : Array Value) : Nat → List Value → Array Value
  | _, [] => cur
  | o, v :: r => putL (cur.setIfInBounds o v) (o + 1) r

theorem putL_size : ∀ (vs : List Value) (o : Nat) (cur : Array Value), (putL cur o vs).size = cur.size
  | [], _, _ => rfl
  | v :: r, o, cur => by
    show (putL (cur.setIfInBounds o v) (o + 1) r).size = _
    rw [putL_size r]; simp

theorem putL_out : ∀ (vs : List Value) (o : Nat) (cur : Array Value) (j : Nat), j < o → (putL cur o vs)[j]? = cur[j]?
  | [], _, _, _, _ => rfl
  | v :: r, o, cur, j, h => by
    show (putL (cur.setIfInBounds o v) (o + 1) r)[j]? = _
    rw [putL_out r (o + 1) _ j (by omega), Array.getElem?_setIfInBounds, if_neg (by omega)]

theorem putL_in : ∀ (vs : List Value) (o : Nat) (cur : Array Value) (j : Nat) (u : Value), vs[j]? = some u → o + vs.length ≤ cur.size → (putL cur o vs)[o + j]? = some u
  | [], _, _, _, _, h, _ => by simp at h
  | v :: r, o, cur, 0, u, h, hs => by
    simp at h hs
    show (putL (cur.setIfInBounds o v) (o + 1) r)[o + 0]? = _
    rw [putL_out r (o + 1) _ _ (by omega), Array.getElem?_setIfInBounds]
    subst h
    rw [if_pos (by omega), if_pos (by omega)]
  | v :: r, o, cur, j + 1, u, h, hs => by
    simp at h hs
    have := putL_in r (o + 1) (cur.setIfInBounds o v) j u h (by simp; omega)
    show (putL (cur.setIfInBounds o v) (o + 1) r)[o + (j + 1)]? = _
    rw [show o + (j + 1) = o + 1 + j by omega]
    exact this

theorem setCells_patch {b : Nat} {e : TypeId} {fz : Nat × Nat} : ∀ (vs : List Value) (o : Nat) (w : World) (cur : Array Value), w.heap[b]? = some (.cells cur e fz) → w.setCells b o vs = patch w b (.cells (putL cur o vs) e fz)
  | [], o, w, cur, h => (patch_self w b _ h).symm
  | v :: r, o, w, cur, h => by
    show (w.setCell ⟨b, o, none⟩ v).setCells b (o + 1) r = _
    rw [setCell_patch h, setCells_patch r (o + 1) _ _ (patch_at w b _ (Array.getElem?_eq_some_iff.1 h).1), patch_patch]
    rfl

theorem run_append_any {P : Program} {w : World} {α : Type} (E : Enc α) (t tx ty e : TypeId) (i : TypeInfo) (z : Value) (bytes : Nat) (ht : P.underlying t = some (.slice e)) (hi : P.info? e = some i) (hz : i.zero = some z) (hsz : i.size = E.sz) (hby : i.bytes = bytes)
    (hzs : z.cells.size = E.sz) (xs : List α) (A : Option Addr) (cap lo : Nat) (hown : Own E e w A cap xs lo) (x : Value) (ys : List α) (hs : Src P E.sz tx x ys.length (flat E ys) w)
    (h63 : xs.length + ys.length ≤ 140737488355328) (hbd : (xs.length + ys.length) * bytes ≤ 140737488355328) (hlo : lo ≤ w.heap.size) :
    ∃ A' c' w', (Builtin.append_ #[t, tx] ty #[.slice A xs.length cap, x]).run P w = .ok (.slice A' (xs ++ ys).length c') w' ∧ Own E e w' A' c' (xs ++ ys) lo ∧ Grew A w w' ∧ Nxt A A' w.heap.size := by
  have hfl : flat E (xs ++ ys) = flat E xs ++ flat E ys := by simp [flat]
  have hlx := flat_len E xs
  have hly := flat_len E ys
  by_cases hfit : xs.length + ys.length ≤ cap
  · rcases hown with ⟨rfl, rfl, rfl⟩ | ⟨b, cur, rfl, h0, hb, hcs, hr, h1, h2⟩
    · obtain rfl : ys = [] := List.eq_nil_of_length_eq_zero (by have h9 : ([] : List α).length = 0 := rfl; omega)
      refine ⟨none, 0, w, ?_, .inl ⟨rfl, rfl, rfl⟩, grew_refl _ _, fun X hX => by cases hX⟩
      have hf : (Builtin.firstCells i.size 0 x).run P w = .ok #[] w := by
        have := hs.cells
        rw [hsz]
        simpa [flat] using this
      rcases hs.kind with ⟨e', hk⟩ | hk <;> simp [Builtin.append_, run_underlying ht, run_underlying hk, sizeOf, typeInfo, hi, hs.len, hf, storeCells]
      all_goals
        have hl := hs.len
        simp at hl
        simp [hl, hf, storeCells]
    · have hbs := (Array.getElem?_eq_some_iff.1 hb).1
      have hend : xs.length * E.sz + (flat E ys).length ≤ cur.size := by rw [hly, hcs, ← Nat.add_mul]; exact Nat.mul_le_mul_right _ hfit
      have hrun := run_append_room_src (P := P) w t tx ty e i ht hi b 0 xs.length cap x ys.length (flat E ys) (by rw [hsz]; exact hs) hfit
        (fun j hj => by rw [cell_of hb, hsz, Array.getElem?_eq_getElem (by omega)]; rfl) (fun j hj => free_of hb _)
      rw [hsz, Nat.zero_add, setCells_patch _ _ _ _ hb] at hrun
      refine ⟨some ⟨b, 0, none⟩, cap, _, by rw [List.length_append]; exact hrun, .inr ⟨b, _, rfl, h0, patch_at _ _ _ hbs, by rw [putL_size]; exact hcs, ?_, by rw [List.length_append]; exact hfit, h2⟩, ⟨rfl, rfl, rfl, by simp, fun k hk hA => patch_other _ _ _ (fun e => hA _ rfl e.symm)⟩, fun X hX => .inl ⟨_, rfl, by cases hX; rfl⟩⟩
      refine (fun j u hj => ?_ : ∀ (j : Nat) (u : Value), (flat E (xs ++ ys))[j]? = some u → _)
      rw [hfl, List.getElem?_append, hlx] at hj
      split at hj
      · rw [putL_out _ _ _ _ (by assumption)]; exact hr j u hj
      · have := putL_in (flat E ys) (xs.length * E.sz) cur _ u hj hend
        rwa [show xs.length * E.sz + (j - xs.length * E.sz) = j by omega] at this
  · have hold : (Builtin.firstCells i.size xs.length (.slice A xs.length cap)).run P w.drew = .ok (flat E xs).toArray w.drew := by
      rcases hown with ⟨rfl, rfl, rfl⟩ | ⟨b, cur, rfl, h0, hb, hcs, hr, h1, h2⟩
      · exact run_firstCells_none (P := P) w.drew i.size 0 0 0
      · exact run_firstCells_some (P := P) w.drew i.size xs.length ⟨b, 0, none⟩ xs.length cap (flat E xs) (by rw [hsz]; exact hlx) (fun j v hj => by
          rw [Addr.add_lit, Nat.zero_add]
          exact (cell_of (w := w.drew) hb j).trans (hr j v hj))
    have hcb : cap ≤ xs.length + ys.length := by omega
    have hnx : Builtin.nextslicecap (xs.length + ys.length) cap * i.bytes ≤ 281474976710656 := by
      have : Builtin.nextslicecap (xs.length + ys.length) cap ≤ 2 * (xs.length + ys.length) := by
        exact nextslicecap_le (by omega)
      rw [hby]
      calc _ ≤ 2 * (xs.length + ys.length) * bytes := Nat.mul_le_mul_right _ this
        _ = 2 * ((xs.length + ys.length) * bytes) := by rw [Nat.mul_assoc]
        _ ≤ _ := by omega
    have hrun := run_append_grow_src (P := P) w t tx ty e i z ht hi hz A xs.length cap (flat E xs) hold x ys.length (flat E ys) (by rw [hsz]; exact hs) (by omega) (by omega) hnx
    have hge := grownCap_ge w (xs.length + ys.length) cap e
    have hle := grownCap_le_maxLen w (xs.length + ys.length) cap e (by simp [maxLen]; omega)
    refine ⟨some ⟨w.heap.size, 0, none⟩, grownCap w (xs.length + ys.length) cap e, w.drew.alloc (.cells ((flat E xs ++ flat E ys).toArray ++ Builtin.zeroCells z.cells (grownCap w (xs.length + ys.length) cap e - (xs.length + ys.length))) e), by rw [List.length_append]; exact hrun, .inr ⟨w.heap.size, _, rfl, hlo, by show (w.drew.alloc _).heap[w.drew.heap.size]? = _; rw [push_at, if_neg (by omega), if_pos rfl], ?_, ?_, by rw [List.length_append]; omega, by simpa [maxLen] using hle⟩, ⟨rfl, rfl, rfl, by simp, fun k hk _ => by show (w.drew.alloc _).heap[k]? = _; rw [push_at, if_pos (show k < w.drew.heap.size from hk)]; rfl⟩, fun X hX => .inr (by cases hX; rfl)⟩
    · have hm : (grownCap w (xs.length + ys.length) cap e) * E.sz = (xs.length + ys.length) * E.sz + (grownCap w (xs.length + ys.length) cap e - (xs.length + ys.length)) * E.sz := by
        rw [← Nat.add_mul]; congr 1; omega
      rw [Array.size_append, size_zeroCells, hzs, hm]
      simp [hlx, hly, Nat.add_mul]
    · refine (fun j u hj => ?_ : ∀ (j : Nat) (u : Value), (flat E (xs ++ ys))[j]? = some u → _)
      have hjl := (List.getElem?_eq_some_iff.1 hj).1
      rw [hfl] at hj hjl
      rw [Array.getElem?_append_left (by simpa using hjl)]
      simpa using hj

/-- a string's bytes, as elements -/
theorem src_string {P : Program} {tx : TypeId} {w : World} (hk : P.underlying tx = some .string) (s : ByteArray) : Src P encB.sz tx (.string s) s.data.toList.length (flat encB s.data.toList) w := by
  have h := Src.ofString (P := P) w hk s
  have e1 : s.data.toList.length = s.size := by simp
  have e2 : flat encB s.data.toList = byteCells s := by rw [flatB]; unfold byteCells; rw [List.map_map]; rfl
  rw [e1, e2]
  exact h

/-- append of a string's bytes onto an own slice of bytes -/
theorem wpList_append_str {P : Program} {ops : Array Oper} {rest : List Oper} {o : Oper} {a : Act} {w : World} {Q : Exit → Act → World → Prop} (s x : Operand) (t tx e : TypeId) (i : TypeInfo) (hgd : o.guard = none)
    (ho : o.op = .call { callee := .builtin .append, args := #[s, x], argTypes := #[t, tx] }) (ht : P.underlying t = some (.slice e)) (hk : P.underlying tx = some .string) (hi : P.info? e = some i) (hz : i.zero = some (.int .u8 0)) (hsz : i.size = 1) (hby : i.bytes = 1)
    (xs : List UInt8) (A : Option Addr) (cap : Nat) (lo : Nat) (hown : Own encB e w A cap xs lo) (hs : a.eval s = .slice A xs.length cap) (y : ByteArray) (hx : a.eval x = .string y)
    (h63 : xs.length + y.size ≤ 140737488355328) (hlo : lo ≤ w.heap.size)
    (h : ∀ (A' : Option Addr) (c' : Nat) (w' : World), Own encB e w' A' c' (xs ++ y.data.toList) lo → Grew A w w' → Nxt A A' w.heap.size → wpList P ops Q rest (a.put o.dst (.slice A' (xs ++ y.data.toList).length c')) w') :
    wpList P ops Q (o :: rest) a w := by
  refine wpList_plain hgd fun K hK => ?_
  have hl : y.data.toList.length = y.size := by simp
  obtain ⟨A', c', w', hrun, h1, h2, h3⟩ := run_append_any (P := P) (w := w) encB t tx o.type e i _ 1 ht hi hz hsz hby rfl xs A cap lo hown (.string y) y.data.toList (src_string hk y) (by omega) (by omega) hlo
  unfold Oper.wp execOp
  simp only [ho, resolve, invoke, builtin, Sem.run_bind, Sem.run_pure, Result.andThen_ok, List.map_toArray, List.map_cons, List.map_nil, hs, hx, hrun]
  exact hK _ _ (h A' c' w' h1 h2 h3)

end Go.Proofs.YtmddcbebaijjkaaGreatDoor

/- Bits of numbers and of bytes: the plain forms, and the walks that write them. -/
namespace Go.Proofs.YtmddcbebaijjkaaGreatDoor
open Go.RowKit
set_option linter.unusedVariables false
set_option linter.unusedSimpArgs false

/-- digit i of n -/
def bt (n : Int) (i : Nat) : UInt8 := if n / 2 ^ i % 2 = 1 then 49 else 48

def lowL (n : Int) (w : Nat) : List UInt8 := (List.range w).map (bt n)

/-- the bits of a number in an order -/
def bitsL (o n : Int) (w : Nat) : List UInt8 := if o = 1 then (lowL n w).reverse else lowL n w

/-- the exponent of digit i -/
def ixB (o : Int) (w i : Nat) : Nat := if o = 1 then w - 1 - i else i

theorem lowL_len (n : Int) (w : Nat) : (lowL n w).length = w := by simp [lowL]

theorem bitsL_len (o n : Int) (w : Nat) : (bitsL o n w).length = w := by unfold bitsL; split <;> simp [lowL_len]

theorem lowL_get {n : Int} {w i : Nat} (h : i < w) : (lowL n w)[i]? = some (bt n i) := by simp [lowL, h]

theorem bitsL_get {o n : Int} {w i : Nat} (h : i < w) : (bitsL o n w)[i]? = some (bt n (ixB o w i)) := by
  unfold bitsL ixB
  split
  · rw [List.getElem?_reverse (by rw [lowL_len]; exact h), lowL_len, lowL_get (by omega)]
  · exact lowL_get h

theorem bitsL_take {o n : Int} {w i : Nat} (h : i < w) : (bitsL o n w).take (i + 1) = (bitsL o n w).take i ++ [bt n (ixB o w i)] := by
  rw [List.take_add_one, bitsL_get h]; rfl

theorem ixB_lt {o : Int} {w i : Nat} (h : i < w) : ixB o w i < w := by unfold ixB; split <;> omega

theorem pow_bd {k : Nat} (h : k < 10) : 1 ≤ (2 : Int) ^ k ∧ (2 : Int) ^ k ≤ 512 := by
  rcases (by omega : k = 0 ∨ k = 1 ∨ k = 2 ∨ k = 3 ∨ k = 4 ∨ k = 5 ∨ k = 6 ∨ k = 7 ∨ k = 8 ∨ k = 9) with rfl | rfl | rfl | rfl | rfl | rfl | rfl | rfl | rfl | rfl <;> decide +kernel

theorem and_all : ∀ (n k : Nat), n < 1024 → k < 10 → (BitVec.ofInt 64 (n : Int) &&& BitVec.ofInt 64 ((2 : Int) ^ k)).toNat = if n / 2 ^ k % 2 = 1 then 2 ^ k else 0 := by
  have h : (List.range 1024).all (fun n => (List.range 10).all fun k => decide ((BitVec.ofInt 64 (n : Int) &&& BitVec.ofInt 64 ((2 : Int) ^ k)).toNat = if n / 2 ^ k % 2 = 1 then 2 ^ k else 0)) = true := by decide +kernel
  intro n k hn hk
  exact of_decide_eq_true (List.all_eq_true.1 (List.all_eq_true.1 h n (List.mem_range.2 hn)) k (List.mem_range.2 hk))

theorem and_one : ∀ (n : Nat), n < 1024 → (BitVec.ofInt 64 (n : Int) &&& BitVec.ofInt 64 1).toNat = n % 2 := by
  have h : (List.range 1024).all (fun n => decide ((BitVec.ofInt 64 (n : Int) &&& BitVec.ofInt 64 1).toNat = n % 2)) = true := by decide +kernel
  intro n hn
  exact of_decide_eq_true (List.all_eq_true.1 h n (List.mem_range.2 hn))

theorem bits_and {n : Int} {k : Nat} (h0 : 0 ≤ n) (h1 : n < 1024) (hk : k < 10) : bits .and .i64 n (2 ^ k) = if n / 2 ^ k % 2 = 1 then 2 ^ k else 0 := by
  obtain ⟨m, rfl⟩ : ∃ m : Nat, n = m := ⟨n.toNat, by omega⟩
  have h := and_all m k (by omega) hk
  obtain ⟨p1, p2⟩ := pow_bd hk
  show IntKind.i64.wrap ((BitVec.ofInt 64 (m : Int) &&& BitVec.ofInt 64 ((2 : Int) ^ k)).toNat : Nat) = _
  rw [h]
  have hc : ((m / 2 ^ k % 2 = 1) ↔ ((m : Int) / 2 ^ k % 2 = 1)) := by
    constructor <;> intro q
    · have : ((m / 2 ^ k % 2 : Nat) : Int) = (1 : Nat) := by rw [q]
      simpa using this
    · have : ((m / 2 ^ k % 2 : Nat) : Int) = (1 : Nat) := by simpa using q
      exact_mod_cast this
  by_cases q : m / 2 ^ k % 2 = 1
  · rw [if_pos q, if_pos (hc.1 q)]
    have : ((2 ^ k : Nat) : Int) = (2 : Int) ^ k := by simp
    rw [this, IntWalk.i64_in _ (by omega)]
  · rw [if_neg q, if_neg (fun x => q (hc.2 x))]
    rfl

theorem bits_one {n : Int} (h0 : 0 ≤ n) (h1 : n < 1024) : bits .and .i64 n 1 = n % 2 := by
  obtain ⟨m, rfl⟩ : ∃ m : Nat, n = m := ⟨n.toNat, by omega⟩
  have h := and_one m (by omega)
  show IntKind.i64.wrap ((BitVec.ofInt 64 (m : Int) &&& BitVec.ofInt 64 1).toNat : Nat) = _
  rw [h, IntWalk.i64_in _ (by omega)]
  simp

theorem pow_wrap {k : Nat} (h : k < 10) : wrap64 ((2 : Int) ^ k) = 2 ^ k := by
  obtain ⟨p1, p2⟩ := pow_bd h
  exact wrap64_of (by omega) (by omega)

theorem place_any (o : Int) (i wn : Nat) (w : World) (hi : i < wn) (hw : wn ≤ 10) : Calls Tryz.prog 128 #[.int .i64 o, .int .i64 i, .int .i64 wn] w (Ret w (.int .i64 (2 ^ ixB o wn i))) := by
  by_cases h : o = 1
  · subst h
    go_enter Tryz.func128, Tryz.ntmps128
    go_wp2
    go_ret
    exact ret_of (int_val (pow_wrap (by omega))) (by repeat (first | exact More.refl _ | apply More.plus | apply More.alloc | apply More.drew | apply More.drewN))
  · have b1 : (o == 1) = false := by simp [h]
    go_enter Tryz.func128, Tryz.ntmps128
    go_wp2
    go_ret
    exact ret_of (int_val (by unfold ixB; rw [if_neg h]; exact pow_wrap (by omega))) (by repeat (first | exact More.refl _ | apply More.plus | apply More.alloc | apply More.drew | apply More.drewN))

/-- what a call leaves that grows an own slice of bytes -/
def RetG (w : World) (A : Option Addr) (xs : List UInt8) (lo : Nat) (e : Ending) (w' : World) : Prop :=
  ∃ A' c', e = .returned (.slice A' xs.length c') ∧ Own encB 5 w' A' c' xs lo ∧ Grew A w w' ∧ Within A A' w.heap.size

theorem Within.trans {A A1 A2 : Option Addr} {n n1 : Nat} (h : Within A A1 n) (k : Within A1 A2 n1) (hn : n ≤ n1) : Within A A2 n := fun X hX => by
  rcases k X hX with ⟨Y, hY, e⟩ | e
  · rcases h Y hY with ⟨Z, hZ, e2⟩ | e2
    · exact .inl ⟨Z, hZ, by omega⟩
    · exact .inr (by omega)
  · exact .inr (by omega)

theorem grew_within {A A1 : Option Addr} {w w1 w2 : World} (h : Grew A w w1) (hw : Within A A1 w.heap.size) (k : Grew A1 w1 w2) : Grew A w w2 :=
  ⟨k.os.trans h.os, k.tape.trans h.tape, k.output.trans h.output, by have := h.size; have := k.size; omega, fun j hj ha => by
    rw [k.block j (by have := h.size; omega) fun X hX e => ?_]
    · exact h.block j hj ha
    · rcases hw X hX with ⟨Y, hY, e2⟩ | e2
      · exact ha Y hY (by omega)
      · omega⟩


set_option maxRecDepth 100000 in
set_option maxHeartbeats 2000000 in
theorem appendBits_any (A : Option Addr) (cap : Nat) (xs : List UInt8) (lo : Nat) (o n : Int) (wn : Nat) (w : World) (hown : Own encB 5 w A cap xs lo) (hlo : lo ≤ w.heap.size) (hn0 : 0 ≤ n) (hn1 : n < 1024) (hw : wn ≤ 10) (hl : xs.length ≤ 1000000) :
    Calls Tryz.prog 87 #[.slice A xs.length cap, .int .i64 o, .int .i64 n, .int .i64 wn] w (RetG w A (xs ++ bitsL o n wn) lo) := by
  have HO := Lib.hid hown
  obtain ⟨i0, hi, hz0, hz1, hz2⟩ := info_parts infoByte
  clear hown
  go_enter Tryz.func87, Tryz.ntmps87
  go_wp2
  go_loopw [0, 12] (fun s q wr => ∃ (k : Nat) (ys : List UInt8) (A' : Option Addr) (c' : Nat), k ≤ wn ∧ q = .int .i64 k ∧ s = .slice A' ys.length c' ∧ ys = xs ++ (bitsL o n wn).take k ∧ Own encB 5 wr A' c' ys lo ∧ Grew A w wr ∧ Within A A' w.heap.size) (fun _ q _ => wn - (intOf q).toNat)
  case atStart => exact ⟨0, xs, A, cap, Nat.zero_le _, rfl, rfl, by simp, HO.out, grew_refl _ _, within_refl _ _⟩
  case round =>
    obtain ⟨k, ys, A', c', hk, rfl, rfl, hys, hown, hg, hwi⟩ := hrel
    have hyl : ys.length ≤ 1000010 := by rw [hys, List.length_append, List.length_take]; omega
    have hsz := hg.size
    have HY := Lib.hid hys
    have HO2 := Lib.hid hown
    have HG := Lib.hid hg
    have HW := Lib.hid hwi
    clear hys hown hg hwi
    rcases dec (k < wn) with ⟨hlt, v1⟩ | ⟨hlt, v1⟩
    · have hix := ixB_lt (o := o) hlt
      have hand := bits_and (n := n) (k := ixB o wn k) hn0 hn1 (by omega)
      obtain ⟨p1, p2⟩ := pow_bd (k := ixB o wn k) (by omega)
      have hcall := fun (W : World) => place_any o k wn W hlt hw
      have HT := Lib.hid (bitsL_take (o := o) (n := n) hlt)
      by_cases hb : n / 2 ^ ixB o wn k % 2 = 1
      · have HBT := Lib.hid (show bt n (ixB o wn k) = 49 by unfold bt; rw [if_pos hb])
        rw [if_pos hb] at hand
        clear hb
        generalize (2 : Int) ^ ixB o wn k = p at *
        have e0 : (p != 0) = true := by simp; omega
        go_wp2_with (first | (go_at_call 128; refine (hcall _).mono ?_; rintro e w' ⟨rfl, xc, rfl⟩) | (at_builtin; refine wpList_append_at encB _ _ _ _ i0 _ 1 rfl rfl Tryz.underlying34 hi hz0 hz1 hz2 rfl (by decide) ys A' c' lo (by repeat (first | (with_reducible exact HO2.out) | (with_reducible apply Own.plus) | (with_reducible apply Own.alloc) | (with_reducible apply Own.drew))) rfl [49] _ 0 1 (one_cells _ _ 49 (by omega) (by omega) (by simp)) rfl (by first | omega | rfl | (simp <;> omega) | (simp only [List.length_cons, List.length_nil, plus_size, World.size_alloc]; omega)) (by first | omega | rfl | (simp <;> omega) | (simp only [List.length_cons, List.length_nil, plus_size, World.size_alloc]; omega)) (by simp <;> omega) ?_; intro A6 c6 w6 hw6 hg6 hx6; have HO6 := Lib.hid hw6; have HG6 := Lib.hid hg6; have HX6 := Lib.hid hx6; clear hw6 hg6 hx6))
        go_roundw
        case rel =>
          exact ⟨k + 1, ys ++ [49], A6, c6, by omega, by go_num, by simp, by rw [HT.out, ← List.append_assoc, ← HY.out, HBT.out], HO6.out, grew_within HG.out HW.out (grew_trans (grew_alloc (grew_plus (grew_refl _ _) _) _) HG6.out), HW.out.trans (HX6.out.within (by simp <;> omega)) (Nat.le_refl _)⟩
        case measure => simp [intOf]; omega
      · have HBT := Lib.hid (show bt n (ixB o wn k) = 48 by unfold bt; rw [if_neg hb])
        rw [if_neg hb] at hand
        clear hb
        generalize (2 : Int) ^ ixB o wn k = p at *
        go_wp2_with (first | (go_at_call 128; refine (hcall _).mono ?_; rintro e w' ⟨rfl, xc, rfl⟩) | (at_builtin; refine wpList_append_at encB _ _ _ _ i0 _ 1 rfl rfl Tryz.underlying34 hi hz0 hz1 hz2 rfl (by decide) ys A' c' lo (by repeat (first | (with_reducible exact HO2.out) | (with_reducible apply Own.plus) | (with_reducible apply Own.alloc) | (with_reducible apply Own.drew))) rfl [48] _ 0 1 (one_cells _ _ 48 (by omega) (by omega) (by simp)) rfl (by first | omega | rfl | (simp <;> omega) | (simp only [List.length_cons, List.length_nil, plus_size, World.size_alloc]; omega)) (by first | omega | rfl | (simp <;> omega) | (simp only [List.length_cons, List.length_nil, plus_size, World.size_alloc]; omega)) (by simp <;> omega) ?_; intro A6 c6 w6 hw6 hg6 hx6; have HO6 := Lib.hid hw6; have HG6 := Lib.hid hg6; have HX6 := Lib.hid hx6; clear hw6 hg6 hx6))
        go_roundw
        case rel =>
          exact ⟨k + 1, ys ++ [48], A6, c6, by omega, by go_num, by simp, by rw [HT.out, ← List.append_assoc, ← HY.out, HBT.out], HO6.out, grew_within HG.out HW.out (grew_trans (grew_alloc (grew_plus (grew_refl _ _) _) _) HG6.out), HW.out.trans (HX6.out.within (by simp <;> omega)) (Nat.le_refl _)⟩
        case measure => simp [intOf]; omega
    · obtain rfl : k = wn := by omega
      go_wp2
      go_ret
      refine ⟨A', c', ?_, ?_, HG.out, HW.out⟩
      · rw [HY.out, List.take_of_length_le (by rw [bitsL_len]; omega)]; simp
      · have := HO2.out
        rw [HY.out, List.take_of_length_le (by rw [bitsL_len]; omega)] at this
        exact this

end Go.Proofs.YtmddcbebaijjkaaGreatDoor

/- Bits of bytes: the walks of l1Code, unpackBytes, l1Unpack. -/
namespace Go.Proofs.YtmddcbebaijjkaaGreatDoor
open Go.RowKit
set_option linter.unusedVariables false
set_option linter.unusedSimpArgs false

theorem lowL_succ (n : Int) (k : Nat) : lowL n (k + 1) = lowL n k ++ [bt n k] := by unfold lowL; rw [List.range_succ]; simp

theorem bits_low (n : Int) (k : Nat) : bitsL 0 n (k + 1) = bitsL 0 n k ++ [bt n k] := lowL_succ n k

theorem bits_high (n : Int) (k : Nat) : bitsL 1 n (k + 1) = bt n k :: bitsL 1 n k := by
  show (lowL n (k + 1)).reverse = bt n k :: (lowL n k).reverse
  rw [lowL_succ]; simp

theorem one_bstr (n : Int) : one n = bstr [UInt8.ofNat n.toNat] := rfl


set_option maxRecDepth 100000 in
set_option maxHeartbeats 2000000 in
theorem l1Code_any (o n : Int) (wn : Nat) (w : World) (ho : o = 0 ∨ o = 1) (hn0 : 0 ≤ n) (hn1 : n < 1024) (hw : wn ≤ 10) :
    Calls Tryz.prog 96 #[.int .i64 o, .int .i64 n, .int .i64 wn] w (Ret w (.string (bstr (bitsL o n wn)))) := by
  go_enter Tryz.func96, Tryz.ntmps96
  go_wp2
  go_loopw [7, 8] (fun s q wr => ∃ (k : Nat), k ≤ wn ∧ q = .int .i64 k ∧ s = .string (bstr (bitsL o n k)) ∧ More w wr) (fun _ q _ => wn - (intOf q).toNat)
  case atStart => exact ⟨0, Nat.zero_le _, rfl, by rcases ho with rfl | rfl <;> rfl, More.refl _⟩
  case round =>
    obtain ⟨k, hk, rfl, rfl, x, rfl⟩ := hrel
    rcases dec (k < wn) with ⟨hlt, v1⟩ | ⟨hlt, v1⟩
    · obtain ⟨p1, p2⟩ := pow_bd (k := k) (by omega)
      have hq0 : 0 ≤ n / 2 ^ k := Int.ediv_nonneg hn0 (by omega)
      have hq1 : n / 2 ^ k < 1024 := Int.lt_of_le_of_lt (Int.ediv_le_self _ hn0) hn1
      have e1 := bits_one hq0 hq1
      by_cases hb : n / 2 ^ k % 2 = 1
      · have HBT := Lib.hid (show bt n k = 49 by unfold bt; rw [if_pos hb])
        rw [hb] at e1
        clear hb
        have hcv := run_one (P := Tryz.prog) (W := plus w x) Tryz.underlying34 Tryz.underlying5 Tryz.underlying9 (w.heap.size + x.n) 49 (by omega) (by omega) (by simp)
        have z1 : (bstr (bitsL o n k)).size ≤ 10 := by rw [bstr_size, bitsL_len]; omega
        have z2 : (one 49).size ≤ 1 := Nat.le_refl _
        rcases ho with rfl | rfl
        · have HS := Lib.hid (show bstr (bitsL 0 n k) ++ one 49 = bstr (bitsL 0 n (k + 1)) by rw [bits_low, one_bstr, bstr_app, HBT.out]; rfl)
          go_wp2
          go_roundw
          case rel => exact ⟨k + 1, by omega, by go_num, by rw [← HS.out], (by repeat (first | exact More.refl _ | apply More.plus | apply More.alloc | apply More.drew | apply More.drewN))⟩
          case measure => simp [intOf]; omega
        · have HS := Lib.hid (show one 49 ++ bstr (bitsL 1 n k) = bstr (bitsL 1 n (k + 1)) by rw [bits_high, one_bstr, bstr_app, HBT.out]; rfl)
          go_wp2
          go_roundw
          case rel => exact ⟨k + 1, by omega, by go_num, by rw [← HS.out], (by repeat (first | exact More.refl _ | apply More.plus | apply More.alloc | apply More.drew | apply More.drewN))⟩
          case measure => simp [intOf]; omega
      · have HBT := Lib.hid (show bt n k = 48 by unfold bt; rw [if_neg hb])
        rw [show n / 2 ^ k % 2 = 0 by omega] at e1
        clear hb
        have hcv := run_one (P := Tryz.prog) (W := plus w x) Tryz.underlying34 Tryz.underlying5 Tryz.underlying9 (w.heap.size + x.n) 48 (by omega) (by omega) (by simp)
        have z1 : (bstr (bitsL o n k)).size ≤ 10 := by rw [bstr_size, bitsL_len]; omega
        have z2 : (one 48).size ≤ 1 := Nat.le_refl _
        rcases ho with rfl | rfl
        · have HS := Lib.hid (show bstr (bitsL 0 n k) ++ one 48 = bstr (bitsL 0 n (k + 1)) by rw [bits_low, one_bstr, bstr_app, HBT.out]; rfl)
          go_wp2
          go_roundw
          case rel => exact ⟨k + 1, by omega, by go_num, by rw [← HS.out], (by repeat (first | exact More.refl _ | apply More.plus | apply More.alloc | apply More.drew | apply More.drewN))⟩
          case measure => simp [intOf]; omega
        · have HS := Lib.hid (show one 48 ++ bstr (bitsL 1 n k) = bstr (bitsL 1 n (k + 1)) by rw [bits_high, one_bstr, bstr_app, HBT.out]; rfl)
          go_wp2
          go_roundw
          case rel => exact ⟨k + 1, by omega, by go_num, by rw [← HS.out], (by repeat (first | exact More.refl _ | apply More.plus | apply More.alloc | apply More.drew | apply More.drewN))⟩
          case measure => simp [intOf]; omega
    · obtain rfl : k = wn := by omega
      go_wp2
      go_ret
      exact Ret.mk (by repeat (first | exact More.refl _ | apply More.plus | apply More.alloc | apply More.drew | apply More.drewN))

/-- the bits of bytes -/
def unpL (o : Int) (bs : List UInt8) : List UInt8 := bs.flatMap fun b => bitsL o b.toNat 8

theorem unpL_len (o : Int) : ∀ bs : List UInt8, (unpL o bs).length = 8 * bs.length
  | [] => rfl
  | b :: bs => by
    have : unpL o (b :: bs) = bitsL o b.toNat 8 ++ unpL o bs := rfl
    rw [this, List.length_append, bitsL_len, unpL_len o bs, List.length_cons]; omega

theorem unpL_snoc (o : Int) (bs : List UInt8) (b : UInt8) : unpL o (bs ++ [b]) = unpL o bs ++ bitsL o b.toNat 8 := by simp [unpL]

theorem take_get {s : ByteArray} {k : Nat} (h : k < s.size) : s.data.toList.take (k + 1) = s.data.toList.take k ++ [s[k]] := by
  rw [List.take_add_one, List.getElem?_eq_getElem (by rw [bytes_len]; exact h), bytes_get h]; rfl

/-- a slice of bytes that lies somewhere, made a string -/
theorem run_str_some {P : Program} {W : World} {src dst e : TypeId} (hs : P.underlying src = some (.slice e)) (he : P.underlying e = some (.int .u8)) (hd : P.underlying dst = some .string)
    {a : Addr} {cap : Nat} {bs : List UInt8} (h : Rd encB W (some a) cap bs) : (convert src dst (.slice (some a) bs.length cap)).run P W = .ok (.string (bstr bs)) W := by
  rcases Nat.eq_zero_or_pos bs.length with h0 | h0
  · obtain rfl : bs = [] := List.eq_nil_of_length_eq_zero h0
    show (convert src dst (.slice (some a) 0 cap)).run P W = _
    rw [run_convert_bytes_string W src dst e (some a) 0 cap hs he hd]
    have hl : (loadCells a 0).run P W = .ok (([] : List Int).map (Value.int .u8)).toArray W := by
      have := run_loadCells_list (P := P) W a [] (fun j v hj => by simp at hj)
      simpa using this
    rw [run_bytesToString W _ _ _ _ hl]
    rfl
  · exact run_str hs he hd h h0



set_option maxRecDepth 100000 in
set_option maxHeartbeats 2000000 in
theorem unpackBytes_any (o : Int) (s : ByteArray) (w : World) (hs : s.size ≤ 4000) :
    Calls Tryz.prog 45 #[.int .i64 o, .string s] w (Ret w (.string (bstr (unpL o s.data.toList)))) := by
  obtain ⟨i0, hi, hz0, hz1, hz2⟩ := info_parts infoByte
  have hmk : ∀ W : World, (Instr.makeSlice 34 (.int .i64 0) (.int .i64 (8 * (s.size : Int)))).run Tryz.prog W = .ok (.slice (some ⟨W.heap.size, 0, none⟩) 0 (8 * s.size)) (W.alloc (.cells (madeCells (Value.int .u8 0).cells (8 * s.size)) 5)) := by
    intro W
    have := run_make (P := Tryz.prog) (w := W) 34 5 i0 _ Tryz.underlying34 hi hz0 .i64 .i64 (0 : Int) (8 * (s.size : Int)) (by omega) (by omega) (by rw [hz2]; omega) (by omega)
    rw [hz1] at this
    have e : (8 * (s.size : Int)).toNat = 8 * s.size := by omega
    rw [e] at this
    simpa using this
  go_enter Tryz.func45, Tryz.ntmps45
  go_wp2
  go_loopw [5, 13] (fun t q wr => ∃ (k : Nat) (ys : List UInt8) (A' : Addr) (c' : Nat), k ≤ s.size ∧ q = .int .i64 k ∧ t = .slice (some A') ys.length c' ∧ ys = unpL o (s.data.toList.take k) ∧ Own encB 5 wr (some A') c' ys w.heap.size ∧ Below w.heap.size w wr) (fun _ q _ => s.size - (intOf q).toNat)
  case atStart =>
    exact ⟨0, [], _, _, Nat.zero_le _, rfl, rfl, by simp [unpL], Own.newAt rfl (Nat.le_refl _) (by simp [size_madeCells, encB]) (row_of encB _ _ (fun i x h => by simp at h)) (by simp) (by omega), (by repeat (first | exact Below.refl _ _ | refine below_plus ?_ (by first | omega | (simp <;> omega)) _ | refine Below.alloc ?_ (by first | omega | (simp <;> omega)) _ | refine below_patch ?_ (by omega) _ | refine Below.drew ?_))⟩
  case round =>
    obtain ⟨k, ys, A', c', hk, rfl, rfl, hys, hown, hbl⟩ := hrel
    have HO := Lib.hid hown
    have hsz := hbl.size
    have HB := Lib.hid hbl
    have HY := Lib.hid hys
    have hyl : ys.length ≤ 32000 := by rw [hys, unpL_len, List.length_take, bytes_len]; omega
    clear hown hbl hys
    rcases dec (k < s.size) with ⟨hlt, v1⟩ | ⟨hlt, v1⟩
    · have hb := (s[k]).toNat_lt
      have HT := Lib.hid (take_get hlt)
      go_wp2_with fail
      refine (appendBits_any (some A') c' ys w.heap.size o _ 8 _ HO.out hsz (by omega) (by omega) (by omega) (by omega)).mono ?_
      rintro e w6 ⟨A6', c6, rfl, hown6, hg6, hw6⟩
      obtain ⟨b6, cur6, rfl, _⟩ := own_some hown6 (by rw [List.length_append, bitsL_len]; omega)
      obtain ⟨A6, hA6⟩ : ∃ X, (⟨b6, 0, none⟩ : Addr) = X := ⟨_, rfl⟩
      rw [hA6] at hown6 ⊢
      have HO6 := Lib.hid hown6
      have HB6 := Lib.hid (HB.out.trans (hg6.below hsz fun X hX => (own_lt HO.out X hX).1))
      clear hown6 hg6 hw6 hA6
      go_wp2_with fail
      go_roundw
      case rel =>
        exact ⟨k + 1, ys ++ bitsL o (s[k].toNat : Int) 8, A6, c6, by omega, by go_num, by simp, by rw [HT.out, unpL_snoc, HY.out], HO6.out, HB6.out⟩
      case measure => simp [intOf]; omega
    · obtain rfl : k = s.size := by omega
      have hcv := fun (W : World) (h : Rd encB W (some A') c' ys) => run_str_some (P := Tryz.prog) Tryz.underlying34 Tryz.underlying5 Tryz.underlying9 h
      have hcv2 := hcv _ HO.out.rd
      have HS := Lib.hid (show bstr ys = bstr (unpL o s.data.toList) by rw [HY.out, List.take_of_length_le (by rw [bytes_len]; exact Nat.le_refl _)])
      clear hcv
      go_wp2
      go_ret
      exact ret_of (by rw [← HS.out]; simp) (below_more HB.out)

set_option maxRecDepth 100000 in
set_option maxHeartbeats 2000000 in
theorem l1Unpack_any (o : Int) (s : ByteArray) (w : World) (ho : o = 0 ∨ o = 1) (hs : s.size ≤ 4000) :
    Calls Tryz.prog 50 #[.int .i64 o, .string s] w (Ret w (.string (bstr (unpL o s.data.toList)))) := by
  obtain ⟨i0, hi, hz0, hz1, hz2⟩ := info_parts infoByte
  have hmk : ∀ W : World, (Instr.makeSlice 34 (.int .i64 0) (.int .i64 (8 * (s.size : Int)))).run Tryz.prog W = .ok (.slice (some ⟨W.heap.size, 0, none⟩) 0 (8 * s.size)) (W.alloc (.cells (madeCells (Value.int .u8 0).cells (8 * s.size)) 5)) := by
    intro W
    have := run_make (P := Tryz.prog) (w := W) 34 5 i0 _ Tryz.underlying34 hi hz0 .i64 .i64 (0 : Int) (8 * (s.size : Int)) (by omega) (by omega) (by rw [hz2]; omega) (by omega)
    rw [hz1] at this
    have e : (8 * (s.size : Int)).toNat = 8 * s.size := by omega
    rw [e] at this
    simpa using this
  go_enter Tryz.func50, Tryz.ntmps50
  go_wp2
  go_loopw [5, 6] (fun t q wr => ∃ (k : Nat) (ys : List UInt8) (A' : Addr) (c' : Nat), k ≤ s.size ∧ q = .int .i64 k ∧ t = .slice (some A') ys.length c' ∧ ys = unpL o (s.data.toList.take k) ∧ Own encB 5 wr (some A') c' ys w.heap.size ∧ Below w.heap.size w wr) (fun _ q _ => s.size - (intOf q).toNat)
  case atStart =>
    exact ⟨0, [], _, _, Nat.zero_le _, rfl, rfl, by simp [unpL], Own.newAt rfl (Nat.le_refl _) (by simp [size_madeCells, encB]) (row_of encB _ _ (fun i x h => by simp at h)) (by simp) (by omega), (by repeat (first | exact Below.refl _ _ | refine below_plus ?_ (by first | omega | (simp <;> omega)) _ | refine Below.alloc ?_ (by first | omega | (simp <;> omega)) _ | refine below_patch ?_ (by omega) _ | refine Below.drew ?_))⟩
  case round =>
    obtain ⟨k, ys, A', c', hk, rfl, rfl, hys, hown, hbl⟩ := hrel
    have HO := Lib.hid hown
    have hsz := hbl.size
    have HB := Lib.hid hbl
    have HY := Lib.hid hys
    have hyl : ys.length ≤ 32000 := by rw [hys, unpL_len, List.length_take, bytes_len]; omega
    clear hown hbl hys
    rcases dec (k < s.size) with ⟨hlt, v1⟩ | ⟨hlt, v1⟩
    · have hb := (s[k]).toNat_lt
      have HT := Lib.hid (take_get hlt)
      go_wp2_with fail
      refine (l1Code_any o _ 8 _ ho (by omega) (by omega) (by omega)).mono ?_
      rintro e w5 ⟨rfl, x5, rfl⟩
      have z5 : (bstr (bitsL o (s[k].toNat : Int) 8)).size = 8 := by rw [bstr_size, bitsL_len]
      have d5 : (bstr (bitsL o (s[k].toNat : Int) 8)).data.toList = bitsL o (s[k].toNat : Int) 8 := bytes_bstr _
      have D5 := Lib.hid d5
      clear d5
      go_wp2_with (at_builtin; refine wpList_append_str _ _ _ _ _ i0 rfl rfl Tryz.underlying34 Tryz.underlying9 hi hz0 hz1 hz2 ys (some A') c' w.heap.size (by repeat (first | (with_reducible exact HO.out) | (with_reducible apply Own.plus) | (with_reducible apply Own.alloc) | (with_reducible apply Own.drew))) rfl _ rfl (by omega) (by simp <;> omega) ?_; intro A6' c6 w6 hw6 hg6 hx6; rw [D5.out] at hw6 ⊢; obtain ⟨b6, cur6, rfl, _⟩ := own_some hw6 (by rw [List.length_append, bitsL_len]; omega); obtain ⟨A6, hA6⟩ : ∃ X, (⟨b6, 0, none⟩ : Addr) = X := ⟨_, rfl⟩; rw [hA6] at hw6 ⊢; have HO6 := Lib.hid hw6; have HB6 := Lib.hid (HB.out.trans (Below.trans (b := plus wr x5) (by repeat (first | exact Below.refl _ _ | refine below_plus ?_ (by first | omega | (simp <;> omega)) _ | refine Below.alloc ?_ (by first | omega | (simp <;> omega)) _ | refine below_patch ?_ (by omega) _ | refine Below.drew ?_)) (hg6.below (by simp <;> omega) fun X hX => (own_lt HO.out X hX).1))); clear hw6 hg6 hA6)
      go_roundw
      case rel =>
        exact ⟨k + 1, ys ++ bitsL o (s[k].toNat : Int) 8, A6, c6, by omega, by go_num, by simp, by rw [HT.out, unpL_snoc, HY.out], HO6.out, HB6.out⟩
      case measure => simp [intOf]; omega
    · obtain rfl : k = s.size := by omega
      have hcv := fun (W : World) (h : Rd encB W (some A') c' ys) => run_str_some (P := Tryz.prog) Tryz.underlying34 Tryz.underlying5 Tryz.underlying9 h
      have hcv2 := hcv _ HO.out.rd
      have HS := Lib.hid (show bstr ys = bstr (unpL o s.data.toList) by rw [HY.out, List.take_of_length_le (by rw [bytes_len]; exact Nat.le_refl _)])
      clear hcv
      go_wp2
      go_ret
      exact ret_of (by rw [← HS.out]; simp) (below_more HB.out)

end Go.Proofs.YtmddcbebaijjkaaGreatDoor

/- Numbers of bits: the plain forms, and the walks of bitsNumber and l1Number. -/
namespace Go.Proofs.YtmddcbebaijjkaaGreatDoor
open Go.RowKit
set_option linter.unusedVariables false
set_option linter.unusedSimpArgs false

/-- a bit's value -/
def bv1 (b : UInt8) : Int := if b = 49 then 1 else 0

/-- digits, the one of highest value first -/
def hor (l : List UInt8) : Int := l.foldl (fun n b => 2 * n + bv1 b) 0

theorem hor_snoc (l : List UInt8) (b : UInt8) : hor (l ++ [b]) = 2 * hor l + bv1 b := by simp [hor]

theorem hor_fold : ∀ (l : List UInt8) (n : Int), l.foldl (fun n b => 2 * n + bv1 b) n = n * 2 ^ l.length + hor l
  | [], n => by simp [hor]
  | b :: l, n => by
    rw [List.foldl_cons, hor_fold l, show hor (b :: l) = l.foldl (fun n b => 2 * n + bv1 b) (2 * 0 + bv1 b) from rfl, hor_fold l, List.length_cons, Int.pow_succ]
    rw [Int.add_mul, Int.add_mul, Int.mul_zero, Int.zero_mul, Int.zero_add, Int.add_assoc, Int.mul_comm 2 n, Int.mul_assoc, Int.mul_comm 2 (2 ^ l.length)]

theorem hor_cons (b : UInt8) (l : List UInt8) : hor (b :: l) = bv1 b * 2 ^ l.length + hor l := by
  show l.foldl (fun n b => 2 * n + bv1 b) (2 * 0 + bv1 b) = _
  rw [hor_fold, show (2 * 0 + bv1 b : Int) = bv1 b by omega]

theorem bv1_bd (b : UInt8) : 0 ≤ bv1 b ∧ bv1 b ≤ 1 := by unfold bv1; split <;> omega

theorem hor_bd : ∀ l : List UInt8, 0 ≤ hor l ∧ hor l < 2 ^ l.length
  | [] => by simp [hor]
  | b :: l => by
    have := bv1_bd b
    have ih := hor_bd l
    rw [hor_cons, List.length_cons, Int.pow_succ]
    have hp : (0 : Int) ≤ 2 ^ l.length := by have := ih.1; have := ih.2; omega
    rcases (by omega : bv1 b = 0 ∨ bv1 b = 1) with e | e <;> rw [e] <;> omega

/-- the number with some bits in an order -/
def numL (o : Int) (bs : List UInt8) : Int := hor (if o = 1 then bs else bs.reverse)

/-- the part of it that the first k bits make -/
def numK (o : Int) (w : Nat) (bs : List UInt8) (k : Nat) : Int := if o = 1 then hor (bs.take k) * 2 ^ (w - k) else hor (bs.take k).reverse

theorem numK_zero (o : Int) (w : Nat) (bs : List UInt8) : numK o w bs 0 = 0 := by unfold numK; split <;> simp [hor]

theorem numK_all (o : Int) (bs : List UInt8) : numK o bs.length bs bs.length = numL o bs := by
  unfold numK numL
  split <;> simp

theorem numK_step {o : Int} {w : Nat} {bs : List UInt8} {k : Nat} {b : UInt8} (hk : bs[k]? = some b) (hw : k < w) : numK o w bs (k + 1) = numK o w bs k + bv1 b * 2 ^ ixB o w k := by
  have ht : bs.take (k + 1) = bs.take k ++ [b] := by rw [List.take_add_one, hk]; rfl
  have hl : (bs.take k).length = k := by rw [List.length_take]; have := (List.getElem?_eq_some_iff.1 hk).1; omega
  unfold numK ixB
  split
  · rw [ht, hor_snoc, show w - k = (w - (k + 1)) + 1 by omega, Int.pow_succ, Int.add_mul, show w - 1 - k = w - (k + 1) by omega]
    rw [Int.mul_comm 2 (hor _), Int.mul_assoc, Int.mul_comm 2 (2 ^ _)]
  · rw [ht, List.reverse_append, List.reverse_singleton, List.singleton_append, hor_cons, List.length_reverse, hl]
    omega

theorem pow_le {a b : Nat} (h : a ≤ b) : (2 : Int) ^ a ≤ 2 ^ b := by
  have := Nat.pow_le_pow_right (n := 2) (by omega) h
  exact_mod_cast this

theorem numK_bd {o : Int} {w : Nat} {bs : List UInt8} {k : Nat} (hk : k ≤ bs.length) (hw : bs.length ≤ w) (h10 : w ≤ 10) : 0 ≤ numK o w bs k ∧ numK o w bs k < 1024 := by
  have hl : (bs.take k).length = k := by rw [List.length_take]; omega
  have hp : (2 : Int) ^ w ≤ 1024 := pow_le h10
  unfold numK
  split
  · have h := hor_bd (bs.take k)
    rw [hl] at h
    have hq : (0 : Int) < 2 ^ (w - k) := by have : (0 : Nat) < 2 ^ (w - k) := Nat.pow_pos (by omega); exact_mod_cast this
    refine ⟨Int.mul_nonneg h.1 (by omega), ?_⟩
    have h2 : hor (bs.take k) * 2 ^ (w - k) < 2 ^ k * 2 ^ (w - k) := Int.mul_lt_mul_of_pos_right h.2 hq
    rw [← Int.pow_add, show k + (w - k) = w by omega] at h2
    omega
  · have h := hor_bd (bs.take k).reverse
    rw [List.length_reverse, hl] at h
    have := pow_le (a := k) (b := 10) (by omega)
    omega

set_option maxRecDepth 100000 in
set_option maxHeartbeats 2000000 in
theorem bitsNumber_any (o : Int) (s : ByteArray) (w : World) (hs : s.size ≤ 10) :
    Calls Tryz.prog 88 #[.int .i64 o, .string s] w (Ret w (.int .i64 (numL o s.data.toList))) := by
  go_enter Tryz.func88, Tryz.ntmps88
  go_wp2
  go_loopw [5, 9] (fun t q wr => ∃ (k : Nat), k ≤ s.size ∧ q = .int .i64 k ∧ t = .int .i64 (numK o s.size s.data.toList k) ∧ More w wr) (fun _ q _ => s.size - (intOf q).toNat)
  case atStart => exact ⟨0, Nat.zero_le _, rfl, by rw [numK_zero], More.refl _⟩
  case round =>
    obtain ⟨k, hk, rfl, rfl, x, rfl⟩ := hrel
    rcases dec (k < s.size) with ⟨hlt, v1⟩ | ⟨hlt, v1⟩
    · have hget : s.data.toList[k]? = some s[k] := by rw [List.getElem?_eq_getElem (by rw [bytes_len]; exact hlt), bytes_get hlt]
      have HST := Lib.hid (numK_step (o := o) (w := s.size) hget hlt)
      have hbd := numK_bd (o := o) (w := s.size) (bs := s.data.toList) (k := k) (by rw [bytes_len]; omega) (by rw [bytes_len]; exact Nat.le_refl _) hs
      have hbd2 := numK_bd (o := o) (w := s.size) (bs := s.data.toList) (k := k + 1) (by rw [bytes_len]; omega) (by rw [bytes_len]; exact Nat.le_refl _) hs
      have hix := ixB_lt (o := o) hlt
      have hcall := fun (W : World) => place_any o k s.size W hlt hs
      obtain ⟨p1, p2⟩ := pow_bd (k := ixB o s.size k) (by omega)
      generalize hm2 : numK o s.size s.data.toList (k + 1) = m2 at *
      have HM2 := Lib.hid hm2
      clear hm2
      generalize numK o s.size s.data.toList k = m1 at *
      generalize (2 : Int) ^ ixB o s.size k = p at *
      by_cases hb : s[k] = 49
      · have v2 : ((s[k].toNat : Int) == 49) = true := by rw [hb]; rfl
        have HM := Lib.hid (show m1 + p = m2 by have := HST.out; rw [hb, show bv1 49 = 1 by decide] at this; omega)
        clear hb hget
        go_wp2_with (go_at_call 128; refine (hcall _).mono ?_; rintro e w' ⟨rfl, xc, rfl⟩)
        go_roundw
        case rel => exact ⟨k + 1, by omega, by go_num, by rw [HM2.out, ← HM.out], (by repeat (first | exact More.refl _ | apply More.plus | apply More.alloc | apply More.drew | apply More.drewN))⟩
        case measure => simp [intOf]; omega
      · have v2 : ((s[k].toNat : Int) == 49) = false := by
          simp only [beq_eq_false_iff_ne, ne_eq]
          intro q
          exact hb (UInt8.toNat_inj.1 (by have : s[k].toNat = 49 := by omega
                                          rw [this]; rfl))
        have HM := Lib.hid (show m1 = m2 by have := HST.out; rw [show bv1 s[k] = 0 by unfold bv1; rw [if_neg hb]] at this; omega)
        clear hb hget
        go_wp2_with fail
        go_roundw
        case rel => exact ⟨k + 1, by omega, by go_num, by rw [HM2.out, ← HM.out], (by repeat (first | exact More.refl _ | apply More.plus | apply More.alloc | apply More.drew | apply More.drewN))⟩
        case measure => simp [intOf]; omega
    · obtain rfl : k = s.size := by omega
      have HA := Lib.hid (numK_all o s.data.toList)
      go_wp2
      go_ret
      exact ret_of (by rw [← HA.out, bytes_len]; simp) (by repeat (first | exact More.refl _ | apply More.plus | apply More.alloc | apply More.drew | apply More.drewN))

/-- only bits -/
def BV (bs : List UInt8) : Prop := ∀ b, b ∈ bs → b = 48 ∨ b = 49

theorem numL_hor (o : Int) (bs : List UInt8) : numL o bs = hor (if o = 1 then bs else bs.reverse) := rfl


set_option maxRecDepth 100000 in
set_option maxHeartbeats 2000000 in
theorem l1Number_any (o : Int) (s : ByteArray) (w : World) (ho : o = 0 ∨ o = 1) (hs : s.size ≤ 10) (hbv : BV s.data.toList) :
    Calls Tryz.prog 123 #[.int .i64 o, .string s] w (Ret w (.int .i64 (numL o s.data.toList))) := by
  obtain ⟨L, hL⟩ : ∃ L, (if o = 1 then s.data.toList else s.data.toList.reverse) = L := ⟨_, rfl⟩
  have hLl : L.length = s.size := by rw [← hL]; split <;> simp
  have HL := Lib.hid hL
  have HBV := Lib.hid hbv
  have HLL := Lib.hid hLl
  clear hL hbv hLl
  go_enter Tryz.func123, Tryz.ntmps123
  go_wp2
  go_loopw [5, 6] (fun t q wr => ∃ (k : Nat), k ≤ s.size ∧ q = .int .i64 k ∧ t = .int .i64 (hor (L.take k)) ∧ More w wr) (fun _ q _ => s.size - (intOf q).toNat)
  case atStart => exact ⟨0, Nat.zero_le _, rfl, rfl, More.refl _⟩
  case round =>
    obtain ⟨k, hk, rfl, rfl, x, rfl⟩ := hrel
    rcases dec (k < s.size) with ⟨hlt, v1⟩ | ⟨hlt, v1⟩
    · have hbd := hor_bd (L.take k)
      have hll : (L.take k).length = k := by rw [List.length_take, HLL.out]; omega
      rw [hll] at hbd
      have hp := pow_le (a := k) (b := 10) (by omega)
      have hb1 : hor (L.take k) < 1024 := by omega
      have hb0 := hbd.1
      clear hbd hp hll
      rcases ho with rfl | rfl
      · have hidx : s.size - 1 - k < s.size := by omega
        have HG := Lib.hid (show L[k]? = some s[s.size - 1 - k] by
          rw [← HL.out, if_neg (by omega), List.getElem?_reverse (by rw [bytes_len]; exact hlt), bytes_len, List.getElem?_eq_getElem (by rw [bytes_len]; exact hidx), bytes_get hidx])
        have HT := Lib.hid (show L.take (k + 1) = L.take k ++ [s[s.size - 1 - k]] by rw [List.take_add_one, HG.out]; rfl)
        have hcase : s[s.size - 1 - k] = 48 ∨ s[s.size - 1 - k] = 49 := HBV.out _ (by rw [← bytes_get hidx]; exact List.getElem_mem _)
        rcases hcase with hcase | hcase
        · have hv : s[s.size - 1 - k].toNat = 48 := by rw [hcase]; rfl
          have HN := Lib.hid (show hor (L.take (k + 1)) = 2 * hor (L.take k) by rw [HT.out, hor_snoc, hcase, show bv1 48 = 0 by decide, Int.add_zero])
          clear hcase
          go_wp2
          go_roundw
          case rel => exact ⟨k + 1, by omega, by go_num, int_val (by rw [HN.out]; try omega), (by repeat (first | exact More.refl _ | apply More.plus | apply More.alloc | apply More.drew | apply More.drewN))⟩
          case measure => simp [intOf]; omega
        · have hv : s[s.size - 1 - k].toNat = 49 := by rw [hcase]; rfl
          have HN := Lib.hid (show hor (L.take (k + 1)) = 2 * hor (L.take k) + 1 by rw [HT.out, hor_snoc, hcase, show bv1 49 = 1 by decide])
          clear hcase
          go_wp2
          go_roundw
          case rel => exact ⟨k + 1, by omega, by go_num, int_val (by rw [HN.out]; try omega), (by repeat (first | exact More.refl _ | apply More.plus | apply More.alloc | apply More.drew | apply More.drewN))⟩
          case measure => simp [intOf]; omega
      · have HG := Lib.hid (show L[k]? = some s[k] by
          rw [← HL.out, if_pos rfl, List.getElem?_eq_getElem (by rw [bytes_len]; exact hlt), bytes_get hlt])
        have HT := Lib.hid (show L.take (k + 1) = L.take k ++ [s[k]] by rw [List.take_add_one, HG.out]; rfl)
        have hcase : s[k] = 48 ∨ s[k] = 49 := HBV.out _ (by rw [← bytes_get hlt]; exact List.getElem_mem _)
        rcases hcase with hcase | hcase
        · have hv : s[k].toNat = 48 := by rw [hcase]; rfl
          have HN := Lib.hid (show hor (L.take (k + 1)) = 2 * hor (L.take k) by rw [HT.out, hor_snoc, hcase, show bv1 48 = 0 by decide, Int.add_zero])
          clear hcase
          go_wp2
          go_roundw
          case rel => exact ⟨k + 1, by omega, by go_num, int_val (by rw [HN.out]; try omega), (by repeat (first | exact More.refl _ | apply More.plus | apply More.alloc | apply More.drew | apply More.drewN))⟩
          case measure => simp [intOf]; omega
        · have hv : s[k].toNat = 49 := by rw [hcase]; rfl
          have HN := Lib.hid (show hor (L.take (k + 1)) = 2 * hor (L.take k) + 1 by rw [HT.out, hor_snoc, hcase, show bv1 49 = 1 by decide])
          clear hcase
          go_wp2
          go_roundw
          case rel => exact ⟨k + 1, by omega, by go_num, int_val (by rw [HN.out]; try omega), (by repeat (first | exact More.refl _ | apply More.plus | apply More.alloc | apply More.drew | apply More.drewN))⟩
          case measure => simp [intOf]; omega
    · obtain rfl : k = s.size := by omega
      go_wp2
      go_ret
      exact ret_of (by rw [numL_hor, HL.out, List.take_of_length_le (by rw [HLL.out]; exact Nat.le_refl _)]; simp) (by repeat (first | exact More.refl _ | apply More.plus | apply More.alloc | apply More.drew | apply More.drewN))

end Go.Proofs.YtmddcbebaijjkaaGreatDoor

/- Bits packed into bytes: the plain form, and the walks of packBytes, l9Many, l1Pad, l1Pack. -/
namespace Go.Proofs.YtmddcbebaijjkaaGreatDoor
open Go.RowKit
set_option linter.unusedVariables false
set_option linter.unusedSimpArgs false

/-- eight bits, with zeros at the end -/
def pad8 (c : List UInt8) : List UInt8 := c ++ List.replicate (8 - c.length) 48

/-- chunk j of some bits -/
def chk (bs : List UInt8) (j : Nat) : List UInt8 := (bs.drop (8 * j)).take 8

/-- byte j of packed bits -/
def pkB (o : Int) (bs : List UInt8) (j : Nat) : UInt8 := UInt8.ofNat (numL o (pad8 (chk bs j))).toNat

/-- bits packed into bytes -/
def pckL (o : Int) (bs : List UInt8) : List UInt8 := (List.range ((bs.length + 7) / 8)).map (pkB o bs)

theorem pckL_len (o : Int) (bs : List UInt8) : (pckL o bs).length = (bs.length + 7) / 8 := by simp [pckL]

theorem pckL_get {o : Int} {bs : List UInt8} {j : Nat} (h : j < (bs.length + 7) / 8) : (pckL o bs)[j]? = some (pkB o bs j) := by simp [pckL, h]

theorem chk_len (bs : List UInt8) (j : Nat) : (chk bs j).length = min 8 (bs.length - 8 * j) := by unfold chk; rw [List.length_take, List.length_drop]

theorem pkB_bd {o : Int} (c : List UInt8) (h : c.length ≤ 8) : 0 ≤ numL o (pad8 c) ∧ numL o (pad8 c) ≤ 255 := by
  have hl : (pad8 c).length = 8 := by unfold pad8; rw [List.length_append, List.length_replicate]; omega
  unfold numL
  have h1 := hor_bd (if o = 1 then pad8 c else (pad8 c).reverse)
  have h2 : (if o = 1 then pad8 c else (pad8 c).reverse).length = 8 := by split <;> simp [hl]
  rw [h2] at h1
  have : (2 : Int) ^ 8 = 256 := by decide
  omega

theorem byte_back {n : Int} (h0 : 0 ≤ n) (h1 : n ≤ 255) : ((UInt8.ofNat n.toNat).toNat : Int) = n := by
  rw [UInt8.toNat_ofNat']; omega

/-- an own slice of bytes, made a string -/
theorem run_str_own {P : Program} {W : World} {src dst e e' : TypeId} (hs : P.underlying src = some (.slice e)) (he : P.underlying e = some (.int .u8)) (hd : P.underlying dst = some .string)
    {A : Option Addr} {cap lo : Nat} {bs : List UInt8} (h : Own encB e' W A cap bs lo) : (convert src dst (.slice A bs.length cap)).run P W = .ok (.string (bstr bs)) W := by
  rcases h with ⟨rfl, rfl, rfl⟩ | h
  · show (convert src dst (.slice none 0 0)).run P W = _
    rw [run_convert_bytes_string W src dst e none 0 0 hs he hd]
    rfl
  · obtain ⟨b, cur, rfl, h1⟩ := h
    exact run_str_some hs he hd (Own.rd (e := e') (lo := lo) (.inr ⟨b, cur, rfl, h1⟩))

/-! ### The reference's packing -/

theorem rep_app (a b : Nat) : bstr (List.replicate a (48 : UInt8)) ++ bstr (List.replicate b 48) = bstr (List.replicate (a + b) 48) := by
  rw [bstr_app, List.replicate_append_replicate]

set_option maxHeartbeats 1000000 in
theorem l9Many_any (n : Nat) (w : World) (hn : n < 8) : Calls Tryz.prog 41 #[.string ⟨#[48]⟩, .int .i64 n] w (Ret w (.string (bstr (List.replicate n 48)))) := by
  go_enter Tryz.func41, Tryz.ntmps41
  go_wp2
  go_loopw [0, 1, 5] (fun s q t wr => ∃ (m a b : Nat), q = .int .i64 m ∧ s = .string (bstr (List.replicate b 48)) ∧ t = .string (bstr (List.replicate a 48)) ∧ a + b * m = n ∧ b ≤ 14 ∧ m ≤ 7 ∧ More w wr) (fun _ q _ _ => (intOf q).toNat)
  case atStart => exact ⟨n, 0, 1, rfl, rfl, rfl, by omega, by omega, by omega, More.refl _⟩
  case round =>
    obtain ⟨m, a, b, rfl, rfl, rfl, hab, hb, hm7, x, rfl⟩ := hrel
    have z1 : (bstr (List.replicate a (48 : UInt8))).size = a := by rw [bstr_size, List.length_replicate]
    have z2 : (bstr (List.replicate b (48 : UInt8))).size = b := by rw [bstr_size, List.length_replicate]
    have R1 := Lib.hid (rep_app a b)
    have R2 := Lib.hid (rep_app b b)
    have HAB := Lib.hid hab
    have ha : a ≤ n := by rw [← hab]; exact Nat.le_add_right _ _
    have hbm : 1 ≤ m → b ≤ 7 := fun h => by have : b * 1 ≤ b * m := Nat.mul_le_mul_left b h; omega
    clear hab
    rcases dec (0 < m) with ⟨hlt, v1⟩ | ⟨hlt, v1⟩
    · have hb7 := hbm hlt
      have v2 : decide ((0 : Int) < (m : Int)) = true := by simp; omega
      have E3 := Lib.hid (show wrap64 ((m : Int) / 2) = (m : Int) / 2 from wrap64_of (by omega) (by omega))
      rcases Nat.mod_two_eq_zero_or_one m with h2 | h2
      · have e2 : (m : Int) % 2 = 0 := by omega
        have HN := Lib.hid (show a + (b + b) * (m / 2) = n by rw [Nat.add_mul, ← Nat.mul_two, Nat.mul_assoc, show m / 2 * 2 = m by omega]; exact HAB.out)
        go_wp2
        go_roundw
        case rel => exact ⟨m / 2, a, b + b, int_val (by first | omega | (rw [E3.out]; omega)), by rw [R2.out], rfl, HN.out, by omega, by omega, (by repeat (first | exact More.refl _ | apply More.plus | apply More.alloc | apply More.drew | apply More.drewN))⟩
        case measure => simp [intOf, E3.out]; omega
      · have e2 : (m : Int) % 2 = 1 := by omega
        have HN := Lib.hid (show (a + b) + (b + b) * (m / 2) = n by
          have h3 : b * m = b + (b + b) * (m / 2) := by
            have h4 : m = m / 2 * 2 + 1 := by omega
            rw [Nat.add_mul, ← Nat.mul_two, Nat.mul_assoc]
            have h5 : b * m = b * (m / 2 * 2) + b := by rw [← Nat.mul_succ]; congr 1
            omega
          have := HAB.out
          omega)
        go_wp2
        go_roundw
        case rel => exact ⟨m / 2, a + b, b + b, int_val (by first | omega | (rw [E3.out]; omega)), by rw [R2.out], by rw [R1.out], HN.out, by omega, by omega, (by repeat (first | exact More.refl _ | apply More.plus | apply More.alloc | apply More.drew | apply More.drewN))⟩
        case measure => simp [intOf, E3.out]; omega
    · obtain rfl : m = 0 := by omega
      have v2 : decide ((0 : Int) < ((0 : Nat) : Int)) = false := by simp
      go_wp2
      go_ret
      exact ret_of (by rw [show n = a by have := HAB.out; omega]; simp) (by repeat (first | exact More.refl _ | apply More.plus | apply More.alloc | apply More.drew | apply More.drewN))

/-- bits, padded to whole bytes -/
def padL (bs : List UInt8) : List UInt8 := bs ++ List.replicate ((8 - bs.length % 8) % 8) 48

theorem padL_len (bs : List UInt8) : (padL bs).length = 8 * ((bs.length + 7) / 8) := by
  unfold padL
  rw [List.length_append, List.length_replicate]
  omega

theorem padL_chk {bs : List UInt8} {j : Nat} (h : j < (bs.length + 7) / 8) : chk (padL bs) j = pad8 (chk bs j) := by
  have hl := chk_len bs j
  unfold pad8
  rw [hl]
  unfold chk padL
  rw [List.drop_append_of_le_length (by omega), List.take_append, List.length_drop]
  congr 1
  rw [List.take_replicate]
  congr 1
  omega

theorem padL_bv {bs : List UInt8} (h : BV bs) : BV (padL bs) := fun b hb => by
  unfold padL at hb
  rcases List.mem_append.1 hb with hb | hb
  · exact h b hb
  · exact .inl (List.eq_of_mem_replicate hb)

theorem l9Many_pad (s : ByteArray) : ∃ P : ByteArray, P.size ≤ 8 ∧ s ++ P = bstr (padL s.data.toList) ∧ ∀ (W : World) (t : ByteArray) (q : Int), t = ⟨#[48]⟩ → q = (8 - (s.size : Int) % 8) % 8 → Calls Tryz.prog 41 #[.string t, .int .i64 q] W (Ret W (.string P)) := by
  refine ⟨bstr (List.replicate ((8 - s.size % 8) % 8) 48), by rw [bstr_size, List.length_replicate]; omega, ?_, fun W t q ht hq => ?_⟩
  · unfold padL
    rw [bytes_len, ← bstr_app, bstr_bytes]
  · have h := l9Many_any ((8 - s.size % 8) % 8) W (by omega)
    rw [ht, hq]
    rwa [show (((8 - s.size % 8) % 8 : Nat) : Int) = (8 - (s.size : Int) % 8) % 8 by omega] at h

set_option maxRecDepth 100000 in
theorem l1Pad_any (s : ByteArray) (w : World) (hs : s.size ≤ 32000) : Calls Tryz.prog 122 #[.string s] w (Ret w (.string (bstr (padL s.data.toList)))) := by
  obtain ⟨P, z1, hS, hcall⟩ := l9Many_pad s
  have HS := Lib.hid hS
  have HCL := Lib.hid hcall
  clear hS hcall
  generalize bstr (padL s.data.toList) = R at *
  go_enter Tryz.func122, Tryz.ntmps122
  go_wp2_with fail
  refine (HCL.out _ _ _ ?_ ?_).mono ?_
  · rfl
  · first | rfl | omega
  rintro e w' ⟨rfl, xc, rfl⟩
  go_wp2
  go_ret
  exact ret_of (by rw [← HS.out]; simp) (by repeat (first | exact More.refl _ | apply More.plus | apply More.alloc | apply More.drew | apply More.drewN))

end Go.Proofs.YtmddcbebaijjkaaGreatDoor
