/- A slice of bytes of the call's own whose block may bear a mark behind its last cell (a string's bytes, converted): append onto it, and appendBits. -/
import Derived.Test.YtmenpflcmpihpaaBtu
import Derived.Laws.IdiomStrings
namespace Go.Proofs.Ytmenpflcmpihpaa
open Go.RowKit
set_option linter.unusedVariables false
set_option linter.unusedSimpArgs false

/-- an own slice of bytes; no cell of its block is frozen -/
def OwM (e : TypeId) (w : World) (a : Option Addr) (cap : Nat) (xs : List UInt8) (lo : Nat) : Prop :=
  (a = none ∧ cap = 0 ∧ xs = []) ∨ ∃ b cur fz, a = some ⟨b, 0, none⟩ ∧ lo ≤ b ∧ w.heap[b]? = some (.cells cur e fz) ∧ (fz = (0, 0) ∨ cur.size ≤ fz.1) ∧ cur.size = cap * encB.sz ∧ Row encB cur xs ∧ xs.length ≤ cap ∧ cap ≤ 9223372036854775807

section
variable {e : TypeId} {w w' : World} {a : Option Addr} {cap : Nat} {xs : List UInt8} {lo : Nat}

theorem OwM.of_block (h : OwM e w a cap xs lo) (hs : ∀ A, a = some A → A.block < w.heap.size → w'.heap[A.block]? = w.heap[A.block]?) : OwM e w' a cap xs lo := by
  rcases h with h | ⟨b, cur, fz, rfl, h0, hb, h1⟩
  · exact .inl h
  · exact .inr ⟨b, cur, fz, rfl, h0, (hs _ rfl (Array.getElem?_eq_some_iff.1 hb).1).trans hb, h1⟩

theorem OwM.plus (h : OwM e w a cap xs lo) (x : Ext) : OwM e (Go.Proofs.Ytmenpflcmpihpaa.plus w x) a cap xs lo := h.of_block fun A _ hb => plus_block w x hb

theorem OwM.alloc (h : OwM e w a cap xs lo) (o : Obj) : OwM e (w.alloc o) a cap xs lo := by rw [alloc_plus]; exact h.plus _

theorem OwM.drew (h : OwM e w a cap xs lo) : OwM e w.drew a cap xs lo := by rw [drew_is_plus]; exact h.plus _

theorem OwM.lower {lo' : Nat} (h : OwM e w a cap xs lo) (hl : lo' ≤ lo) : OwM e w a cap xs lo' := by
  rcases h with h | ⟨b, cur, fz, h0, h1, h2⟩
  · exact .inl h
  · exact .inr ⟨b, cur, fz, h0, by omega, h2⟩

theorem ownm_lt (h : OwM e w a cap xs lo) : ∀ A, a = some A → lo ≤ A.block ∧ A.block < w.heap.size := by
  rcases h with ⟨rfl, _⟩ | ⟨b, cur, fz, rfl, h0, hb, h1⟩
  · intro A hA; cases hA
  · intro A hA; cases hA; exact ⟨h0, (Array.getElem?_eq_some_iff.1 hb).1⟩

theorem cells_of_mark {b : Nat} {cur : Array Value} {fz : Nat × Nat} (h : w.heap[b]? = some (.cells cur e fz)) (i : Nat) : w.cell? ⟨b, i, none⟩ = cur[i]? := by
  simp [World.cell?, h]

theorem free_of_mark {b : Nat} {cur : Array Value} {fz : Nat × Nat} (h : w.heap[b]? = some (.cells cur e fz)) (hf : fz = (0, 0) ∨ cur.size ≤ fz.1) {i : Nat} (hi : i < cur.size) : w.frozen? ⟨b, i, none⟩ = false := by
  rcases hf with rfl | hf
  · simp [World.frozen?, h]
  · obtain ⟨p, q⟩ := fz
    simp only at hf
    simp [World.frozen?, h]
    omega

theorem OwM.rd (h : OwM e w a cap xs lo) : Rd encB w a cap xs := by
  rcases h with ⟨rfl, rfl, rfl⟩ | ⟨b, cur, fz, rfl, _, hb, _, _, hr, h1, h2⟩
  · exact ⟨by simp, by omega, .inl rfl⟩
  · exact ⟨h1, h2, .inr ⟨b, 0, rfl, (Array.getElem?_eq_some_iff.1 hb).1, fun j u hj => by rw [Nat.zero_add, cells_of_mark hb]; exact hr j u hj⟩⟩

end

theorem run_append_m {P : Program} {w : World} (t tx ty e : TypeId) (i : TypeInfo) (ht : P.underlying t = some (.slice e)) (hi : P.info? e = some i) (hz : i.zero = some (.int .u8 0)) (hsz : i.size = 1) (hby : i.bytes = 1)
    (xs : List UInt8) (A : Option Addr) (cap lo : Nat) (hown : OwM e w A cap xs lo) (x : Value) (ys : List UInt8) (hs : Src P encB.sz tx x ys.length (flat encB ys) w)
    (h63 : xs.length + ys.length ≤ 140737488355328) (hlo : lo ≤ w.heap.size) (hpos : 0 < ys.length) :
    ∃ A' c' w', (Builtin.append_ #[t, tx] ty #[.slice A xs.length cap, x]).run P w = .ok (.slice A' (xs ++ ys).length c') w' ∧ OwM e w' A' c' (xs ++ ys) lo ∧ Grew A w w' ∧ Nxt A A' w.heap.size := by
  have hfl : flat encB (xs ++ ys) = flat encB xs ++ flat encB ys := by simp [flat]
  have hlx := flat_len encB xs
  have hly := flat_len encB ys
  have hE : encB.sz = 1 := rfl
  by_cases hfit : xs.length + ys.length ≤ cap
  · rcases hown with ⟨rfl, rfl, rfl⟩ | ⟨b, cur, fz, rfl, h0, hb, hfz, hcs, hr, h1, h2⟩
    · have h9 : ([] : List UInt8).length = 0 := rfl
      omega
    · have hbs := (Array.getElem?_eq_some_iff.1 hb).1
      have hend : xs.length * encB.sz + (flat encB ys).length ≤ cur.size := by rw [hly, hcs, ← Nat.add_mul]; exact Nat.mul_le_mul_right _ hfit
      have hcs1 : cur.size = cap := by rw [hcs, hE]; omega
      have hyl1 : (flat encB ys).length = ys.length := by rw [hly, hE]; omega
      have hrun := run_append_room_src (P := P) w t tx ty e i ht hi b 0 xs.length cap x ys.length (flat encB ys) (by rw [hsz]; exact hs) hfit
        (fun j hj => by rw [cells_of_mark hb, hsz, Array.getElem?_eq_getElem (by rw [hyl1] at hj; omega)]; rfl) (fun j hj => free_of_mark hb hfz (by rw [hyl1] at hj; rw [hsz]; omega))
      rw [hsz, Nat.zero_add] at hrun
      have hpt := setCells_patch (flat encB ys) (xs.length * 1) w cur hb
      rw [hpt] at hrun
      refine ⟨some ⟨b, 0, none⟩, cap, _, by rw [List.length_append]; exact hrun, .inr ⟨b, _, fz, rfl, h0, patch_at _ _ _ hbs, by rw [putL_size]; exact hfz, by rw [putL_size]; exact hcs, ?_, by rw [List.length_append]; exact hfit, h2⟩, ⟨rfl, rfl, rfl, by simp, fun k hk hA => patch_other _ _ _ (fun e => hA _ rfl e.symm)⟩, fun X hX => .inl ⟨_, rfl, by cases hX; rfl⟩⟩
      refine (fun j u hj => ?_ : ∀ (j : Nat) (u : Value), (flat encB (xs ++ ys))[j]? = some u → _)
      rw [hfl, List.getElem?_append, hlx] at hj
      split at hj
      · rw [putL_out _ _ _ _ (by rename_i h9; rw [hE] at h9; exact h9)]; exact hr j u hj
      · have := putL_in (flat encB ys) (xs.length * encB.sz) cur _ u hj hend
        rwa [show xs.length * encB.sz + (j - xs.length * encB.sz) = j by omega] at this
  · have hold : (Builtin.firstCells i.size xs.length (.slice A xs.length cap)).run P w.drew = .ok (flat encB xs).toArray w.drew := by
      rcases hown with ⟨rfl, rfl, rfl⟩ | ⟨b, cur, fz, rfl, h0, hb, hfz, hcs, hr, h1, h2⟩
      · exact run_firstCells_none (P := P) w.drew i.size 0 0 0
      · exact run_firstCells_some (P := P) w.drew i.size xs.length ⟨b, 0, none⟩ xs.length cap (flat encB xs) (by rw [hsz]; exact hlx) (fun j v hj => by
          rw [Addr.add_lit, Nat.zero_add]
          exact (cells_of_mark (w := w.drew) hb j).trans (hr j v hj))
    have hcb : cap ≤ xs.length + ys.length := by omega
    have hnx : Builtin.nextslicecap (xs.length + ys.length) cap * i.bytes ≤ 281474976710656 := by
      have : Builtin.nextslicecap (xs.length + ys.length) cap ≤ 2 * (xs.length + ys.length) := by
        exact nextslicecap_le (by omega)
      rw [hby]
      omega
    have hrun := run_append_grow_src (P := P) w t tx ty e i _ ht hi hz A xs.length cap (flat encB xs) hold x ys.length (flat encB ys) (by rw [hsz]; exact hs) (by omega) (by omega) hnx
    have hge := grownCap_ge w (xs.length + ys.length) cap e
    have hle := grownCap_le_maxLen w (xs.length + ys.length) cap e (by simp [maxLen]; omega)
    refine ⟨some ⟨w.heap.size, 0, none⟩, grownCap w (xs.length + ys.length) cap e, w.drew.alloc (.cells ((flat encB xs ++ flat encB ys).toArray ++ Builtin.zeroCells (Value.int .u8 0).cells (grownCap w (xs.length + ys.length) cap e - (xs.length + ys.length))) e), by rw [List.length_append]; exact hrun, .inr ⟨w.heap.size, _, (0, 0), rfl, hlo, by show (w.drew.alloc _).heap[w.drew.heap.size]? = _; rw [push_at, if_neg (by omega), if_pos rfl], .inl rfl, ?_, ?_, by rw [List.length_append]; omega, by simpa [maxLen] using hle⟩, ⟨rfl, rfl, rfl, by simp, fun k hk _ => by show (w.drew.alloc _).heap[k]? = _; rw [push_at, if_pos (show k < w.drew.heap.size from hk)]; rfl⟩, fun X hX => .inr (by cases hX; rfl)⟩
    · have hm : (grownCap w (xs.length + ys.length) cap e) * encB.sz = (xs.length + ys.length) * encB.sz + (grownCap w (xs.length + ys.length) cap e - (xs.length + ys.length)) * encB.sz := by
        rw [← Nat.add_mul]; congr 1; omega
      have hzs : (Value.int .u8 0).cells.size = encB.sz := rfl
      rw [Array.size_append, size_zeroCells, hzs, hm]
      simp [hlx, hly, Nat.add_mul]
    · refine (fun j u hj => ?_ : ∀ (j : Nat) (u : Value), (flat encB (xs ++ ys))[j]? = some u → _)
      have hjl := (List.getElem?_eq_some_iff.1 hj).1
      rw [hfl] at hj hjl
      rw [Array.getElem?_append_left (by simpa using hjl)]
      simpa using hj

/-- append of bytes that lie in memory onto an own slice -/
theorem wpList_append_m {P : Program} {ops : Array Oper} {rest : List Oper} {o : Oper} {a : Act} {w : World} {Q : Exit → Act → World → Prop} (s x : Operand) (t e : TypeId) (i : TypeInfo) (hgd : o.guard = none)
    (ho : o.op = .call { callee := .builtin .append, args := #[s, x], argTypes := #[t, t] }) (ht : P.underlying t = some (.slice e)) (hi : P.info? e = some i) (hz : i.zero = some (.int .u8 0)) (hsz : i.size = 1) (hby : i.bytes = 1)
    (xs : List UInt8) (A : Option Addr) (cap : Nat) (lo : Nat) (hown : OwM e w A cap xs lo) (hs : a.eval s = .slice A xs.length cap)
    (ys : List UInt8) (b off c : Nat) (hr : ∀ j u, (flat encB ys)[j]? = some u → w.cell? ⟨b, off + j, none⟩ = some u) (hx : a.eval x = .slice (some ⟨b, off, none⟩) ys.length c) (hpos : 0 < ys.length)
    (h63 : xs.length + ys.length ≤ 140737488355328) (hlo : lo ≤ w.heap.size)
    (h : ∀ (A' : Option Addr) (c' : Nat) (w' : World), OwM e w' A' c' (xs ++ ys) lo → Grew A w w' → Nxt A A' w.heap.size → wpList P ops Q rest (a.put o.dst (.slice A' (xs ++ ys).length c')) w') :
    wpList P ops Q (o :: rest) a w := by
  refine wpList_plain hgd fun K hK => ?_
  obtain ⟨A', c', w', hrun, h1, h2, h3⟩ := run_append_m (P := P) (w := w) t t o.type e i ht hi hz hsz hby xs A cap lo hown (.slice (some ⟨b, off, none⟩) ys.length c) ys
    (Src.ofSlice w ht _ _ _ _ (by rw [flat_len]) (fun j u hj => by rw [Addr.add_lit]; exact hr j u hj) (flat_one encB ys)) (by omega) hlo hpos
  unfold Oper.wp execOp
  simp only [ho, resolve, invoke, builtin, Sem.run_bind, Sem.run_pure, Result.andThen_ok, List.map_toArray, List.map_cons, List.map_nil, hs, hx, hrun]
  exact hK _ _ (h A' c' w' h1 h2 h3)

/-- what a call leaves that grows an own slice of bytes -/
def RetGm (w : World) (A : Option Addr) (xs : List UInt8) (lo : Nat) (e : Ending) (w' : World) : Prop :=
  ∃ A' c', e = .returned (.slice A' xs.length c') ∧ OwM 5 w' A' c' xs lo ∧ Grew A w w' ∧ Within A A' w.heap.size

set_option maxRecDepth 100000 in
set_option maxHeartbeats 2000000 in
theorem appendBits_m (A : Option Addr) (cap : Nat) (xs : List UInt8) (lo : Nat) (o n : Int) (wn : Nat) (w : World) (hown : OwM 5 w A cap xs lo) (hlo : lo ≤ w.heap.size) (hn0 : 0 ≤ n) (hn1 : n < 1024) (hw : wn ≤ 10) (hl : xs.length ≤ 1000000) :
    Calls Try.prog 74 #[.slice A xs.length cap, .int .i64 o, .int .i64 n, .int .i64 wn] w (RetGm w A (xs ++ bitsL o n wn) lo) := by
  have HO := Lib.hid hown
  obtain ⟨i0, hi, hz0, hz1, hz2⟩ := info_parts infoByte
  clear hown
  go_enter Try.func74, Try.ntmps74
  go_wp2
  go_loopw [0, 12] (fun s q wr => ∃ (k : Nat) (ys : List UInt8) (A' : Option Addr) (c' : Nat), k ≤ wn ∧ q = .int .i64 k ∧ s = .slice A' ys.length c' ∧ ys = xs ++ (bitsL o n wn).take k ∧ OwM 5 wr A' c' ys lo ∧ Grew A w wr ∧ Within A A' w.heap.size) (fun _ q _ => wn - (intOf q).toNat)
  case atStart => exact ⟨0, xs, A, cap, Nat.zero_le _, rfl, rfl, by simp, HO.out, grew_refl _ _, within_refl _ _⟩
  case round =>
    obtain ⟨k, ys, A', c', hk, rfl, rfl, hys, hown, hg, hwi⟩ := hrel
    have hyl : ys.length ≤ 1000010 := by rw [hys, List.length_append, List.length_take]; omega
    have hsz := hg.size
    have HY := Lib.hid hys
    have HO2 := Lib.hid hown
    have HG := Lib.hid hg
    have HW := Lib.hid hwi
    clear hys hown hg hwi
    rcases dec (k < wn) with ⟨hlt, v1⟩ | ⟨hlt, v1⟩
    · have hix := ixB_lt (o := o) hlt
      have hand := bits_and (n := n) (k := ixB o wn k) hn0 hn1 (by omega)
      obtain ⟨p1, p2⟩ := pow_bd (k := ixB o wn k) (by omega)
      have hcall := fun (W : World) => place_any o k wn W hlt hw
      have HT := Lib.hid (bitsL_take (o := o) (n := n) hlt)
      by_cases hb : n / 2 ^ ixB o wn k % 2 = 1
      · have HBT := Lib.hid (show bt n (ixB o wn k) = 49 by unfold bt; rw [if_pos hb])
        rw [if_pos hb] at hand
        clear hb
        generalize (2 : Int) ^ ixB o wn k = p at *
        have e0 : (p != 0) = true := by simp; omega
        go_wp2_with (first | (go_at_call 131; refine (hcall _).mono ?_; rintro e w' ⟨rfl, xc, rfl⟩) | (at_builtin; refine wpList_append_m _ _ _ _ i0 rfl rfl Try.underlying90 hi hz0 hz1 hz2 ys A' c' lo (by repeat (first | (with_reducible exact HO2.out) | (with_reducible apply OwM.plus) | (with_reducible apply OwM.alloc) | (with_reducible apply OwM.drew))) rfl [49] _ 0 1 (one_cells _ _ 49 (by omega) (by omega) (by simp)) rfl (by decide) (by simp; omega) (by simp <;> omega) ?_; intro A6 c6 w6 hw6 hg6 hx6; have HO6 := Lib.hid hw6; have HG6 := Lib.hid hg6; have HX6 := Lib.hid hx6; clear hw6 hg6 hx6))
        go_roundw
        case rel =>
          exact ⟨k + 1, ys ++ [49], A6, c6, by omega, by go_num, by simp, by rw [HT.out, ← List.append_assoc, ← HY.out, HBT.out], HO6.out, grew_within HG.out HW.out (grew_trans (grew_alloc (grew_plus (grew_refl _ _) _) _) HG6.out), HW.out.trans (HX6.out.within (by simp <;> omega)) (Nat.le_refl _)⟩
        case measure => simp [intOf]; omega
      · have HBT := Lib.hid (show bt n (ixB o wn k) = 48 by unfold bt; rw [if_neg hb])
        rw [if_neg hb] at hand
        clear hb
        generalize (2 : Int) ^ ixB o wn k = p at *
        go_wp2_with (first | (go_at_call 131; refine (hcall _).mono ?_; rintro e w' ⟨rfl, xc, rfl⟩) | (at_builtin; refine wpList_append_m _ _ _ _ i0 rfl rfl Try.underlying90 hi hz0 hz1 hz2 ys A' c' lo (by repeat (first | (with_reducible exact HO2.out) | (with_reducible apply OwM.plus) | (with_reducible apply OwM.alloc) | (with_reducible apply OwM.drew))) rfl [48] _ 0 1 (one_cells _ _ 48 (by omega) (by omega) (by simp)) rfl (by decide) (by simp; omega) (by simp <;> omega) ?_; intro A6 c6 w6 hw6 hg6 hx6; have HO6 := Lib.hid hw6; have HG6 := Lib.hid hg6; have HX6 := Lib.hid hx6; clear hw6 hg6 hx6))
        go_roundw
        case rel =>
          exact ⟨k + 1, ys ++ [48], A6, c6, by omega, by go_num, by simp, by rw [HT.out, ← List.append_assoc, ← HY.out, HBT.out], HO6.out, grew_within HG.out HW.out (grew_trans (grew_alloc (grew_plus (grew_refl _ _) _) _) HG6.out), HW.out.trans (HX6.out.within (by simp <;> omega)) (Nat.le_refl _)⟩
        case measure => simp [intOf]; omega
    · obtain rfl : k = wn := by omega
      go_wp2
      go_ret
      refine ⟨A', c', ?_, ?_, HG.out, HW.out⟩
      · rw [HY.out, List.take_of_length_le (by rw [bitsL_len]; omega)]; simp
      · have := HO2.out
        rw [HY.out, List.take_of_length_le (by rw [bitsL_len]; omega)] at this
        exact this

/-- the block of a string's bytes, converted -/
def convX (w : World) (s : ByteArray) : Ext := ⟨#[.cells (bytesRow s (grownCap w s.size 0 5)) 5 ((bytesRow s (grownCap w s.size 0 5)).size, (bytesRow s (grownCap w s.size 0 5)).size + 1)], w.drawn + 1⟩

theorem conv_run {P : Program} (w : World) (src dst : TypeId) (s : ByteArray) (hs : P.underlying src = some .string) (hd : P.underlying dst = some (.slice 5)) (he : P.underlying 5 = some (.int .u8)) :
    (convert src dst (.string s)).run P w = .ok (.slice (some ⟨w.heap.size, 0, none⟩) s.size (grownCap w s.size 0 5)) (plus w (convX w s)) := by
  have hW : ∀ ob : Obj, w.drew.alloc ob = plus w ⟨#[ob], w.drawn + 1⟩ := fun ob => by rw [alloc_plus, drew_is_plus, plus_plus]; simp [Ext.seq, plus]
  rw [run_bytes_of_string (P := P) w src dst 5 s hs hd he, hW]
  rfl

theorem conv_own (w : World) (s : ByteArray) (hl : s.size ≤ maxLen) (lo : Nat) (hlo : lo ≤ w.heap.size) :
    OwM 5 (plus w (convX w s)) (some ⟨w.heap.size, 0, none⟩) (grownCap w s.size 0 5) s.data.toList lo := by
  have hge := grownCap_ge w s.size 0 5
  have hle := grownCap_le_maxLen w s.size 0 5 (by unfold maxLen at hl ⊢; omega)
  unfold convX
  obtain ⟨c, hc⟩ : ∃ c, grownCap w s.size 0 5 = c := ⟨_, rfl⟩
  rw [hc] at hge hle ⊢
  have hsz : (bytesRow s c).size = c := by unfold bytesRow; simp; omega
  have hW : ∀ ob : Obj, w.drew.alloc ob = plus w ⟨#[ob], w.drawn + 1⟩ := fun ob => by rw [alloc_plus, drew_is_plus, plus_plus]; simp [Ext.seq, plus]
  refine .inr ⟨w.heap.size, bytesRow s c, _, rfl, hlo, by rw [← hW]; exact push_new _ _ _ rfl, .inr (Nat.le_refl _), by rw [hsz]; exact (Nat.mul_one c).symm, ?_, by simp; omega, by simpa [maxLen] using hle⟩
  exact row_of encB _ _ fun i x hx j hj => by
    obtain rfl : j = 0 := by have : j < 1 := hj; omega
    have hil := (List.getElem?_eq_some_iff.1 hx).1
    have e1 : i * encB.sz + 0 = i := by show i * 1 + 0 = i; omega
    rw [e1]
    unfold bytesRow
    rw [Array.getElem?_append_left (by simpa using hil)]
    rw [Array.getElem?_map, ← Array.getElem?_toList, hx]
    rfl

/-- the conversion, one operation -/
theorem oper_conv_m {P : Program} {op : Oper} {a : Act} {w : World} {K : Act → World → Prop} {Q : Exit → Act → World → Prop} (src dst : TypeId) (x : Operand) (ho : op.op = .convert src dst x) (hs : P.underlying src = some .string) (hd : P.underlying dst = some (.slice 5)) (he : P.underlying 5 = some (.int .u8))
    (s : ByteArray) (hx : a.eval x = .string s) (hl : s.size ≤ maxLen) (lo : Nat) (hlo : lo ≤ w.heap.size)
    (h : ∀ (cap : Nat) (y : Ext), OwM 5 (plus w y) (some ⟨w.heap.size, 0, none⟩) cap s.data.toList lo → y.n = 1 → K (a.put op.dst (.slice (some ⟨w.heap.size, 0, none⟩) s.size cap)) (plus w y)) : op.wp P a w K Q := by
  have hrun := conv_run (P := P) w src dst s hs hd he
  unfold Oper.wp execOp
  simp only [ho, Sem.run_bind, Sem.run_pure, Result.andThen_ok, hx, hrun]
  exact h _ _ (conv_own w s hl lo hlo) rfl

theorem convX_n (w : World) (s : ByteArray) : (convX w s).n = 1 := rfl

end Go.Proofs.Ytmenpflcmpihpaa
