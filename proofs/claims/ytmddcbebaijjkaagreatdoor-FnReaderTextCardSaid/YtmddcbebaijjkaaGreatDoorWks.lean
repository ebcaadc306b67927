/- The walk of spec.l2Walk: what is known at the end, the widths and the data of codes. -/
import Derived.Test.YtmddcbebaijjkaaGreatDoorGy
namespace Go.Proofs.YtmddcbebaijjkaaGreatDoor
open Go.RowKit
set_option linter.unusedVariables false
set_option linter.unusedSimpArgs false

/-- append of a string's bytes onto an own slice of bytes: one operation -/
theorem oper_append_str {P : Program} {o : Oper} {a : Act} {w : World} {K : Act → World → Prop} {Q : Exit → Act → World → Prop} (s x : Operand) (t tx e : TypeId) (i : TypeInfo)
    (ho : o.op = .call { callee := .builtin .append, args := #[s, x], argTypes := #[t, tx] }) (ht : P.underlying t = some (.slice e)) (hk : P.underlying tx = some .string) (hi : P.info? e = some i) (hz : i.zero = some (.int .u8 0)) (hsz : i.size = 1) (hby : i.bytes = 1)
    (xs : List UInt8) (A : Option Addr) (cap : Nat) (lo : Nat) (hown : Own encB e w A cap xs lo) (hs : a.eval s = .slice A xs.length cap) (y : ByteArray) (hx : a.eval x = .string y)
    (h63 : xs.length + y.size ≤ 140737488355328) (hlo : lo ≤ w.heap.size)
    (h : ∀ (A' : Option Addr) (c' : Nat) (w' : World), Own encB e w' A' c' (xs ++ y.data.toList) lo → Grew A w w' → Nxt A A' w.heap.size → K (a.put o.dst (.slice A' (xs ++ y.data.toList).length c')) w') :
    o.wp P a w K Q := by
  have hl : y.data.toList.length = y.size := by simp
  obtain ⟨A', c', w', hrun, h1, h2, h3⟩ := run_append_any (P := P) (w := w) encB t tx o.type e i _ 1 ht hi hz hsz hby rfl xs A cap lo hown (.string y) y.data.toList (src_string hk y) (by omega) (by omega) hlo
  unfold Oper.wp execOp
  simp only [ho, resolve, invoke, builtin, Sem.run_bind, Sem.run_pure, Result.andThen_ok, List.map_toArray, List.map_cons, List.map_nil, hs, hx, hrun]
  exact h A' c' w' h1 h2 h3

/-- how the results stand to the plain ones -/
def MT (R : Option (List Int × List UInt8)) (W : List Int) (y : ByteArray) (bb : Bool) : Prop :=
  match R with
  | some (W0, D0) => W = W0 ∧ y = bstr D0 ∧ bb = true ∧ D0.length ≤ 2000
  | none => bb = false ∨ 2000 < y.size

/-- what l2Walk leaves -/
def RetL2 (w : World) (o l m : Int) (b : Nat) (R : Option (List Int × List UInt8)) (e : Ending) (w' : World) : Prop :=
  ∃ (pa : Option Addr) (pn pc : Nat) (last : Int) (wa : Option Addr) (wc : Nat) (W : List Int) (y : ByteArray) (bb : Bool),
    e = .returned (.tuple #[.agg #[.int .i64 o, .int .i64 l, .int .i64 m, .slice pa pn pc, .int .i64 b, .int .i64 last], .slice wa W.length wc, .string y, .bool bb]) ∧ Own encI 3 w' wa wc W w.heap.size ∧ y.size ≤ 5000 ∧
    MT R W y bb ∧ ∃ x, w' = plus w x

/-- what stays in a region: what is known, and a code -/
def CK (w' : World) (B : Nat) (K : Obj) (bg i : Nat) (c : Int) : Prop := w'.heap[B]? = some K ∧ w'.cell? ⟨bg, i, none⟩ = some (.int .i64 c)

theorem cell_lt {w : World} {n i : Nat} {v : Value} (h : w.cell? ⟨n, i, none⟩ = some v) : n < w.heap.size := by
  by_cases hn : n < w.heap.size
  · exact hn
  · unfold World.cell? at h
    rw [Array.getElem?_eq_none (show w.heap.size ≤ n by omega)] at h
    cases h

section
variable {w w' : World} {B : Nat} {K : Obj} {bg i : Nat} {c : Int}

theorem CK.plus (h : CK w B K bg i c) (x : Ext) : CK (Go.Proofs.YtmddcbebaijjkaaGreatDoor.plus w x) B K bg i c :=
  ⟨blk_plus h.1 _, by rw [plus_cell_lt w x (a := ⟨bg, i, none⟩) (cell_lt h.2)]; exact h.2⟩

theorem CK.drew (h : CK w B K bg i c) : CK w.drew B K bg i c := by rw [drew_is_plus]; exact h.plus _

theorem ck_seq {x y : Ext} (h : CK (Go.Proofs.YtmddcbebaijjkaaGreatDoor.plus w x) B K bg i c) : CK (Go.Proofs.YtmddcbebaijjkaaGreatDoor.plus w (x.seq y)) B K bg i c := by rw [← plus_plus]; exact h.plus y

theorem CK.grew {A : Option Addr} (h : CK w B K bg i c) (hg : Grew A w w') (h1 : Off A B) (h2 : Off A bg) : CK w' B K bg i c :=
  ⟨blk_grew hg h.1 h1, by rw [World.cell?_of_block (a := ⟨bg, i, none⟩) (hg.block bg (cell_lt h.2) h2)]; exact h.2⟩

end

theorem rdp_grew {w w' : World} {A pa : Option Addr} {pc : Nat} {ps : List Pr} (h : RdP w pa pc ps) (hg : Grew A w w') (ho : pc = 0 ∨ ∀ X, A = some X → Off pa X.block) : RdP w' pa pc ps := by
  obtain ⟨h1, h2, h3⟩ := h
  refine ⟨h1, h2, ?_⟩
  rcases h3 with h3 | ⟨b, off, rfl, hb, hc⟩
  · exact .inl h3
  · rcases ho with ho | ho
    · exact .inl ho
    · refine .inr ⟨b, off, rfl, by have := hg.size; omega, fun j u hj => ?_⟩
      rw [World.cell?_of_block (a := ⟨b, off + j, none⟩) (hg.block b hb fun X hX e => ho X hX _ rfl e.symm)]
      exact hc j u hj

theorem rdp_lt {w : World} {pa : Option Addr} {pc : Nat} {ps : List Pr} (h : RdP w pa pc ps) : pc = 0 ∨ ∀ X, pa = some X → X.block < w.heap.size := by
  obtain ⟨h1, h2, h3⟩ := h
  rcases h3 with h3 | ⟨b, off, rfl, hb, hc⟩
  · exact .inl h3
  · exact .inr fun X hX => by cases hX; exact hb

/-- what is known in block B (its pairs lie anywhere), and two slices of the call's own -/
structure T3q (w : World) (B : Nat) (o l m : Int) (ps : List Pr) (base last : Int) (pa : Option Addr) (pc : Nat) (wa : Option Addr) (wc : Nat) (W : List Int) (da : Option Addr) (dc : Nat) (D : List UInt8) : Prop where
  blk : w.heap[B]? = some (.cells #[.int .i64 o, .int .i64 l, .int .i64 m, .slice pa ps.length pc, .int .i64 base, .int .i64 last] 26 (0, 0))
  rp : RdP w pa pc ps
  ow : Own encI 3 w wa wc W (B + 1)
  od : Own encB 5 w da dc D (B + 1)
  wp : pc = 0 ∨ ∀ X, wa = some X → Off pa X.block
  wd' : ∀ X, wa = some X → Off da X.block
  dp : pc = 0 ∨ ∀ X, da = some X → Off pa X.block

section
variable {w w' : World} {B : Nat} {o l m : Int} {ps ps' : List Pr} {base last last' : Int} {pa : Option Addr} {pc : Nat} {wa : Option Addr} {wc : Nat} {W : List Int} {da : Option Addr} {dc : Nat} {D : List UInt8}

theorem T3q.plus (h : T3q w B o l m ps base last pa pc wa wc W da dc D) (x : Ext) : T3q (Go.Proofs.YtmddcbebaijjkaaGreatDoor.plus w x) B o l m ps base last pa pc wa wc W da dc D :=
  ⟨blk_plus h.blk _, h.rp.plus _, h.ow.plus _, h.od.plus _, h.wp, h.wd', h.dp⟩

theorem T3q.alloc (h : T3q w B o l m ps base last pa pc wa wc W da dc D) (ob : Obj) : T3q (w.alloc ob) B o l m ps base last pa pc wa wc W da dc D := by rw [alloc_plus]; exact h.plus _

theorem T3q.drew (h : T3q w B o l m ps base last pa pc wa wc W da dc D) : T3q w.drew B o l m ps base last pa pc wa wc W da dc D := by rw [drew_is_plus]; exact h.plus _

theorem t3q_seq {x y : Ext} (h : T3q (Go.Proofs.YtmddcbebaijjkaaGreatDoor.plus w x) B o l m ps base last pa pc wa wc W da dc D) : T3q (Go.Proofs.YtmddcbebaijjkaaGreatDoor.plus w (x.seq y)) B o l m ps base last pa pc wa wc W da dc D := by rw [← plus_plus]; exact h.plus y

theorem T3q.B_lt (h : T3q w B o l m ps base last pa pc wa wc W da dc D) : B < w.heap.size := (Array.getElem?_eq_some_iff.1 h.blk).1

theorem T3q.grewI {A' : Option Addr} {c' : Nat} {ys : List Int} (h : T3q w B o l m ps base last pa pc wa wc W da dc D) (hown : Own encI 3 w' A' c' ys (B + 1)) (hg : Grew wa w w') (hx : Nxt wa A' w.heap.size) :
    T3q w' B o l m ps base last pa pc A' c' ys da dc D where
  blk := by rw [hg.block B h.B_lt fun X hX e => by have := own_lo h.ow X hX; omega]; exact h.blk
  rp := rdp_grew h.rp hg h.wp
  ow := hown
  od := own_grew h.od hg fun X hX Y hY e => h.wd' Y hY X hX e.symm
  wp := by
    rcases h.wp with hp | hp
    · exact .inl hp
    · rcases rdp_lt h.rp with hq | hq
      · exact .inl hq
      · refine .inr fun X hX Y hY e => ?_
        rcases hx X hX with ⟨Z, hZ, he⟩ | he
        · exact hp Z hZ Y hY (by omega)
        · have := hq Y hY; omega
  wd' := fun X hX Y hY e => by
    rcases hx X hX with ⟨Z, hZ, he⟩ | he
    · exact h.wd' Z hZ Y hY (by omega)
    · have := (own_lt h.od Y hY).2; omega
  dp := h.dp

theorem T3q.grewB {A' : Option Addr} {c' : Nat} {ys : List UInt8} (h : T3q w B o l m ps base last pa pc wa wc W da dc D) (hown : Own encB 5 w' A' c' ys (B + 1)) (hg : Grew da w w') (hx : Nxt da A' w.heap.size) :
    T3q w' B o l m ps base last pa pc wa wc W A' c' ys where
  blk := by rw [hg.block B h.B_lt fun X hX e => by have := own_lo h.od X hX; omega]; exact h.blk
  rp := rdp_grew h.rp hg h.dp
  ow := own_grew h.ow hg fun X hX Y hY e => h.wd' X hX Y hY e
  od := hown
  wp := h.wp
  wd' := fun X hX Y hY e => by
    rcases hx Y hY with ⟨Z, hZ, he⟩ | he
    · exact h.wd' X hX Z hZ (by omega)
    · have := (own_lt h.ow X hX).2; omega
  dp := by
    rcases h.dp with hp | hp
    · exact .inl hp
    · rcases rdp_lt h.rp with hq | hq
      · exact .inl hq
      · refine .inr fun X hX Y hY e => ?_
        rcases hx X hX with ⟨Z, hZ, he⟩ | he
        · exact hp Z hZ Y hY (by omega)
        · have := hq Y hY; omega

/-- something else is known: its pairs are new -/
theorem T3q.put {y : Ext} {A' : Option Addr} {c' : Nat} {qs : List Pr} (h : T3q w B o l m ps base last pa pc wa wc W da dc D) (hown : Own encP 81 (Go.Proofs.YtmddcbebaijjkaaGreatDoor.plus w y) A' c' qs w.heap.size) :
    T3q (Go.Proofs.YtmddcbebaijjkaaGreatDoor.plus (patch w B (.cells #[.int .i64 o, .int .i64 l, .int .i64 m, .slice A' qs.length c', .int .i64 base, .int .i64 last'] 26)) y) B o l m qs base last' A' c' wa wc W da dc D where
  blk := blk_plus (patch_at _ _ _ h.B_lt) _
  rp := (own_swap hown (by simp) (Nat.le_refl _)).rd
  ow := (own_turn h.ow).plus _
  od := (own_turn h.od).plus _
  wp := .inr fun X hX Y hY e => by have := (own_lt h.ow X hX).2; have := (own_lt hown Y hY).1; omega
  wd' := h.wd'
  dp := .inr fun X hX Y hY e => by have := (own_lt h.od X hX).2; have := (own_lt hown Y hY).1; omega

end

theorem Lo.nxt {A A' : Option Addr} {n lo : Nat} (h : Lo A lo) (hx : Nxt A A' n) (hn : lo ≤ n) : Lo A' lo := fun X hX => by
  rcases hx X hX with ⟨Y, hY, e⟩ | e
  · have := h Y hY; omega
  · omega

/-- the state of the loop -/
def LSt3 (o l m : Int) (b : Nat) (is : List Int) (R : Option (List Int × List UInt8)) (w0 : World) (k : Nat) (wa : Option Addr) (wn wc : Nat) (da : Option Addr) (dn dc : Nat) (wr : World) : Prop :=
  ∃ (ps : List Pr) (last : Int) (pa : Option Addr) (pc : Nat) (W : List Int) (D : List UInt8), wn = W.length ∧ dn = D.length ∧ T3q wr w0.heap.size o l m ps (b : Int) last pa pc wa wc W da dc D ∧ Lo wa (w0.heap.size + 2) ∧ Lo da (w0.heap.size + 2) ∧
    wr.heap[w0.heap.size + 1]? = some (.cells #[.int .i64 0, .int .i64 0, .int .i64 0, .slice none 0 0, .int .i64 0, .int .i64 0] 26 (0, 0)) ∧ KV o l m ps (b : Int) last ∧
    k ≤ is.length ∧ W.length ≤ k ∧ D.length ≤ 4100 ∧ ((D.length ≤ 2000 ∧ wlk l m b (is.drop k) ps last W D = R) ∨ (2000 < D.length ∧ R = none)) ∧ Below w0.heap.size w0 wr

set_option maxRecDepth 100000 in
set_option maxHeartbeats 4000000 in
theorem l2Walk_any (o l m : Int) (a : Option Addr) (cap : Nat) (ps : List Pr) (base last : Int) (ia : Option Addr) (icap : Nat) (is : List Int) (w : World) (hr : RdP w a cap ps) (hri : Rd encI w ia icap is) (hk : kvb o l m ps base last = true) (hil : is.length ≤ 3100) (b : Nat) (hb : base = b) (R : Option (List Int × List UInt8)) (hR : wlk l m b is ps last [] [] = R) :
    Calls Tryz.prog 124 #[.agg #[.int .i64 o, .int .i64 l, .int .i64 m, .slice a ps.length cap, .int .i64 base, .int .i64 last], .slice ia is.length icap] w (RetL2 w o l m b R) := by
  subst hb
  have hkv := kvb_iff.1 hk
  have hs := hkv.s
  have hlen := kv_len hk
  obtain ⟨_, l1, l2, m1, m2⟩ := sv_iff.1 hs
  have l0 : 0 ≤ l := by omega
  have l10 : l ≤ 10 := by omega
  have HV := Lib.hid hkv
  have HRR := Lib.hid hR
  have HRI := Lib.hid hri
  have HRP := Lib.hid hr
  obtain ⟨i0, hi, iz0, iz1, iz2⟩ := info_parts infoInt
  obtain ⟨j0, hj, jz0, jz1, jz2⟩ := info_parts infoByte
  have mixed : Tryz.prog.follows .mixedOrders = true := by kernel_rfl
  clear hkv hR hri hr
  go_enter Tryz.func124, Tryz.ntmps124
  go_wp2_with fail
  go_loopw [8, 9, 10] (fun p q z wr => ∃ (k : Nat) (wa : Option Addr) (wn wc : Nat) (da : Option Addr) (dn dc : Nat), p = .slice wa wn wc ∧ q = .slice da dn dc ∧ z = .int .i64 k ∧ LSt3 o l m b is R w k wa wn wc da dn dc wr) (fun _ _ z _ => is.length - (intOf z).toNat)
  case atStart =>
    refine ⟨0, _, 0, 0, _, 0, 0, rfl, rfl, rfl, ps, last, a, cap, [], [], rfl, rfl, ⟨?_, (by repeat (first | exact HRP.out | apply rd_seq | apply Rd.plus | apply Rd.alloc | apply Rd.drew | apply Rd.drewN | refine rd_patch ?_ _ _ (by intro A hA; first | (cases hA; show _ ≠ _; omega) | (have := hal A hA; omega)))), ?_, Own.newAt (by simp) (by omega) rfl (fun j u hj => by simp [flat] at hj) (by simp) (by omega), ?_, ?_, ?_⟩, ?_, ?_, ?_, HV.out, by omega, by simp, by simp, .inl ⟨by simp, by rw [List.drop_zero]; exact HRR.out⟩, (by repeat (first | exact Below.refl _ _ | refine below_plus ?_ (by first | omega | (simp <;> omega)) _ | refine Below.alloc ?_ (by first | omega | (simp <;> omega)) _ | refine below_patch ?_ (by omega) _ | refine Below.drew ?_))⟩
    · exact blk_alloc (blk_alloc (blk_alloc (push_new _ _ _ rfl) _) _) _
    · exact (Own.newAt (by simp) (by omega) rfl (fun j u hj => by simp [flat] at hj) (by simp) (by omega)).alloc _
    · rcases rdp_lt HRP.out with h | h
      · exact .inl h
      · exact .inr fun X hX Y hY e => by cases hX; have := h Y hY; simp at e; omega
    · intro X hX Y hY e; cases hX; cases hY; simp at e
    · rcases rdp_lt HRP.out with h | h
      · exact .inl h
      · exact .inr fun X hX Y hY e => by cases hX; have := h Y hY; simp at e; omega
    · intro X hX; cases hX; simp
    · intro X hX; cases hX; simp
    · exact blk_alloc (blk_alloc (push_new _ _ _ (by simp)) _) _
  case round =>
    obtain ⟨k, wa, wn, wc, da, dn, dc, rfl, rfl, rfl, ps', last', pa', pc', W, D, rfl, rfl, ht3, hlw, hld, hrs, hkv, hk1, hwl, hdl, hwk, hbl⟩ := hrel
    have HT := Lib.hid ht3
    have HK := Lib.hid hkv
    have HWK := Lib.hid hwk
    have HBL := Lib.hid hbl
    have HLW := Lib.hid hlw
    have HLD := Lib.hid hld
    have HRS := Lib.hid hrs
    have hlim := hkv.lim
    obtain ⟨_, _, _, _, t1, t2, t3, t4⟩ := hlim.bds
    have hlen' := kv_len (kvb_iff.2 hkv)
    have hb1' := hkv.b1
    have hlast := hlim.last
    have HLM := Lib.hid hlim
    have hsz := ht3.B_lt
    have rk := cell_of ht3.blk
    have rs := cell_of hrs
    have gs := free_of hrs
    have hsz2 := (Array.getElem?_eq_some_iff.1 hrs).1
    obtain ⟨r1, r2, r3⟩ := rdI_open (rd_under HRI.out hbl)
    have hri3 := HRI.out.2.2
    have hwAlt := fun X hX => (own_lt ht3.ow X hX).2
    clear ht3 hkv hwk hbl hlim hlw hld hrs
    rcases dec (k < is.length) with ⟨hlt, v1⟩ | ⟨hlt, v1⟩
    · obtain ⟨c, hc⟩ : ∃ c, is[k]? = some c := ⟨_, List.getElem?_eq_getElem hlt⟩
      rcases rdI_open HRI.out with ⟨_, _, rfl | ⟨bg, off, rfl, hbg0, hcells⟩⟩
      · exact absurd hlt (by omega)
      have c1 : wr.cell? ⟨bg, off + k, none⟩ = some (.int .i64 c) := by rw [World.cell?_of_block (a := ⟨bg, off + k, none⟩) (HBL.out.block bg hbg0)]; exact hcells k c hc
      have HDK := Lib.hid (show is.drop k = c :: is.drop (k + 1) by rw [List.drop_eq_getElem_cons hlt]; congr 1; rw [List.getElem?_eq_getElem hlt] at hc; exact Option.some.inj hc)
      clear hc hcells r3 hri3
      by_cases he : c = two l + 1
      · have v3 : (c == two l + 1) = true := by simp [he]
        by_cases hl : k + 1 = is.length
        · have v5 : ((k : Int) == (is.length : Int) - 1) = true := by simp; omega
          go_wp2_with (first | (go_at_call 94; refine (l2Width_any _ _ _ _ _ _ _ _ _ HLM.out (by omega)).mono ?_; rintro e w' ⟨rfl, xc, rfl⟩) | (at_builtin; refine wpList_append_at encI _ _ _ _ i0 _ 8 rfl rfl Tryz.underlying66 hi iz0 iz1 iz2 rfl (by decide) W wa wc (w.heap.size + 1) (by repeat (first | (with_reducible exact HT.out.ow) | (with_reducible apply own_seq) | (with_reducible apply own_draw) | (with_reducible apply Own.plus) | (with_reducible apply Own.alloc) | (with_reducible apply Own.drew) | (with_reducible apply Own.drewN))) rfl [wd l m ps'.length last'] _ 0 1 (new_cells encI (wd l m ps'.length last') _ _ (by first | omega | rfl | (simp <;> omega) | (simp only [List.length_cons, List.length_nil, plus_size, World.size_alloc]; omega))) rfl (by first | omega | rfl | (simp <;> omega) | (simp only [List.length_cons, List.length_nil, plus_size, World.size_alloc]; omega)) (by first | omega | rfl | (simp <;> omega) | (simp only [List.length_cons, List.length_nil, plus_size, World.size_alloc]; omega)) (by simp <;> omega) ?_; intro A6 c6 w6 hw6 hg6 hx6; have HT6 := Lib.hid (T3q.grewI (o := o) (l := l) (m := m) (ps := ps') (base := (b : Int)) (last := last') (pa := pa') (pc := pc') (W := W) (D := D) (da := da) (dc := dc) (by repeat (first | (with_reducible exact HT.out) | (with_reducible apply t3q_seq) | (with_reducible apply T3q.plus) | (with_reducible apply T3q.alloc) | (with_reducible apply T3q.drew))) hw6 hg6 hx6); have hbl6 := hg6.below (B := w.heap.size + 1) (by simp <;> omega) (fun X hX => own_lo HT.out.ow X hX); have HB6 := Lib.hid (HBL.out.trans (Below.trans (b := _) (by repeat (first | exact Below.refl _ _ | refine below_plus ?_ (by first | omega | (simp <;> omega)) _ | refine Below.alloc ?_ (by first | omega | (simp <;> omega)) _ | refine below_patch ?_ (by omega) _ | refine Below.drew ?_)) (hbl6.mono (by omega)))); have z6 := hg6.size; simp at z6; have HL6 := Lib.hid (Lo.nxt HLW.out hx6 (by simp <;> omega)); have HRS6 := Lib.hid (blk_grew hg6 (by repeat (first | (with_reducible exact HRS.out) | (with_reducible apply blk_seq) | (with_reducible apply blk_draw) | (with_reducible apply blk_plus) | (with_reducible apply blk_alloc) | (with_reducible apply blk_drew) | (with_reducible refine blk_patch ?_ (by omega)) | exact HRS.out)) (fun X hX e => by have := HLW.out X hX; omega)); have r6 := cell_of HT6.out.blk; have q6 := cell_of HRS6.out; have g6 := free_of HRS6.out; have f6 := free_of HT6.out.blk; have s6 := fun v => setCell_patch HT6.out.blk 0 v; have u6 := fun v => setCell_patch HRS6.out 0 v; have hC6 := (Array.getElem?_eq_some_iff.1 HRS6.out).1; have hB6 := HT6.out.B_lt; have HCK := Lib.hid (show CK w6 w.heap.size _ bg (off + k) c from ⟨HT6.out.blk, by rw [World.cell?_of_block (a := ⟨bg, off + k, none⟩) (HB6.out.block bg hbg0), ← World.cell?_of_block (a := ⟨bg, off + k, none⟩) (HBL.out.block bg hbg0)]; exact c1⟩); clear hw6 hg6 hx6 hbl6))
          refine wp_region_pu 7 (fun w' => CK w' w.heap.size (.cells #[.int .i64 o, .int .i64 l, .int .i64 m, .slice pa' ps'.length pc', .int .i64 b, .int .i64 last'] 26 (0, 0)) bg (off + k) c) (Plan.quiet 0 (Plan.quiet 1 (Plan.quiet 2 (Plan.quiet 3 (Plan.quiet 4 (Plan.quiet 5 (Plan.one 6 (Plan.one 7 Plan.done)))))))) (by kernel_rfl) (by kernel_rfl) (HCK.out.drew) ?_
          refine wpPt_val rfl rfl ?_
          apply Exists.intro
          refine ⟨fun w' hS => ?_, ?_⟩
          focus (obtain ⟨hS1, hS2⟩ := hS; have rS := cell_of hS1; simp [go_sem, ↓IntWalk.iteOmega, rS, hS2] <;> first | done | exact rfl | (rw [IntWalk.i64_in _ (by omega)]; exact rfl) | trace_state)
          refine wpPt_val rfl rfl ?_
          apply Exists.intro
          refine ⟨fun w' hS => ?_, ?_⟩
          focus (obtain ⟨hS1, hS2⟩ := hS; have rS := cell_of hS1; simp [go_sem, ↓IntWalk.iteOmega, rS, hS2] <;> first | done | exact rfl | (rw [IntWalk.i64_in _ (by omega)]; exact rfl) | trace_state)
          refine wpPt_val rfl rfl ?_
          apply Exists.intro
          refine ⟨fun w' hS => ?_, ?_⟩
          focus (obtain ⟨hS1, hS2⟩ := hS; have rS := cell_of hS1; simp [go_sem, ↓IntWalk.iteOmega, rS, hS2] <;> first | done | exact rfl | (rw [IntWalk.i64_in _ (by omega)]; exact rfl) | trace_state)
          refine wpPt_val rfl rfl ?_
          apply Exists.intro
          refine ⟨fun w' hS => ?_, ?_⟩
          focus (obtain ⟨hS1, hS2⟩ := hS; have rS := cell_of hS1; simp [go_sem, ↓IntWalk.iteOmega, rS, hS2] <;> first | done | exact rfl | (rw [IntWalk.i64_in _ (by omega)]; exact rfl) | trace_state)
          refine wpPt_val rfl rfl ?_
          apply Exists.intro
          refine ⟨fun w' hS => ?_, ?_⟩
          focus (obtain ⟨hS1, hS2⟩ := hS; have rS := cell_of hS1; simp [go_sem, ↓IntWalk.iteOmega, rS, hS2] <;> first | done | exact rfl | (rw [IntWalk.i64_in _ (by omega)]; exact rfl) | trace_state)
          refine wpPt_val rfl rfl ?_
          apply Exists.intro
          refine ⟨fun w' hS => ?_, ?_⟩
          focus (obtain ⟨hS1, hS2⟩ := hS; have rS := cell_of hS1; simp [go_sem, ↓IntWalk.iteOmega, rS, hS2] <;> first | done | exact rfl | (rw [IntWalk.i64_in _ (by omega)]; exact rfl) | trace_state)
          refine wpPt_one rfl rfl (fun K hK => ?_)
          go_simp
          refine (l1End_any _ _ _ l0 l10 _).mono ?_
          rintro e w' ⟨rfl, x7, rfl⟩
          refine hK _ _ (fun hkn => (by repeat (first | exact HCK.out | apply ck_seq | apply CK.plus | apply CK.drew))) ?_
          clear hK K
          refine wpPt_one rfl rfl (fun K hK => ?_)
          go_simp
          refine hK _ _ (fun hkn => absurd hkn (by decide)) ?_
          clear hK K
          refine NoPanic.normal ?_
          go_wp2
          have hcv := fun y => run_str_own (P := Tryz.prog) (W := plus w6 y) Tryz.underlying34 Tryz.underlying5 Tryz.underlying9 (HT6.out.od.plus y)
          have hcv2 := fun (y : Ext) (ob : Obj) => run_str_own (P := Tryz.prog) (W := plus (patch w6 (w.heap.size + 1) ob) y) Tryz.underlying34 Tryz.underlying5 Tryz.underlying9 ((own_patch HT6.out.od (fun X hX => by have := HLD.out X hX; omega)).plus y)
          go_region_o
          go_wp2
          have HMT := Lib.hid (show MT R (W ++ [wd l m ps'.length last']) (bstr D) true by
            rcases HWK.out with ⟨h1, h2⟩ | ⟨h1, h2⟩
            · rw [HDK.out, he, wlk_end, if_pos (List.eq_nil_of_length_eq_zero (by rw [List.length_drop]; omega))] at h2
              subst h2
              exact ⟨rfl, rfl, rfl, h1⟩
            · subst h2
              exact .inr (by rw [bstr_size]; exact h1))
          refine bodyPost_ret (v := .tuple #[.agg #[.int .i64 o, .int .i64 l, .int .i64 m, .slice pa' ps'.length pc', .int .i64 b, .int .i64 last'], .slice A6 (W ++ [wd l m ps'.length last']).length c6, .string (bstr D), .bool true]) (by simp [results, Tryz.results124, go_sem, ↓IntWalk.iteOmega, hB6, hC6]) rfl ?_
          exact ⟨pa', ps'.length, pc', last', A6, c6, W ++ [wd l m ps'.length last'], bstr D, true, rfl, ((own_patch HT6.out.ow (fun X hX => by have := HL6.out X hX; omega)).plus _).lower (by omega), by rw [bstr_size]; omega, HMT.out, below_more (below_plus (below_patch HB6.out (by omega) _) (by simp; omega) _)⟩
        · have v5 : ((k : Int) == (is.length : Int) - 1) = false := by simp; omega
          go_wp2_with (first | (go_at_call 94; refine (l2Width_any _ _ _ _ _ _ _ _ _ HLM.out (by omega)).mono ?_; rintro e w' ⟨rfl, xc, rfl⟩) | (at_builtin; refine wpList_append_at encI _ _ _ _ i0 _ 8 rfl rfl Tryz.underlying66 hi iz0 iz1 iz2 rfl (by decide) W wa wc (w.heap.size + 1) (by repeat (first | (with_reducible exact HT.out.ow) | (with_reducible apply own_seq) | (with_reducible apply own_draw) | (with_reducible apply Own.plus) | (with_reducible apply Own.alloc) | (with_reducible apply Own.drew) | (with_reducible apply Own.drewN))) rfl [wd l m ps'.length last'] _ 0 1 (new_cells encI (wd l m ps'.length last') _ _ (by first | omega | rfl | (simp <;> omega) | (simp only [List.length_cons, List.length_nil, plus_size, World.size_alloc]; omega))) rfl (by first | omega | rfl | (simp <;> omega) | (simp only [List.length_cons, List.length_nil, plus_size, World.size_alloc]; omega)) (by first | omega | rfl | (simp <;> omega) | (simp only [List.length_cons, List.length_nil, plus_size, World.size_alloc]; omega)) (by simp <;> omega) ?_; intro A6 c6 w6 hw6 hg6 hx6; have HT6 := Lib.hid (T3q.grewI (o := o) (l := l) (m := m) (ps := ps') (base := (b : Int)) (last := last') (pa := pa') (pc := pc') (W := W) (D := D) (da := da) (dc := dc) (by repeat (first | (with_reducible exact HT.out) | (with_reducible apply t3q_seq) | (with_reducible apply T3q.plus) | (with_reducible apply T3q.alloc) | (with_reducible apply T3q.drew))) hw6 hg6 hx6); have hbl6 := hg6.below (B := w.heap.size + 1) (by simp <;> omega) (fun X hX => own_lo HT.out.ow X hX); have HB6 := Lib.hid (HBL.out.trans (Below.trans (b := _) (by repeat (first | exact Below.refl _ _ | refine below_plus ?_ (by first | omega | (simp <;> omega)) _ | refine Below.alloc ?_ (by first | omega | (simp <;> omega)) _ | refine below_patch ?_ (by omega) _ | refine Below.drew ?_)) (hbl6.mono (by omega)))); have z6 := hg6.size; simp at z6; have HL6 := Lib.hid (Lo.nxt HLW.out hx6 (by simp <;> omega)); have HRS6 := Lib.hid (blk_grew hg6 (by repeat (first | (with_reducible exact HRS.out) | (with_reducible apply blk_seq) | (with_reducible apply blk_draw) | (with_reducible apply blk_plus) | (with_reducible apply blk_alloc) | (with_reducible apply blk_drew) | (with_reducible refine blk_patch ?_ (by omega)) | exact HRS.out)) (fun X hX e => by have := HLW.out X hX; omega)); have r6 := cell_of HT6.out.blk; have q6 := cell_of HRS6.out; have g6 := free_of HRS6.out; have f6 := free_of HT6.out.blk; have s6 := fun v => setCell_patch HT6.out.blk 0 v; have u6 := fun v => setCell_patch HRS6.out 0 v; have hC6 := (Array.getElem?_eq_some_iff.1 HRS6.out).1; have hB6 := HT6.out.B_lt; have HCK := Lib.hid (show CK w6 w.heap.size _ bg (off + k) c from ⟨HT6.out.blk, by rw [World.cell?_of_block (a := ⟨bg, off + k, none⟩) (HB6.out.block bg hbg0), ← World.cell?_of_block (a := ⟨bg, off + k, none⟩) (HBL.out.block bg hbg0)]; exact c1⟩); clear hw6 hg6 hx6 hbl6))
          refine wp_region_pu 7 (fun w' => CK w' w.heap.size (.cells #[.int .i64 o, .int .i64 l, .int .i64 m, .slice pa' ps'.length pc', .int .i64 b, .int .i64 last'] 26 (0, 0)) bg (off + k) c) (Plan.quiet 0 (Plan.quiet 1 (Plan.quiet 2 (Plan.quiet 3 (Plan.quiet 4 (Plan.quiet 5 (Plan.one 6 (Plan.one 7 Plan.done)))))))) (by kernel_rfl) (by kernel_rfl) (HCK.out.drew) ?_
          refine wpPt_val rfl rfl ?_
          apply Exists.intro
          refine ⟨fun w' hS => ?_, ?_⟩
          focus (obtain ⟨hS1, hS2⟩ := hS; have rS := cell_of hS1; simp [go_sem, ↓IntWalk.iteOmega, rS, hS2] <;> first | done | exact rfl | (rw [IntWalk.i64_in _ (by omega)]; exact rfl) | trace_state)
          refine wpPt_val rfl rfl ?_
          apply Exists.intro
          refine ⟨fun w' hS => ?_, ?_⟩
          focus (obtain ⟨hS1, hS2⟩ := hS; have rS := cell_of hS1; simp [go_sem, ↓IntWalk.iteOmega, rS, hS2] <;> first | done | exact rfl | (rw [IntWalk.i64_in _ (by omega)]; exact rfl) | trace_state)
          refine wpPt_val rfl rfl ?_
          apply Exists.intro
          refine ⟨fun w' hS => ?_, ?_⟩
          focus (obtain ⟨hS1, hS2⟩ := hS; have rS := cell_of hS1; simp [go_sem, ↓IntWalk.iteOmega, rS, hS2] <;> first | done | exact rfl | (rw [IntWalk.i64_in _ (by omega)]; exact rfl) | trace_state)
          refine wpPt_val rfl rfl ?_
          apply Exists.intro
          refine ⟨fun w' hS => ?_, ?_⟩
          focus (obtain ⟨hS1, hS2⟩ := hS; have rS := cell_of hS1; simp [go_sem, ↓IntWalk.iteOmega, rS, hS2] <;> first | done | exact rfl | (rw [IntWalk.i64_in _ (by omega)]; exact rfl) | trace_state)
          refine wpPt_val rfl rfl ?_
          apply Exists.intro
          refine ⟨fun w' hS => ?_, ?_⟩
          focus (obtain ⟨hS1, hS2⟩ := hS; have rS := cell_of hS1; simp [go_sem, ↓IntWalk.iteOmega, rS, hS2] <;> first | done | exact rfl | (rw [IntWalk.i64_in _ (by omega)]; exact rfl) | trace_state)
          refine wpPt_val rfl rfl ?_
          apply Exists.intro
          refine ⟨fun w' hS => ?_, ?_⟩
          focus (obtain ⟨hS1, hS2⟩ := hS; have rS := cell_of hS1; simp [go_sem, ↓IntWalk.iteOmega, rS, hS2] <;> first | done | exact rfl | (rw [IntWalk.i64_in _ (by omega)]; exact rfl) | trace_state)
          refine wpPt_one rfl rfl (fun K hK => ?_)
          go_simp
          refine (l1End_any _ _ _ l0 l10 _).mono ?_
          rintro e w' ⟨rfl, x7, rfl⟩
          refine hK _ _ (fun hkn => (by repeat (first | exact HCK.out | apply ck_seq | apply CK.plus | apply CK.drew))) ?_
          clear hK K
          refine wpPt_one rfl rfl (fun K hK => ?_)
          go_simp
          refine hK _ _ (fun hkn => absurd hkn (by decide)) ?_
          clear hK K
          refine NoPanic.normal ?_
          go_wp2
          have hcv := fun y => run_str_own (P := Tryz.prog) (W := plus w6 y) Tryz.underlying34 Tryz.underlying5 Tryz.underlying9 (HT6.out.od.plus y)
          have hcv2 := fun (y : Ext) (ob : Obj) => run_str_own (P := Tryz.prog) (W := plus (patch w6 (w.heap.size + 1) ob) y) Tryz.underlying34 Tryz.underlying5 Tryz.underlying9 ((own_patch HT6.out.od (fun X hX => by have := HLD.out X hX; omega)).plus y)
          go_region_o
          go_wp2
          have HMT := Lib.hid (show MT R (W ++ [wd l m ps'.length last']) (bstr D) false by
            rcases HWK.out with ⟨h1, h2⟩ | ⟨h1, h2⟩
            · rw [HDK.out, he, wlk_end, if_neg (by intro e; have := congrArg List.length e; rw [List.length_drop, List.length_nil] at this; omega)] at h2
              subst h2
              exact .inl rfl
            · subst h2
              exact .inl rfl)
          refine bodyPost_ret (v := .tuple #[.agg #[.int .i64 o, .int .i64 l, .int .i64 m, .slice pa' ps'.length pc', .int .i64 b, .int .i64 last'], .slice A6 (W ++ [wd l m ps'.length last']).length c6, .string (bstr D), .bool false]) (by simp [results, Tryz.results124, go_sem, ↓IntWalk.iteOmega, hB6, hC6]) rfl ?_
          exact ⟨pa', ps'.length, pc', last', A6, c6, W ++ [wd l m ps'.length last'], bstr D, false, rfl, ((own_patch HT6.out.ow (fun X hX => by have := HL6.out X hX; omega)).plus _).lower (by omega), by rw [bstr_size]; omega, HMT.out, below_more (below_plus (below_patch HB6.out (by omega) _) (by simp; omega) _)⟩
      · have v3 : (c == two l + 1) = false := by simp [he]
        by_cases hcl : c = two l
        · have v4 : (c != two l) = false := by simp [hcl]
          go_wp2_with (first | (go_at_call 94; refine (l2Width_any _ _ _ _ _ _ _ _ _ HLM.out (by omega)).mono ?_; rintro e w' ⟨rfl, xc, rfl⟩) | (at_builtin; refine wpList_append_at encI _ _ _ _ i0 _ 8 rfl rfl Tryz.underlying66 hi iz0 iz1 iz2 rfl (by decide) W wa wc (w.heap.size + 1) (by repeat (first | (with_reducible exact HT.out.ow) | (with_reducible apply own_seq) | (with_reducible apply own_draw) | (with_reducible apply Own.plus) | (with_reducible apply Own.alloc) | (with_reducible apply Own.drew) | (with_reducible apply Own.drewN))) rfl [wd l m ps'.length last'] _ 0 1 (new_cells encI (wd l m ps'.length last') _ _ (by first | omega | rfl | (simp <;> omega) | (simp only [List.length_cons, List.length_nil, plus_size, World.size_alloc]; omega))) rfl (by first | omega | rfl | (simp <;> omega) | (simp only [List.length_cons, List.length_nil, plus_size, World.size_alloc]; omega)) (by first | omega | rfl | (simp <;> omega) | (simp only [List.length_cons, List.length_nil, plus_size, World.size_alloc]; omega)) (by simp <;> omega) ?_; intro A6 c6 w6 hw6 hg6 hx6; have HT6 := Lib.hid (T3q.grewI (o := o) (l := l) (m := m) (ps := ps') (base := (b : Int)) (last := last') (pa := pa') (pc := pc') (W := W) (D := D) (da := da) (dc := dc) (by repeat (first | (with_reducible exact HT.out) | (with_reducible apply t3q_seq) | (with_reducible apply T3q.plus) | (with_reducible apply T3q.alloc) | (with_reducible apply T3q.drew))) hw6 hg6 hx6); have hbl6 := hg6.below (B := w.heap.size + 1) (by simp <;> omega) (fun X hX => own_lo HT.out.ow X hX); have HB6 := Lib.hid (HBL.out.trans (Below.trans (b := _) (by repeat (first | exact Below.refl _ _ | refine below_plus ?_ (by first | omega | (simp <;> omega)) _ | refine Below.alloc ?_ (by first | omega | (simp <;> omega)) _ | refine below_patch ?_ (by omega) _ | refine Below.drew ?_)) (hbl6.mono (by omega)))); have z6 := hg6.size; simp at z6; have HL6 := Lib.hid (Lo.nxt HLW.out hx6 (by simp <;> omega)); have HRS6 := Lib.hid (blk_grew hg6 (by repeat (first | (with_reducible exact HRS.out) | (with_reducible apply blk_seq) | (with_reducible apply blk_draw) | (with_reducible apply blk_plus) | (with_reducible apply blk_alloc) | (with_reducible apply blk_drew) | (with_reducible refine blk_patch ?_ (by omega)) | exact HRS.out)) (fun X hX e => by have := HLW.out X hX; omega)); have r6 := cell_of HT6.out.blk; have q6 := cell_of HRS6.out; have g6 := free_of HRS6.out; have f6 := free_of HT6.out.blk; have s6 := fun v => setCell_patch HT6.out.blk 0 v; have u6 := fun v => setCell_patch HRS6.out 0 v; have hC6 := (Array.getElem?_eq_some_iff.1 HRS6.out).1; have hB6 := HT6.out.B_lt; have HCK := Lib.hid (show CK w6 w.heap.size _ bg (off + k) c from ⟨HT6.out.blk, by rw [World.cell?_of_block (a := ⟨bg, off + k, none⟩) (HB6.out.block bg hbg0), ← World.cell?_of_block (a := ⟨bg, off + k, none⟩) (HBL.out.block bg hbg0)]; exact c1⟩); clear hw6 hg6 hx6 hbl6))
          refine wp_region_pu 7 (fun w' => CK w' w.heap.size (.cells #[.int .i64 o, .int .i64 l, .int .i64 m, .slice pa' ps'.length pc', .int .i64 b, .int .i64 last'] 26 (0, 0)) bg (off + k) c) (Plan.quiet 0 (Plan.quiet 1 (Plan.quiet 2 (Plan.quiet 3 (Plan.quiet 4 (Plan.quiet 5 (Plan.one 6 (Plan.one 7 Plan.done)))))))) (by kernel_rfl) (by kernel_rfl) (HCK.out.drew) ?_
          refine wpPt_val rfl rfl ?_
          apply Exists.intro
          refine ⟨fun w' hS => ?_, ?_⟩
          focus (obtain ⟨hS1, hS2⟩ := hS; have rS := cell_of hS1; simp [go_sem, ↓IntWalk.iteOmega, rS, hS2] <;> first | done | exact rfl | (rw [IntWalk.i64_in _ (by omega)]; exact rfl) | trace_state)
          refine wpPt_val rfl rfl ?_
          apply Exists.intro
          refine ⟨fun w' hS => ?_, ?_⟩
          focus (obtain ⟨hS1, hS2⟩ := hS; have rS := cell_of hS1; simp [go_sem, ↓IntWalk.iteOmega, rS, hS2] <;> first | done | exact rfl | (rw [IntWalk.i64_in _ (by omega)]; exact rfl) | trace_state)
          refine wpPt_val rfl rfl ?_
          apply Exists.intro
          refine ⟨fun w' hS => ?_, ?_⟩
          focus (obtain ⟨hS1, hS2⟩ := hS; have rS := cell_of hS1; simp [go_sem, ↓IntWalk.iteOmega, rS, hS2] <;> first | done | exact rfl | (rw [IntWalk.i64_in _ (by omega)]; exact rfl) | trace_state)
          refine wpPt_val rfl rfl ?_
          apply Exists.intro
          refine ⟨fun w' hS => ?_, ?_⟩
          focus (obtain ⟨hS1, hS2⟩ := hS; have rS := cell_of hS1; simp [go_sem, ↓IntWalk.iteOmega, rS, hS2] <;> first | done | exact rfl | (rw [IntWalk.i64_in _ (by omega)]; exact rfl) | trace_state)
          refine wpPt_val rfl rfl ?_
          apply Exists.intro
          refine ⟨fun w' hS => ?_, ?_⟩
          focus (obtain ⟨hS1, hS2⟩ := hS; have rS := cell_of hS1; simp [go_sem, ↓IntWalk.iteOmega, rS, hS2] <;> first | done | exact rfl | (rw [IntWalk.i64_in _ (by omega)]; exact rfl) | trace_state)
          refine wpPt_val rfl rfl ?_
          apply Exists.intro
          refine ⟨fun w' hS => ?_, ?_⟩
          focus (obtain ⟨hS1, hS2⟩ := hS; have rS := cell_of hS1; simp [go_sem, ↓IntWalk.iteOmega, rS, hS2] <;> first | done | exact rfl | (rw [IntWalk.i64_in _ (by omega)]; exact rfl) | trace_state)
          refine wpPt_one rfl rfl (fun K hK => ?_)
          go_simp
          refine (l1End_any _ _ _ l0 l10 _).mono ?_
          rintro e w' ⟨rfl, x7, rfl⟩
          refine hK _ _ (fun hkn => (by repeat (first | exact HCK.out | apply ck_seq | apply CK.plus | apply CK.drew))) ?_
          clear hK K
          refine wpPt_one rfl rfl (fun K hK => ?_)
          go_simp
          refine hK _ _ (fun hkn => absurd hkn (by decide)) ?_
          clear hK K
          refine NoPanic.normal ?_
          go_wp2
          refine wp_region_pu 7 (fun w' => CK w' w.heap.size (.cells #[.int .i64 o, .int .i64 l, .int .i64 m, .slice pa' ps'.length pc', .int .i64 b, .int .i64 last'] 26 (0, 0)) bg (off + k) c) (Plan.quiet 0 (Plan.quiet 1 (Plan.quiet 2 (Plan.quiet 3 (Plan.quiet 4 (Plan.quiet 5 (Plan.one 6 (Plan.one 7 Plan.done)))))))) (by kernel_rfl) (by kernel_rfl) ((CK.plus HCK.out _).drew) ?_
          refine wpPt_val rfl rfl ?_
          apply Exists.intro
          refine ⟨fun w' hS => ?_, ?_⟩
          focus (obtain ⟨hS1, hS2⟩ := hS; have rS := cell_of hS1; simp [go_sem, ↓IntWalk.iteOmega, rS, hS2] <;> first | done | exact rfl | (rw [IntWalk.i64_in _ (by omega)]; exact rfl) | trace_state)
          refine wpPt_val rfl rfl ?_
          apply Exists.intro
          refine ⟨fun w' hS => ?_, ?_⟩
          focus (obtain ⟨hS1, hS2⟩ := hS; have rS := cell_of hS1; simp [go_sem, ↓IntWalk.iteOmega, rS, hS2] <;> first | done | exact rfl | (rw [IntWalk.i64_in _ (by omega)]; exact rfl) | trace_state)
          refine wpPt_val rfl rfl ?_
          apply Exists.intro
          refine ⟨fun w' hS => ?_, ?_⟩
          focus (obtain ⟨hS1, hS2⟩ := hS; have rS := cell_of hS1; simp [go_sem, ↓IntWalk.iteOmega, rS, hS2] <;> first | done | exact rfl | (rw [IntWalk.i64_in _ (by omega)]; exact rfl) | trace_state)
          refine wpPt_val rfl rfl ?_
          apply Exists.intro
          refine ⟨fun w' hS => ?_, ?_⟩
          focus (obtain ⟨hS1, hS2⟩ := hS; have rS := cell_of hS1; simp [go_sem, ↓IntWalk.iteOmega, rS, hS2] <;> first | done | exact rfl | (rw [IntWalk.i64_in _ (by omega)]; exact rfl) | trace_state)
          refine wpPt_val rfl rfl ?_
          apply Exists.intro
          refine ⟨fun w' hS => ?_, ?_⟩
          focus (obtain ⟨hS1, hS2⟩ := hS; have rS := cell_of hS1; simp [go_sem, ↓IntWalk.iteOmega, rS, hS2] <;> first | done | exact rfl | (rw [IntWalk.i64_in _ (by omega)]; exact rfl) | trace_state)
          refine wpPt_val rfl rfl ?_
          apply Exists.intro
          refine ⟨fun w' hS => ?_, ?_⟩
          focus (obtain ⟨hS1, hS2⟩ := hS; have rS := cell_of hS1; simp [go_sem, ↓IntWalk.iteOmega, rS, hS2] <;> first | done | exact rfl | (rw [IntWalk.i64_in _ (by omega)]; exact rfl) | trace_state)
          refine wpPt_one rfl rfl (fun K hK => ?_)
          go_simp
          refine (l1Clear_any _ _ _ l0 l10 _).mono ?_
          rintro e w' ⟨rfl, x9, rfl⟩
          refine hK _ _ (fun hkn => (by repeat (first | exact HCK.out | apply ck_seq | apply CK.plus | apply CK.drew))) ?_
          clear hK K
          refine wpPt_one rfl rfl (fun K hK => ?_)
          go_simp
          refine hK _ _ (fun hkn => absurd hkn (by decide)) ?_
          clear hK K
          refine NoPanic.normal ?_
          go_wp2
          refine wp_region_pt 6 (fun w' => CK w' w.heap.size (.cells #[.int .i64 o, .int .i64 l, .int .i64 m, .slice pa' ps'.length pc', .int .i64 b, .int .i64 last'] 26 (0, 0)) bg (off + k) c) (Plan.quiet 0 (Plan.quiet 1 (Plan.quiet 2 (Plan.quiet 3 (Plan.quiet 4 (Plan.one 5 (Plan.one 6 Plan.done))))))) (by kernel_rfl) (by kernel_rfl) ((CK.plus HCK.out _).drew) ?_
          refine wpPt_val rfl rfl ?_
          apply Exists.intro
          refine ⟨fun w' hS => ?_, ?_⟩
          focus (obtain ⟨hS1, hS2⟩ := hS; have rS := cell_of hS1; simp [go_sem, ↓IntWalk.iteOmega, rS, hS2] <;> first | done | exact rfl | (rw [IntWalk.i64_in _ (by omega)]; exact rfl) | trace_state)
          refine wpPt_val rfl rfl ?_
          apply Exists.intro
          refine ⟨fun w' hS => ?_, ?_⟩
          focus (obtain ⟨hS1, hS2⟩ := hS; have rS := cell_of hS1; simp [go_sem, ↓IntWalk.iteOmega, rS, hS2] <;> first | done | exact rfl | (rw [IntWalk.i64_in _ (by omega)]; exact rfl) | trace_state)
          refine wpPt_val rfl rfl ?_
          apply Exists.intro
          refine ⟨fun w' hS => ?_, ?_⟩
          focus (obtain ⟨hS1, hS2⟩ := hS; have rS := cell_of hS1; simp [go_sem, ↓IntWalk.iteOmega, rS, hS2] <;> first | done | exact rfl | (rw [IntWalk.i64_in _ (by omega)]; exact rfl) | trace_state)
          refine wpPt_val rfl rfl ?_
          apply Exists.intro
          refine ⟨fun w' hS => ?_, ?_⟩
          focus (obtain ⟨hS1, hS2⟩ := hS; have rS := cell_of hS1; simp [go_sem, ↓IntWalk.iteOmega, rS, hS2] <;> first | done | exact rfl | (rw [IntWalk.i64_in _ (by omega)]; exact rfl) | trace_state)
          refine wpPt_val rfl rfl ?_
          apply Exists.intro
          refine ⟨fun w' hS => ?_, ?_⟩
          focus (obtain ⟨hS1, hS2⟩ := hS; have rS := cell_of hS1; simp [go_sem, ↓IntWalk.iteOmega, rS, hS2] <;> first | done | exact rfl | (rw [IntWalk.i64_in _ (by omega)]; exact rfl) | trace_state)
          refine wpPt_one rfl rfl (fun K hK => ?_)
          go_simp
          refine (l2Step_clear o l m pa' pc' ps' b last' _ (by repeat (first | exact HT6.out.rp | apply rd_seq | apply Rd.plus | apply Rd.alloc | apply Rd.drew | apply Rd.drewN | refine rd_patch ?_ _ _ (by intro A hA; first | (cases hA; show _ ≠ _; omega) | (have := hal A hA; omega)))) hs (by omega) hlen').mono ?_
          rintro e w' ⟨A8, c8, rfl, hown8, x8, rfl⟩
          try simp only [plus_plus] at hown8
          have HO8 := Lib.hid (hown8.lower (lo' := w6.heap.size) (by simp <;> omega))
          clear hown8
          refine hK _ _ (fun hkn => (by repeat (first | exact HCK.out | apply ck_seq | apply CK.plus | apply CK.drew))) ?_
          clear hK K
          refine wpPt_one rfl rfl (fun K hK => ?_)
          go_simp
          refine hK _ _ (fun hkn => absurd hkn (by decide)) ?_
          clear hK K
          refine NoPanic.normal ?_
          go_wp2
          have HTN := Lib.hid (T3q.put (last' := -1) HT6.out HO8.out)
          rw [List.length_take] at HTN
          go_roundw
          case rel => exact ⟨k + 1, A6, _, c6, da, _, dc, rfl, rfl, by go_num, ps'.take b, -1, A8, c8, W ++ [wd l m ps'.length last'], D, by simp, rfl, HTN.out, HL6.out, HLD.out, blk_plus (blk_patch HRS6.out (by omega)) _, by simpa using HK.out.cleared, by omega, by simp; omega, hdl, HWK.out.imp (fun h => ⟨h.1, by have := h.2; rw [HDK.out, hcl, wlk_clear] at this; exact this⟩) id, below_plus (below_patch HB6.out (Nat.le_refl _) _) (by simp; omega) _⟩
          case measure => simp [intOf]; omega
        · have v4 : (c != two l) = true := by simp [hcl]
          cases hfo : folB l m ps'.length last' c
          · have hmode : R = none := by
              rcases HWK.out with ⟨_, h2⟩ | ⟨_, h2⟩
              · rw [HDK.out, wlk_bad hcl he (fun h => by rw [folB_iff.2 h.1] at hfo; cases hfo)] at h2
                exact h2.symm
              · exact h2
            have HMT := Lib.hid (show MT R (W ++ [wd l m ps'.length last']) ⟨#[]⟩ false by subst hmode; exact .inl rfl)
            clear hmode
            go_wp2_with (first | (go_at_call 94; refine (l2Width_any _ _ _ _ _ _ _ _ _ HLM.out (by omega)).mono ?_; rintro e w' ⟨rfl, xc, rfl⟩) | (at_builtin; refine wpList_append_at encI _ _ _ _ i0 _ 8 rfl rfl Tryz.underlying66 hi iz0 iz1 iz2 rfl (by decide) W wa wc (w.heap.size + 1) (by repeat (first | (with_reducible exact HT.out.ow) | (with_reducible apply own_seq) | (with_reducible apply own_draw) | (with_reducible apply Own.plus) | (with_reducible apply Own.alloc) | (with_reducible apply Own.drew) | (with_reducible apply Own.drewN))) rfl [wd l m ps'.length last'] _ 0 1 (new_cells encI (wd l m ps'.length last') _ _ (by first | omega | rfl | (simp <;> omega) | (simp only [List.length_cons, List.length_nil, plus_size, World.size_alloc]; omega))) rfl (by first | omega | rfl | (simp <;> omega) | (simp only [List.length_cons, List.length_nil, plus_size, World.size_alloc]; omega)) (by first | omega | rfl | (simp <;> omega) | (simp only [List.length_cons, List.length_nil, plus_size, World.size_alloc]; omega)) (by simp <;> omega) ?_; intro A6 c6 w6 hw6 hg6 hx6; have HT6 := Lib.hid (T3q.grewI (o := o) (l := l) (m := m) (ps := ps') (base := (b : Int)) (last := last') (pa := pa') (pc := pc') (W := W) (D := D) (da := da) (dc := dc) (by repeat (first | (with_reducible exact HT.out) | (with_reducible apply t3q_seq) | (with_reducible apply T3q.plus) | (with_reducible apply T3q.alloc) | (with_reducible apply T3q.drew))) hw6 hg6 hx6); have hbl6 := hg6.below (B := w.heap.size + 1) (by simp <;> omega) (fun X hX => own_lo HT.out.ow X hX); have HB6 := Lib.hid (HBL.out.trans (Below.trans (b := _) (by repeat (first | exact Below.refl _ _ | refine below_plus ?_ (by first | omega | (simp <;> omega)) _ | refine Below.alloc ?_ (by first | omega | (simp <;> omega)) _ | refine below_patch ?_ (by omega) _ | refine Below.drew ?_)) (hbl6.mono (by omega)))); have z6 := hg6.size; simp at z6; have HL6 := Lib.hid (Lo.nxt HLW.out hx6 (by simp <;> omega)); have HRS6 := Lib.hid (blk_grew hg6 (by repeat (first | (with_reducible exact HRS.out) | (with_reducible apply blk_seq) | (with_reducible apply blk_draw) | (with_reducible apply blk_plus) | (with_reducible apply blk_alloc) | (with_reducible apply blk_drew) | (with_reducible refine blk_patch ?_ (by omega)) | exact HRS.out)) (fun X hX e => by have := HLW.out X hX; omega)); have r6 := cell_of HT6.out.blk; have q6 := cell_of HRS6.out; have g6 := free_of HRS6.out; have f6 := free_of HT6.out.blk; have s6 := fun v => setCell_patch HT6.out.blk 0 v; have u6 := fun v => setCell_patch HRS6.out 0 v; have hC6 := (Array.getElem?_eq_some_iff.1 HRS6.out).1; have hB6 := HT6.out.B_lt; have HCK := Lib.hid (show CK w6 w.heap.size _ bg (off + k) c from ⟨HT6.out.blk, by rw [World.cell?_of_block (a := ⟨bg, off + k, none⟩) (HB6.out.block bg hbg0), ← World.cell?_of_block (a := ⟨bg, off + k, none⟩) (HBL.out.block bg hbg0)]; exact c1⟩); clear hw6 hg6 hx6 hbl6))
            refine wp_region_pu 7 (fun w' => CK w' w.heap.size (.cells #[.int .i64 o, .int .i64 l, .int .i64 m, .slice pa' ps'.length pc', .int .i64 b, .int .i64 last'] 26 (0, 0)) bg (off + k) c) (Plan.quiet 0 (Plan.quiet 1 (Plan.quiet 2 (Plan.quiet 3 (Plan.quiet 4 (Plan.quiet 5 (Plan.one 6 (Plan.one 7 Plan.done)))))))) (by kernel_rfl) (by kernel_rfl) (HCK.out.drew) ?_
            refine wpPt_val rfl rfl ?_
            apply Exists.intro
            refine ⟨fun w' hS => ?_, ?_⟩
            focus (obtain ⟨hS1, hS2⟩ := hS; have rS := cell_of hS1; simp [go_sem, ↓IntWalk.iteOmega, rS, hS2] <;> first | done | exact rfl | (rw [IntWalk.i64_in _ (by omega)]; exact rfl) | trace_state)
            refine wpPt_val rfl rfl ?_
            apply Exists.intro
            refine ⟨fun w' hS => ?_, ?_⟩
            focus (obtain ⟨hS1, hS2⟩ := hS; have rS := cell_of hS1; simp [go_sem, ↓IntWalk.iteOmega, rS, hS2] <;> first | done | exact rfl | (rw [IntWalk.i64_in _ (by omega)]; exact rfl) | trace_state)
            refine wpPt_val rfl rfl ?_
            apply Exists.intro
            refine ⟨fun w' hS => ?_, ?_⟩
            focus (obtain ⟨hS1, hS2⟩ := hS; have rS := cell_of hS1; simp [go_sem, ↓IntWalk.iteOmega, rS, hS2] <;> first | done | exact rfl | (rw [IntWalk.i64_in _ (by omega)]; exact rfl) | trace_state)
            refine wpPt_val rfl rfl ?_
            apply Exists.intro
            refine ⟨fun w' hS => ?_, ?_⟩
            focus (obtain ⟨hS1, hS2⟩ := hS; have rS := cell_of hS1; simp [go_sem, ↓IntWalk.iteOmega, rS, hS2] <;> first | done | exact rfl | (rw [IntWalk.i64_in _ (by omega)]; exact rfl) | trace_state)
            refine wpPt_val rfl rfl ?_
            apply Exists.intro
            refine ⟨fun w' hS => ?_, ?_⟩
            focus (obtain ⟨hS1, hS2⟩ := hS; have rS := cell_of hS1; simp [go_sem, ↓IntWalk.iteOmega, rS, hS2] <;> first | done | exact rfl | (rw [IntWalk.i64_in _ (by omega)]; exact rfl) | trace_state)
            refine wpPt_val rfl rfl ?_
            apply Exists.intro
            refine ⟨fun w' hS => ?_, ?_⟩
            focus (obtain ⟨hS1, hS2⟩ := hS; have rS := cell_of hS1; simp [go_sem, ↓IntWalk.iteOmega, rS, hS2] <;> first | done | exact rfl | (rw [IntWalk.i64_in _ (by omega)]; exact rfl) | trace_state)
            refine wpPt_one rfl rfl (fun K hK => ?_)
            go_simp
            refine (l1End_any _ _ _ l0 l10 _).mono ?_
            rintro e w' ⟨rfl, x7, rfl⟩
            refine hK _ _ (fun hkn => (by repeat (first | exact HCK.out | apply ck_seq | apply CK.plus | apply CK.drew))) ?_
            clear hK K
            refine wpPt_one rfl rfl (fun K hK => ?_)
            go_simp
            refine hK _ _ (fun hkn => absurd hkn (by decide)) ?_
            clear hK K
            refine NoPanic.normal ?_
            go_wp2
            refine wp_region_pu 7 (fun w' => CK w' w.heap.size (.cells #[.int .i64 o, .int .i64 l, .int .i64 m, .slice pa' ps'.length pc', .int .i64 b, .int .i64 last'] 26 (0, 0)) bg (off + k) c) (Plan.quiet 0 (Plan.quiet 1 (Plan.quiet 2 (Plan.quiet 3 (Plan.quiet 4 (Plan.quiet 5 (Plan.one 6 (Plan.one 7 Plan.done)))))))) (by kernel_rfl) (by kernel_rfl) ((CK.plus HCK.out _).drew) ?_
            refine wpPt_val rfl rfl ?_
            apply Exists.intro
            refine ⟨fun w' hS => ?_, ?_⟩
            focus (obtain ⟨hS1, hS2⟩ := hS; have rS := cell_of hS1; simp [go_sem, ↓IntWalk.iteOmega, rS, hS2] <;> first | done | exact rfl | (rw [IntWalk.i64_in _ (by omega)]; exact rfl) | trace_state)
            refine wpPt_val rfl rfl ?_
            apply Exists.intro
            refine ⟨fun w' hS => ?_, ?_⟩
            focus (obtain ⟨hS1, hS2⟩ := hS; have rS := cell_of hS1; simp [go_sem, ↓IntWalk.iteOmega, rS, hS2] <;> first | done | exact rfl | (rw [IntWalk.i64_in _ (by omega)]; exact rfl) | trace_state)
            refine wpPt_val rfl rfl ?_
            apply Exists.intro
            refine ⟨fun w' hS => ?_, ?_⟩
            focus (obtain ⟨hS1, hS2⟩ := hS; have rS := cell_of hS1; simp [go_sem, ↓IntWalk.iteOmega, rS, hS2] <;> first | done | exact rfl | (rw [IntWalk.i64_in _ (by omega)]; exact rfl) | trace_state)
            refine wpPt_val rfl rfl ?_
            apply Exists.intro
            refine ⟨fun w' hS => ?_, ?_⟩
            focus (obtain ⟨hS1, hS2⟩ := hS; have rS := cell_of hS1; simp [go_sem, ↓IntWalk.iteOmega, rS, hS2] <;> first | done | exact rfl | (rw [IntWalk.i64_in _ (by omega)]; exact rfl) | trace_state)
            refine wpPt_val rfl rfl ?_
            apply Exists.intro
            refine ⟨fun w' hS => ?_, ?_⟩
            focus (obtain ⟨hS1, hS2⟩ := hS; have rS := cell_of hS1; simp [go_sem, ↓IntWalk.iteOmega, rS, hS2] <;> first | done | exact rfl | (rw [IntWalk.i64_in _ (by omega)]; exact rfl) | trace_state)
            refine wpPt_val rfl rfl ?_
            apply Exists.intro
            refine ⟨fun w' hS => ?_, ?_⟩
            focus (obtain ⟨hS1, hS2⟩ := hS; have rS := cell_of hS1; simp [go_sem, ↓IntWalk.iteOmega, rS, hS2] <;> first | done | exact rfl | (rw [IntWalk.i64_in _ (by omega)]; exact rfl) | trace_state)
            refine wpPt_one rfl rfl (fun K hK => ?_)
            go_simp
            refine (l1Clear_any _ _ _ l0 l10 _).mono ?_
            rintro e w' ⟨rfl, x9, rfl⟩
            refine hK _ _ (fun hkn => (by repeat (first | exact HCK.out | apply ck_seq | apply CK.plus | apply CK.drew))) ?_
            clear hK K
            refine wpPt_one rfl rfl (fun K hK => ?_)
            go_simp
            refine hK _ _ (fun hkn => absurd hkn (by decide)) ?_
            clear hK K
            refine NoPanic.normal ?_
            go_wp2
            have c6c := HCK.out.2
            (refine wp_region_calm (by kernel_rfl) (by kernel_rfl) ?_
             repeat (first | go_big_quiet_skip | (go_big_quiet_want; go_big_quiet_op; first | go_big_quiet_on | (apply Exists.intro; refine ⟨fun _ => ?_, ?_⟩; (focus ((first | (go_at_call 134; first | refine calm_is (by assumption) (l2Follows_any _ _ _ _ _ _ _ _ _ _ hs (by omega) hlast) | refine calm_is_seq (by assumption) (l2Follows_any _ _ _ _ _ _ _ _ _ _ hs (by omega) hlast))))); go_big_quiet_on)))
             refine wpQuiet_nil ?_
             intro _ hw'
             obtain ⟨xq, hw''⟩ := hw'
             subst hw'')
            go_wp2
            refine bodyPost_ret (v := .tuple #[.agg #[.int .i64 o, .int .i64 l, .int .i64 m, .slice pa' ps'.length pc', .int .i64 b, .int .i64 last'], .slice A6 (W ++ [wd l m ps'.length last']).length c6, .string ⟨#[]⟩, .bool false]) (by simp [results, Tryz.results124, go_sem, ↓IntWalk.iteOmega, hB6, hC6]) rfl ?_
            exact ⟨pa', ps'.length, pc', last', A6, c6, W ++ [wd l m ps'.length last'], ⟨#[]⟩, false, rfl, ((own_patch HT6.out.ow (fun X hX => by have := HL6.out X hX; omega)).plus _).lower (by omega), (show (0 : Nat) ≤ 5000 by omega), HMT.out, below_more (below_plus (below_patch HB6.out (by omega) _) (by simp; omega) _)⟩
          · have HOK := Lib.hid (folB_iff.1 hfo)
            by_cases hdd : 2000 < D.length
            · have hmode : R = none := by
                rcases HWK.out with ⟨h1, _⟩ | ⟨_, h2⟩
                · omega
                · exact h2
              have HMT := Lib.hid (show MT R (W ++ [wd l m ps'.length last']) ⟨#[]⟩ false by subst hmode; exact .inl rfl)
              have v6 : decide (2000 < D.length) = true := by simp; omega
              clear hmode
              go_wp2_with (first | (go_at_call 94; refine (l2Width_any _ _ _ _ _ _ _ _ _ HLM.out (by omega)).mono ?_; rintro e w' ⟨rfl, xc, rfl⟩) | (at_builtin; refine wpList_append_at encI _ _ _ _ i0 _ 8 rfl rfl Tryz.underlying66 hi iz0 iz1 iz2 rfl (by decide) W wa wc (w.heap.size + 1) (by repeat (first | (with_reducible exact HT.out.ow) | (with_reducible apply own_seq) | (with_reducible apply own_draw) | (with_reducible apply Own.plus) | (with_reducible apply Own.alloc) | (with_reducible apply Own.drew) | (with_reducible apply Own.drewN))) rfl [wd l m ps'.length last'] _ 0 1 (new_cells encI (wd l m ps'.length last') _ _ (by first | omega | rfl | (simp <;> omega) | (simp only [List.length_cons, List.length_nil, plus_size, World.size_alloc]; omega))) rfl (by first | omega | rfl | (simp <;> omega) | (simp only [List.length_cons, List.length_nil, plus_size, World.size_alloc]; omega)) (by first | omega | rfl | (simp <;> omega) | (simp only [List.length_cons, List.length_nil, plus_size, World.size_alloc]; omega)) (by simp <;> omega) ?_; intro A6 c6 w6 hw6 hg6 hx6; have HT6 := Lib.hid (T3q.grewI (o := o) (l := l) (m := m) (ps := ps') (base := (b : Int)) (last := last') (pa := pa') (pc := pc') (W := W) (D := D) (da := da) (dc := dc) (by repeat (first | (with_reducible exact HT.out) | (with_reducible apply t3q_seq) | (with_reducible apply T3q.plus) | (with_reducible apply T3q.alloc) | (with_reducible apply T3q.drew))) hw6 hg6 hx6); have hbl6 := hg6.below (B := w.heap.size + 1) (by simp <;> omega) (fun X hX => own_lo HT.out.ow X hX); have HB6 := Lib.hid (HBL.out.trans (Below.trans (b := _) (by repeat (first | exact Below.refl _ _ | refine below_plus ?_ (by first | omega | (simp <;> omega)) _ | refine Below.alloc ?_ (by first | omega | (simp <;> omega)) _ | refine below_patch ?_ (by omega) _ | refine Below.drew ?_)) (hbl6.mono (by omega)))); have z6 := hg6.size; simp at z6; have HL6 := Lib.hid (Lo.nxt HLW.out hx6 (by simp <;> omega)); have HRS6 := Lib.hid (blk_grew hg6 (by repeat (first | (with_reducible exact HRS.out) | (with_reducible apply blk_seq) | (with_reducible apply blk_draw) | (with_reducible apply blk_plus) | (with_reducible apply blk_alloc) | (with_reducible apply blk_drew) | (with_reducible refine blk_patch ?_ (by omega)) | exact HRS.out)) (fun X hX e => by have := HLW.out X hX; omega)); have r6 := cell_of HT6.out.blk; have q6 := cell_of HRS6.out; have g6 := free_of HRS6.out; have f6 := free_of HT6.out.blk; have s6 := fun v => setCell_patch HT6.out.blk 0 v; have u6 := fun v => setCell_patch HRS6.out 0 v; have hC6 := (Array.getElem?_eq_some_iff.1 HRS6.out).1; have hB6 := HT6.out.B_lt; have HCK := Lib.hid (show CK w6 w.heap.size _ bg (off + k) c from ⟨HT6.out.blk, by rw [World.cell?_of_block (a := ⟨bg, off + k, none⟩) (HB6.out.block bg hbg0), ← World.cell?_of_block (a := ⟨bg, off + k, none⟩) (HBL.out.block bg hbg0)]; exact c1⟩); clear hw6 hg6 hx6 hbl6))
              refine wp_region_pu 7 (fun w' => CK w' w.heap.size (.cells #[.int .i64 o, .int .i64 l, .int .i64 m, .slice pa' ps'.length pc', .int .i64 b, .int .i64 last'] 26 (0, 0)) bg (off + k) c) (Plan.quiet 0 (Plan.quiet 1 (Plan.quiet 2 (Plan.quiet 3 (Plan.quiet 4 (Plan.quiet 5 (Plan.one 6 (Plan.one 7 Plan.done)))))))) (by kernel_rfl) (by kernel_rfl) (HCK.out.drew) ?_
              refine wpPt_val rfl rfl ?_
              apply Exists.intro
              refine ⟨fun w' hS => ?_, ?_⟩
              focus (obtain ⟨hS1, hS2⟩ := hS; have rS := cell_of hS1; simp [go_sem, ↓IntWalk.iteOmega, rS, hS2] <;> first | done | exact rfl | (rw [IntWalk.i64_in _ (by omega)]; exact rfl) | trace_state)
              refine wpPt_val rfl rfl ?_
              apply Exists.intro
              refine ⟨fun w' hS => ?_, ?_⟩
              focus (obtain ⟨hS1, hS2⟩ := hS; have rS := cell_of hS1; simp [go_sem, ↓IntWalk.iteOmega, rS, hS2] <;> first | done | exact rfl | (rw [IntWalk.i64_in _ (by omega)]; exact rfl) | trace_state)
              refine wpPt_val rfl rfl ?_
              apply Exists.intro
              refine ⟨fun w' hS => ?_, ?_⟩
              focus (obtain ⟨hS1, hS2⟩ := hS; have rS := cell_of hS1; simp [go_sem, ↓IntWalk.iteOmega, rS, hS2] <;> first | done | exact rfl | (rw [IntWalk.i64_in _ (by omega)]; exact rfl) | trace_state)
              refine wpPt_val rfl rfl ?_
              apply Exists.intro
              refine ⟨fun w' hS => ?_, ?_⟩
              focus (obtain ⟨hS1, hS2⟩ := hS; have rS := cell_of hS1; simp [go_sem, ↓IntWalk.iteOmega, rS, hS2] <;> first | done | exact rfl | (rw [IntWalk.i64_in _ (by omega)]; exact rfl) | trace_state)
              refine wpPt_val rfl rfl ?_
              apply Exists.intro
              refine ⟨fun w' hS => ?_, ?_⟩
              focus (obtain ⟨hS1, hS2⟩ := hS; have rS := cell_of hS1; simp [go_sem, ↓IntWalk.iteOmega, rS, hS2] <;> first | done | exact rfl | (rw [IntWalk.i64_in _ (by omega)]; exact rfl) | trace_state)
              refine wpPt_val rfl rfl ?_
              apply Exists.intro
              refine ⟨fun w' hS => ?_, ?_⟩
              focus (obtain ⟨hS1, hS2⟩ := hS; have rS := cell_of hS1; simp [go_sem, ↓IntWalk.iteOmega, rS, hS2] <;> first | done | exact rfl | (rw [IntWalk.i64_in _ (by omega)]; exact rfl) | trace_state)
              refine wpPt_one rfl rfl (fun K hK => ?_)
              go_simp
              refine (l1End_any _ _ _ l0 l10 _).mono ?_
              rintro e w' ⟨rfl, x7, rfl⟩
              refine hK _ _ (fun hkn => (by repeat (first | exact HCK.out | apply ck_seq | apply CK.plus | apply CK.drew))) ?_
              clear hK K
              refine wpPt_one rfl rfl (fun K hK => ?_)
              go_simp
              refine hK _ _ (fun hkn => absurd hkn (by decide)) ?_
              clear hK K
              refine NoPanic.normal ?_
              go_wp2
              refine wp_region_pu 7 (fun w' => CK w' w.heap.size (.cells #[.int .i64 o, .int .i64 l, .int .i64 m, .slice pa' ps'.length pc', .int .i64 b, .int .i64 last'] 26 (0, 0)) bg (off + k) c) (Plan.quiet 0 (Plan.quiet 1 (Plan.quiet 2 (Plan.quiet 3 (Plan.quiet 4 (Plan.quiet 5 (Plan.one 6 (Plan.one 7 Plan.done)))))))) (by kernel_rfl) (by kernel_rfl) ((CK.plus HCK.out _).drew) ?_
              refine wpPt_val rfl rfl ?_
              apply Exists.intro
              refine ⟨fun w' hS => ?_, ?_⟩
              focus (obtain ⟨hS1, hS2⟩ := hS; have rS := cell_of hS1; simp [go_sem, ↓IntWalk.iteOmega, rS, hS2] <;> first | done | exact rfl | (rw [IntWalk.i64_in _ (by omega)]; exact rfl) | trace_state)
              refine wpPt_val rfl rfl ?_
              apply Exists.intro
              refine ⟨fun w' hS => ?_, ?_⟩
              focus (obtain ⟨hS1, hS2⟩ := hS; have rS := cell_of hS1; simp [go_sem, ↓IntWalk.iteOmega, rS, hS2] <;> first | done | exact rfl | (rw [IntWalk.i64_in _ (by omega)]; exact rfl) | trace_state)
              refine wpPt_val rfl rfl ?_
              apply Exists.intro
              refine ⟨fun w' hS => ?_, ?_⟩
              focus (obtain ⟨hS1, hS2⟩ := hS; have rS := cell_of hS1; simp [go_sem, ↓IntWalk.iteOmega, rS, hS2] <;> first | done | exact rfl | (rw [IntWalk.i64_in _ (by omega)]; exact rfl) | trace_state)
              refine wpPt_val rfl rfl ?_
              apply Exists.intro
              refine ⟨fun w' hS => ?_, ?_⟩
              focus (obtain ⟨hS1, hS2⟩ := hS; have rS := cell_of hS1; simp [go_sem, ↓IntWalk.iteOmega, rS, hS2] <;> first | done | exact rfl | (rw [IntWalk.i64_in _ (by omega)]; exact rfl) | trace_state)
              refine wpPt_val rfl rfl ?_
              apply Exists.intro
              refine ⟨fun w' hS => ?_, ?_⟩
              focus (obtain ⟨hS1, hS2⟩ := hS; have rS := cell_of hS1; simp [go_sem, ↓IntWalk.iteOmega, rS, hS2] <;> first | done | exact rfl | (rw [IntWalk.i64_in _ (by omega)]; exact rfl) | trace_state)
              refine wpPt_val rfl rfl ?_
              apply Exists.intro
              refine ⟨fun w' hS => ?_, ?_⟩
              focus (obtain ⟨hS1, hS2⟩ := hS; have rS := cell_of hS1; simp [go_sem, ↓IntWalk.iteOmega, rS, hS2] <;> first | done | exact rfl | (rw [IntWalk.i64_in _ (by omega)]; exact rfl) | trace_state)
              refine wpPt_one rfl rfl (fun K hK => ?_)
              go_simp
              refine (l1Clear_any _ _ _ l0 l10 _).mono ?_
              rintro e w' ⟨rfl, x9, rfl⟩
              refine hK _ _ (fun hkn => (by repeat (first | exact HCK.out | apply ck_seq | apply CK.plus | apply CK.drew))) ?_
              clear hK K
              refine wpPt_one rfl rfl (fun K hK => ?_)
              go_simp
              refine hK _ _ (fun hkn => absurd hkn (by decide)) ?_
              clear hK K
              refine NoPanic.normal ?_
              go_wp2
              have c6c := HCK.out.2
              (refine wp_region_calm (by kernel_rfl) (by kernel_rfl) ?_
               repeat (first | go_big_quiet_skip | (go_big_quiet_want; go_big_quiet_op; first | go_big_quiet_on | (apply Exists.intro; refine ⟨fun _ => ?_, ?_⟩; (focus ((first | (go_at_call 134; first | refine calm_is (by assumption) (l2Follows_any _ _ _ _ _ _ _ _ _ _ hs (by omega) hlast) | refine calm_is_seq (by assumption) (l2Follows_any _ _ _ _ _ _ _ _ _ _ hs (by omega) hlast))))); go_big_quiet_on)))
               refine wpQuiet_nil ?_
               intro _ hw'
               obtain ⟨xq, hw''⟩ := hw'
               subst hw'')
              go_wp2
              refine bodyPost_ret (v := .tuple #[.agg #[.int .i64 o, .int .i64 l, .int .i64 m, .slice pa' ps'.length pc', .int .i64 b, .int .i64 last'], .slice A6 (W ++ [wd l m ps'.length last']).length c6, .string ⟨#[]⟩, .bool false]) (by simp [results, Tryz.results124, go_sem, ↓IntWalk.iteOmega, hB6, hC6]) rfl ?_
              exact ⟨pa', ps'.length, pc', last', A6, c6, W ++ [wd l m ps'.length last'], ⟨#[]⟩, false, rfl, ((own_patch HT6.out.ow (fun X hX => by have := HL6.out X hX; omega)).plus _).lower (by omega), (show (0 : Nat) ≤ 5000 by omega), HMT.out, below_more (below_plus (below_patch HB6.out (by omega) _) (by simp; omega) _)⟩
            · have v6 : decide (2000 < D.length) = false := by simp; omega
              have hal := any_bd HK.out HOK.out
              obtain ⟨y2, hy2⟩ : ∃ y2, bstr (anyW l ps' last' c) = y2 := ⟨_, rfl⟩
              have hyb : y2.data.toList = anyW l ps' last' c := by rw [← hy2, bytes_bstr]
              have zl : y2.size ≤ 2003 := by rw [← hy2, bstr_size]; exact hal
              have HYB := Lib.hid hyb
              have HY2 := Lib.hid hy2
              clear hyb hy2
              go_wp2_with (first | (go_at_call 94; refine (l2Width_any _ _ _ _ _ _ _ _ _ HLM.out (by omega)).mono ?_; rintro e w' ⟨rfl, xc, rfl⟩) | (at_builtin; refine wpList_append_at encI _ _ _ _ i0 _ 8 rfl rfl Tryz.underlying66 hi iz0 iz1 iz2 rfl (by decide) W wa wc (w.heap.size + 1) (by repeat (first | (with_reducible exact HT.out.ow) | (with_reducible apply own_seq) | (with_reducible apply own_draw) | (with_reducible apply Own.plus) | (with_reducible apply Own.alloc) | (with_reducible apply Own.drew) | (with_reducible apply Own.drewN))) rfl [wd l m ps'.length last'] _ 0 1 (new_cells encI (wd l m ps'.length last') _ _ (by first | omega | rfl | (simp <;> omega) | (simp only [List.length_cons, List.length_nil, plus_size, World.size_alloc]; omega))) rfl (by first | omega | rfl | (simp <;> omega) | (simp only [List.length_cons, List.length_nil, plus_size, World.size_alloc]; omega)) (by first | omega | rfl | (simp <;> omega) | (simp only [List.length_cons, List.length_nil, plus_size, World.size_alloc]; omega)) (by simp <;> omega) ?_; intro A6 c6 w6 hw6 hg6 hx6; have HT6 := Lib.hid (T3q.grewI (o := o) (l := l) (m := m) (ps := ps') (base := (b : Int)) (last := last') (pa := pa') (pc := pc') (W := W) (D := D) (da := da) (dc := dc) (by repeat (first | (with_reducible exact HT.out) | (with_reducible apply t3q_seq) | (with_reducible apply T3q.plus) | (with_reducible apply T3q.alloc) | (with_reducible apply T3q.drew))) hw6 hg6 hx6); have hbl6 := hg6.below (B := w.heap.size + 1) (by simp <;> omega) (fun X hX => own_lo HT.out.ow X hX); have HB6 := Lib.hid (HBL.out.trans (Below.trans (b := _) (by repeat (first | exact Below.refl _ _ | refine below_plus ?_ (by first | omega | (simp <;> omega)) _ | refine Below.alloc ?_ (by first | omega | (simp <;> omega)) _ | refine below_patch ?_ (by omega) _ | refine Below.drew ?_)) (hbl6.mono (by omega)))); have z6 := hg6.size; simp at z6; have HL6 := Lib.hid (Lo.nxt HLW.out hx6 (by simp <;> omega)); have HRS6 := Lib.hid (blk_grew hg6 (by repeat (first | (with_reducible exact HRS.out) | (with_reducible apply blk_seq) | (with_reducible apply blk_draw) | (with_reducible apply blk_plus) | (with_reducible apply blk_alloc) | (with_reducible apply blk_drew) | (with_reducible refine blk_patch ?_ (by omega)) | exact HRS.out)) (fun X hX e => by have := HLW.out X hX; omega)); have r6 := cell_of HT6.out.blk; have q6 := cell_of HRS6.out; have g6 := free_of HRS6.out; have f6 := free_of HT6.out.blk; have s6 := fun v => setCell_patch HT6.out.blk 0 v; have u6 := fun v => setCell_patch HRS6.out 0 v; have hC6 := (Array.getElem?_eq_some_iff.1 HRS6.out).1; have hB6 := HT6.out.B_lt; have HCK := Lib.hid (show CK w6 w.heap.size _ bg (off + k) c from ⟨HT6.out.blk, by rw [World.cell?_of_block (a := ⟨bg, off + k, none⟩) (HB6.out.block bg hbg0), ← World.cell?_of_block (a := ⟨bg, off + k, none⟩) (HBL.out.block bg hbg0)]; exact c1⟩); clear hw6 hg6 hx6 hbl6))
              refine wp_region_pu 7 (fun w' => CK w' w.heap.size (.cells #[.int .i64 o, .int .i64 l, .int .i64 m, .slice pa' ps'.length pc', .int .i64 b, .int .i64 last'] 26 (0, 0)) bg (off + k) c) (Plan.quiet 0 (Plan.quiet 1 (Plan.quiet 2 (Plan.quiet 3 (Plan.quiet 4 (Plan.quiet 5 (Plan.one 6 (Plan.one 7 Plan.done)))))))) (by kernel_rfl) (by kernel_rfl) (HCK.out.drew) ?_
              refine wpPt_val rfl rfl ?_
              apply Exists.intro
              refine ⟨fun w' hS => ?_, ?_⟩
              focus (obtain ⟨hS1, hS2⟩ := hS; have rS := cell_of hS1; simp [go_sem, ↓IntWalk.iteOmega, rS, hS2] <;> first | done | exact rfl | (rw [IntWalk.i64_in _ (by omega)]; exact rfl) | trace_state)
              refine wpPt_val rfl rfl ?_
              apply Exists.intro
              refine ⟨fun w' hS => ?_, ?_⟩
              focus (obtain ⟨hS1, hS2⟩ := hS; have rS := cell_of hS1; simp [go_sem, ↓IntWalk.iteOmega, rS, hS2] <;> first | done | exact rfl | (rw [IntWalk.i64_in _ (by omega)]; exact rfl) | trace_state)
              refine wpPt_val rfl rfl ?_
              apply Exists.intro
              refine ⟨fun w' hS => ?_, ?_⟩
              focus (obtain ⟨hS1, hS2⟩ := hS; have rS := cell_of hS1; simp [go_sem, ↓IntWalk.iteOmega, rS, hS2] <;> first | done | exact rfl | (rw [IntWalk.i64_in _ (by omega)]; exact rfl) | trace_state)
              refine wpPt_val rfl rfl ?_
              apply Exists.intro
              refine ⟨fun w' hS => ?_, ?_⟩
              focus (obtain ⟨hS1, hS2⟩ := hS; have rS := cell_of hS1; simp [go_sem, ↓IntWalk.iteOmega, rS, hS2] <;> first | done | exact rfl | (rw [IntWalk.i64_in _ (by omega)]; exact rfl) | trace_state)
              refine wpPt_val rfl rfl ?_
              apply Exists.intro
              refine ⟨fun w' hS => ?_, ?_⟩
              focus (obtain ⟨hS1, hS2⟩ := hS; have rS := cell_of hS1; simp [go_sem, ↓IntWalk.iteOmega, rS, hS2] <;> first | done | exact rfl | (rw [IntWalk.i64_in _ (by omega)]; exact rfl) | trace_state)
              refine wpPt_val rfl rfl ?_
              apply Exists.intro
              refine ⟨fun w' hS => ?_, ?_⟩
              focus (obtain ⟨hS1, hS2⟩ := hS; have rS := cell_of hS1; simp [go_sem, ↓IntWalk.iteOmega, rS, hS2] <;> first | done | exact rfl | (rw [IntWalk.i64_in _ (by omega)]; exact rfl) | trace_state)
              refine wpPt_one rfl rfl (fun K hK => ?_)
              go_simp
              refine (l1End_any _ _ _ l0 l10 _).mono ?_
              rintro e w' ⟨rfl, x7, rfl⟩
              refine hK _ _ (fun hkn => (by repeat (first | exact HCK.out | apply ck_seq | apply CK.plus | apply CK.drew))) ?_
              clear hK K
              refine wpPt_one rfl rfl (fun K hK => ?_)
              go_simp
              refine hK _ _ (fun hkn => absurd hkn (by decide)) ?_
              clear hK K
              refine NoPanic.normal ?_
              go_wp2
              refine wp_region_pu 7 (fun w' => CK w' w.heap.size (.cells #[.int .i64 o, .int .i64 l, .int .i64 m, .slice pa' ps'.length pc', .int .i64 b, .int .i64 last'] 26 (0, 0)) bg (off + k) c) (Plan.quiet 0 (Plan.quiet 1 (Plan.quiet 2 (Plan.quiet 3 (Plan.quiet 4 (Plan.quiet 5 (Plan.one 6 (Plan.one 7 Plan.done)))))))) (by kernel_rfl) (by kernel_rfl) ((CK.plus HCK.out _).drew) ?_
              refine wpPt_val rfl rfl ?_
              apply Exists.intro
              refine ⟨fun w' hS => ?_, ?_⟩
              focus (obtain ⟨hS1, hS2⟩ := hS; have rS := cell_of hS1; simp [go_sem, ↓IntWalk.iteOmega, rS, hS2] <;> first | done | exact rfl | (rw [IntWalk.i64_in _ (by omega)]; exact rfl) | trace_state)
              refine wpPt_val rfl rfl ?_
              apply Exists.intro
              refine ⟨fun w' hS => ?_, ?_⟩
              focus (obtain ⟨hS1, hS2⟩ := hS; have rS := cell_of hS1; simp [go_sem, ↓IntWalk.iteOmega, rS, hS2] <;> first | done | exact rfl | (rw [IntWalk.i64_in _ (by omega)]; exact rfl) | trace_state)
              refine wpPt_val rfl rfl ?_
              apply Exists.intro
              refine ⟨fun w' hS => ?_, ?_⟩
              focus (obtain ⟨hS1, hS2⟩ := hS; have rS := cell_of hS1; simp [go_sem, ↓IntWalk.iteOmega, rS, hS2] <;> first | done | exact rfl | (rw [IntWalk.i64_in _ (by omega)]; exact rfl) | trace_state)
              refine wpPt_val rfl rfl ?_
              apply Exists.intro
              refine ⟨fun w' hS => ?_, ?_⟩
              focus (obtain ⟨hS1, hS2⟩ := hS; have rS := cell_of hS1; simp [go_sem, ↓IntWalk.iteOmega, rS, hS2] <;> first | done | exact rfl | (rw [IntWalk.i64_in _ (by omega)]; exact rfl) | trace_state)
              refine wpPt_val rfl rfl ?_
              apply Exists.intro
              refine ⟨fun w' hS => ?_, ?_⟩
              focus (obtain ⟨hS1, hS2⟩ := hS; have rS := cell_of hS1; simp [go_sem, ↓IntWalk.iteOmega, rS, hS2] <;> first | done | exact rfl | (rw [IntWalk.i64_in _ (by omega)]; exact rfl) | trace_state)
              refine wpPt_val rfl rfl ?_
              apply Exists.intro
              refine ⟨fun w' hS => ?_, ?_⟩
              focus (obtain ⟨hS1, hS2⟩ := hS; have rS := cell_of hS1; simp [go_sem, ↓IntWalk.iteOmega, rS, hS2] <;> first | done | exact rfl | (rw [IntWalk.i64_in _ (by omega)]; exact rfl) | trace_state)
              refine wpPt_one rfl rfl (fun K hK => ?_)
              go_simp
              refine (l1Clear_any _ _ _ l0 l10 _).mono ?_
              rintro e w' ⟨rfl, x9, rfl⟩
              refine hK _ _ (fun hkn => (by repeat (first | exact HCK.out | apply ck_seq | apply CK.plus | apply CK.drew))) ?_
              clear hK K
              refine wpPt_one rfl rfl (fun K hK => ?_)
              go_simp
              refine hK _ _ (fun hkn => absurd hkn (by decide)) ?_
              clear hK K
              refine NoPanic.normal ?_
              go_wp2
              have c6c := HCK.out.2
              (refine wp_region_calm (by kernel_rfl) (by kernel_rfl) ?_
               repeat (first | go_big_quiet_skip | (go_big_quiet_want; go_big_quiet_op; first | go_big_quiet_on | (apply Exists.intro; refine ⟨fun _ => ?_, ?_⟩; (focus ((first | (go_at_call 134; first | refine calm_is (by assumption) (l2Follows_any _ _ _ _ _ _ _ _ _ _ hs (by omega) hlast) | refine calm_is_seq (by assumption) (l2Follows_any _ _ _ _ _ _ _ _ _ _ hs (by omega) hlast))))); go_big_quiet_on)))
               refine wpQuiet_nil ?_
               intro _ hw'
               obtain ⟨xq, hw''⟩ := hw'
               subst hw'')
              go_wp2
              refine wp_region_pt 8 (fun w' => CK w' w.heap.size (.cells #[.int .i64 o, .int .i64 l, .int .i64 m, .slice pa' ps'.length pc', .int .i64 b, .int .i64 last'] 26 (0, 0)) bg (off + k) c) (Plan.quiet 0 (Plan.quiet 1 (Plan.quiet 2 (Plan.quiet 3 (Plan.quiet 4 (Plan.quiet 5 (Plan.one 6 (Plan.one 7 (Plan.one 8 Plan.done))))))))) (by kernel_rfl) (by kernel_rfl) ((CK.plus (CK.plus HCK.out _) _).drew) ?_
              refine wpPt_val rfl rfl ?_
              apply Exists.intro
              refine ⟨fun w' hS => ?_, ?_⟩
              focus (obtain ⟨hS1, hS2⟩ := hS; have rS := cell_of hS1; simp [go_sem, ↓IntWalk.iteOmega, rS, hS2] <;> first | done | exact rfl | (rw [IntWalk.i64_in _ (by omega)]; exact rfl) | trace_state)
              refine wpPt_val rfl rfl ?_
              apply Exists.intro
              refine ⟨fun w' hS => ?_, ?_⟩
              focus (obtain ⟨hS1, hS2⟩ := hS; have rS := cell_of hS1; simp [go_sem, ↓IntWalk.iteOmega, rS, hS2] <;> first | done | exact rfl | (rw [IntWalk.i64_in _ (by omega)]; exact rfl) | trace_state)
              refine wpPt_val rfl rfl ?_
              apply Exists.intro
              refine ⟨fun w' hS => ?_, ?_⟩
              focus (obtain ⟨hS1, hS2⟩ := hS; have rS := cell_of hS1; simp [go_sem, ↓IntWalk.iteOmega, rS, hS2] <;> first | done | exact rfl | (rw [IntWalk.i64_in _ (by omega)]; exact rfl) | trace_state)
              refine wpPt_val rfl rfl ?_
              apply Exists.intro
              refine ⟨fun w' hS => ?_, ?_⟩
              focus (obtain ⟨hS1, hS2⟩ := hS; have rS := cell_of hS1; simp [go_sem, ↓IntWalk.iteOmega, rS, hS2] <;> first | done | exact rfl | (rw [IntWalk.i64_in _ (by omega)]; exact rfl) | trace_state)
              refine wpPt_val rfl rfl ?_
              apply Exists.intro
              refine ⟨fun w' hS => ?_, ?_⟩
              focus (obtain ⟨hS1, hS2⟩ := hS; have rS := cell_of hS1; simp [go_sem, ↓IntWalk.iteOmega, rS, hS2] <;> first | done | exact rfl | (rw [IntWalk.i64_in _ (by omega)]; exact rfl) | trace_state)
              refine wpPt_val rfl rfl ?_
              apply Exists.intro
              refine ⟨fun w' hS => ?_, ?_⟩
              focus (obtain ⟨hS1, hS2⟩ := hS; have rS := cell_of hS1; simp [go_sem, ↓IntWalk.iteOmega, rS, hS2] <;> first | done | exact rfl | (rw [IntWalk.i64_in _ (by omega)]; exact rfl) | trace_state)
              refine wpPt_one rfl rfl (fun K hK => ?_)
              go_simp
              refine (l2Any_any o l m pa' pc' ps' b last' c _ (by repeat (first | exact HT6.out.rp | apply rd_seq | apply Rd.plus | apply Rd.alloc | apply Rd.drew | apply Rd.drewN | refine rd_patch ?_ _ _ (by intro A hA; first | (cases hA; show _ ≠ _; omega) | (have := hal A hA; omega)))) HK.out HOK.out).mono ?_
              rintro e w' ⟨rfl, x12, rfl⟩
              rw [HY2.out]
              refine hK _ _ (fun hkn => (by repeat (first | exact HCK.out | apply ck_seq | apply CK.plus | apply CK.drew))) ?_
              clear hK K
              refine wpPt_one rfl rfl (fun K hK => ?_)
              refine oper_append_str _ _ _ _ _ j0 rfl Tryz.underlying34 Tryz.underlying9 hj jz0 jz1 jz2 D da dc (w.heap.size + 1) (by repeat (first | (with_reducible exact HT6.out.od) | (with_reducible apply own_seq) | (with_reducible apply own_draw) | (with_reducible apply Own.plus) | (with_reducible apply Own.alloc) | (with_reducible apply Own.drew) | (with_reducible apply Own.drewN))) rfl _ rfl (by omega) (by simp <;> omega) ?_
              intro A7 c7 w7 hw7 hg7 hx7
              have HT7 := Lib.hid (T3q.grewB (o := o) (l := l) (m := m) (ps := ps') (base := (b : Int)) (last := last') (pa := pa') (pc := pc') (W := W ++ [wd l m ps'.length last']) (D := D) (wa := A6) (wc := c6) (by repeat (first | (with_reducible exact HT6.out) | (with_reducible apply t3q_seq) | (with_reducible apply T3q.plus) | (with_reducible apply T3q.alloc) | (with_reducible apply T3q.drew))) hw7 hg7 hx7)
              have hbl7 := hg7.below (B := w.heap.size + 1) (by simp <;> omega) (fun X hX => own_lo HT6.out.od X hX)
              have HB7 := Lib.hid (HB6.out.trans (Below.trans (b := _) (by repeat (first | exact Below.refl _ _ | refine below_plus ?_ (by first | omega | (simp <;> omega)) _ | refine Below.alloc ?_ (by first | omega | (simp <;> omega)) _ | refine below_patch ?_ (by omega) _ | refine Below.drew ?_)) (hbl7.mono (by omega))))
              have z7 := hg7.size
              simp at z7
              have HL7 := Lib.hid (Lo.nxt HLD.out hx7 (by simp <;> omega))
              have HRS7 := Lib.hid (blk_grew hg7 (by repeat (first | (with_reducible exact HRS6.out) | (with_reducible apply blk_seq) | (with_reducible apply blk_draw) | (with_reducible apply blk_plus) | (with_reducible apply blk_alloc) | (with_reducible apply blk_drew) | (with_reducible refine blk_patch ?_ (by omega)) | exact HRS6.out)) (fun X hX e => by have := HLD.out X hX; omega))
              have HCK7 := Lib.hid (CK.grew (show CK _ w.heap.size _ bg (off + k) c by repeat (first | exact HCK.out | apply ck_seq | apply CK.plus | apply CK.drew)) hg7 (fun X hX e => by have := HLD.out X hX; omega) (fun X hX e => by have := HLD.out X hX; omega))
              have r7 := cell_of HT7.out.blk
              have f7 := free_of HT7.out.blk
              have s7 := fun v => setCell_patch HT7.out.blk 0 v
              have hB7 := HT7.out.B_lt
              refine hK _ _ (fun hkn => HCK7.out) ?_
              clear hK K
              refine wpPt_one rfl rfl (fun K hK => ?_)
              go_simp
              refine hK _ _ (fun hkn => absurd hkn (by decide)) ?_
              clear hK K
              refine NoPanic.normal ?_
              go_wp2
              refine wp_region_pt 6 (fun w' => CK w' w.heap.size (.cells #[.int .i64 o, .int .i64 l, .int .i64 m, .slice pa' ps'.length pc', .int .i64 b, .int .i64 last'] 26 (0, 0)) bg (off + k) c) (Plan.quiet 0 (Plan.quiet 1 (Plan.quiet 2 (Plan.quiet 3 (Plan.quiet 4 (Plan.one 5 (Plan.one 6 Plan.done))))))) (by kernel_rfl) (by kernel_rfl) (HCK7.out.drew) ?_
              refine wpPt_val rfl rfl ?_
              apply Exists.intro
              refine ⟨fun w' hS => ?_, ?_⟩
              focus (obtain ⟨hS1, hS2⟩ := hS; have rS := cell_of hS1; simp [go_sem, ↓IntWalk.iteOmega, rS, hS2] <;> first | done | exact rfl | (rw [IntWalk.i64_in _ (by omega)]; exact rfl) | trace_state)
              refine wpPt_val rfl rfl ?_
              apply Exists.intro
              refine ⟨fun w' hS => ?_, ?_⟩
              focus (obtain ⟨hS1, hS2⟩ := hS; have rS := cell_of hS1; simp [go_sem, ↓IntWalk.iteOmega, rS, hS2] <;> first | done | exact rfl | (rw [IntWalk.i64_in _ (by omega)]; exact rfl) | trace_state)
              refine wpPt_val rfl rfl ?_
              apply Exists.intro
              refine ⟨fun w' hS => ?_, ?_⟩
              focus (obtain ⟨hS1, hS2⟩ := hS; have rS := cell_of hS1; simp [go_sem, ↓IntWalk.iteOmega, rS, hS2] <;> first | done | exact rfl | (rw [IntWalk.i64_in _ (by omega)]; exact rfl) | trace_state)
              refine wpPt_val rfl rfl ?_
              apply Exists.intro
              refine ⟨fun w' hS => ?_, ?_⟩
              focus (obtain ⟨hS1, hS2⟩ := hS; have rS := cell_of hS1; simp [go_sem, ↓IntWalk.iteOmega, rS, hS2] <;> first | done | exact rfl | (rw [IntWalk.i64_in _ (by omega)]; exact rfl) | trace_state)
              refine wpPt_val rfl rfl ?_
              apply Exists.intro
              refine ⟨fun w' hS => ?_, ?_⟩
              focus (obtain ⟨hS1, hS2⟩ := hS; have rS := cell_of hS1; simp [go_sem, ↓IntWalk.iteOmega, rS, hS2] <;> first | done | exact rfl | (rw [IntWalk.i64_in _ (by omega)]; exact rfl) | trace_state)
              refine wpPt_one rfl rfl (fun K hK => ?_)
              go_simp
              refine (l2Step_code o l m pa' pc' ps' b last' c _ (by repeat (first | exact HT7.out.rp | apply rd_seq | apply Rd.plus | apply Rd.alloc | apply Rd.drew | apply Rd.drewN | refine rd_patch ?_ _ _ (by intro A hA; first | (cases hA; show _ ≠ _; omega) | (have := hal A hA; omega)))) HK.out HOK.out hcl).mono ?_
              rintro e w' ⟨A8, c8, rfl, hown8, x8, rfl⟩
              try simp only [plus_plus] at hown8
              have HO8 := Lib.hid hown8
              clear hown8
              refine hK _ _ (fun hkn => (by repeat (first | exact HCK7.out | apply ck_seq | apply CK.plus | apply CK.drew))) ?_
              clear hK K
              refine wpPt_one rfl rfl (fun K hK => ?_)
              go_simp
              refine hK _ _ (fun hkn => absurd hkn (by decide)) ?_
              clear hK K
              refine NoPanic.normal ?_
              go_wp2
              have HT9 := Lib.hid (T3q.put (last' := c) HT7.out HO8.out)
              have HM9 := Lib.hid (show ((D ++ y2.data.toList).length ≤ 2000 ∧ wlk l m b (is.drop (k + 1)) (aftP l m ps' last' c) c (W ++ [wd l m ps'.length last']) (D ++ y2.data.toList) = R) ∨ (2000 < (D ++ y2.data.toList).length ∧ R = none) by
                rw [HYB.out, List.length_append]
                rcases HWK.out with ⟨h1, h2⟩ | ⟨h1, h2⟩
                · by_cases hs2 : D.length + (anyW l ps' last' c).length ≤ 2000
                  · rw [HDK.out, wlk_word HOK.out hs2] at h2
                    exact .inl ⟨hs2, h2⟩
                  · rw [HDK.out, wlk_bad hcl he (fun h => hs2 h.2)] at h2
                    exact .inr ⟨by omega, h2.symm⟩
                · exact .inr ⟨by omega, h2⟩)
              go_roundw
              case rel => exact ⟨k + 1, A6, _, c6, A7, _, c7, rfl, rfl, by go_num, aftP l m ps' last' c, c, A8, c8, W ++ [wd l m ps'.length last'], D ++ y2.data.toList, by simp, by simp, HT9.out, HL6.out, HL7.out, blk_plus (blk_patch HRS7.out (by omega)) _, HK.out.after HOK.out, by omega, by simp; omega, by rw [HYB.out, List.length_append]; omega, HM9.out, below_plus (below_patch HB7.out (Nat.le_refl _) _) (by simp; omega) _⟩
              case measure => simp [intOf]; omega
    · obtain rfl : k = is.length := by omega
      have us := fun v => setCell_patch HRS.out 0 v
      have hsz3 : w.heap.size + 1 < wr.heap.size := hsz2
      have hq1 := run_str_own (P := Tryz.prog) (W := wr) Tryz.underlying34 Tryz.underlying5 Tryz.underlying9 HT.out.od
      have hq2 := run_str_own (P := Tryz.prog) (W := wr.drew) Tryz.underlying34 Tryz.underlying5 Tryz.underlying9 HT.out.od.drew
      have hod := fun (ob : Obj) => own_patch (ob := ob) (b := w.heap.size + 1) HT.out.od (fun X hX => by have := HLD.out X hX; omega)
      have hq3 := fun (ob : Obj) => run_str_own (P := Tryz.prog) Tryz.underlying34 Tryz.underlying5 Tryz.underlying9 (hod ob)
      have hq4 := fun (ob : Obj) => run_str_own (P := Tryz.prog) Tryz.underlying34 Tryz.underlying5 Tryz.underlying9 (hod ob).drew
      clear hod r3 hri3
      by_cases hd2 : D.length ≤ 2000
      · have v6 : decide (D.length ≤ 2000) = true := decide_eq_true hd2
        have HMT := Lib.hid (show MT R W (bstr D) true by
          rcases HWK.out with ⟨h1, h2⟩ | ⟨h1, h2⟩
          · rw [List.drop_length, wlk_nil] at h2
            subst h2
            exact ⟨rfl, rfl, rfl, h1⟩
          · omega)
        go_wp2_with fail
        go_region_o
        go_wp2
        refine bodyPost_ret (v := .tuple #[.agg #[.int .i64 o, .int .i64 l, .int .i64 m, .slice pa' ps'.length pc', .int .i64 b, .int .i64 last'], .slice wa W.length wc, .string (bstr D), .bool true]) (by simp [results, Tryz.results124, go_sem, ↓IntWalk.iteOmega, hsz3]; omega) rfl ?_
        exact ⟨pa', ps'.length, pc', last', wa, wc, W, bstr D, true, rfl, ((own_patch HT.out.ow (fun X hX => by have := HLW.out X hX; omega)).drew).lower (by omega), by rw [bstr_size]; omega, HMT.out, below_more (Below.drew (below_patch HBL.out (by omega) _))⟩
      · have v6 : decide (D.length ≤ 2000) = false := decide_eq_false hd2
        have HMT := Lib.hid (show MT R W (bstr D) false by
          rcases HWK.out with ⟨h1, h2⟩ | ⟨h1, h2⟩
          · omega
          · subst h2
            exact .inl rfl)
        go_wp2_with fail
        go_region_o
        go_wp2
        refine bodyPost_ret (v := .tuple #[.agg #[.int .i64 o, .int .i64 l, .int .i64 m, .slice pa' ps'.length pc', .int .i64 b, .int .i64 last'], .slice wa W.length wc, .string (bstr D), .bool false]) (by simp [results, Tryz.results124, go_sem, ↓IntWalk.iteOmega, hsz3]; omega) rfl ?_
        exact ⟨pa', ps'.length, pc', last', wa, wc, W, bstr D, false, rfl, ((own_patch HT.out.ow (fun X hX => by have := HLW.out X hX; omega)).drew).lower (by omega), by rw [bstr_size]; omega, HMT.out, below_more (Below.drew (below_patch HBL.out (by omega) _))⟩

end Go.Proofs.YtmddcbebaijjkaaGreatDoor
