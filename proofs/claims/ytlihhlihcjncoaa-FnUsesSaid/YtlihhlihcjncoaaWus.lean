/- The walks of WordUses, of the program and of the reference. -/
import Derived.Test.YtlihhlihcjncoaaGrc
namespace Go.Proofs.Ytlihhlihcjncoaa
open Go.RowKit
set_option linter.unusedVariables false
set_option linter.unusedSimpArgs false

/-- a code more is counted -/
def bump (e : Int) (b : Nat) (us : List Int) (c : Int) : List Int := if 0 ≤ c - e - 1 ∧ c - e - 1 < b then us.set (c - e - 1).toNat ((us[(c - e - 1).toNat]?).getD 0 + 1) else us

theorem bump_len (e : Int) (b : Nat) (us : List Int) (c : Int) : (bump e b us c).length = us.length := by
  unfold bump; split <;> simp

/-- how often the codes name each of the first b pairs -/
def useL (e : Int) (b : Nat) (cs : List Int) : List Int := cs.foldl (bump e b) (List.replicate b 0)

theorem fold_len (e : Int) (b : Nat) : ∀ (cs us : List Int), (cs.foldl (bump e b) us).length = us.length
  | [], _ => rfl
  | c :: cs, us => by rw [List.foldl_cons, fold_len e b cs, bump_len]

theorem useL_len (e : Int) (b : Nat) (cs : List Int) : (useL e b cs).length = b := by unfold useL; rw [fold_len]; simp

/-- the numbers lie between 0 and k -/
def Few (us : List Int) (k : Nat) : Prop := ∀ (i : Nat) (v : Int), us[i]? = some v → 0 ≤ v ∧ v ≤ k

theorem Few.bump {e : Int} {b : Nat} {us : List Int} {c : Int} {k : Nat} (h : Few us k) : Few (bump e b us c) (k + 1) := by
  unfold Go.Proofs.Ytlihhlihcjncoaa.bump
  split
  · generalize (c - e - 1).toNat = j
    intro i v hv
    rw [List.getElem?_set] at hv
    split at hv
    · split at hv
      · rename_i h1 h2
        have hx : us[j]? = some us[j] := List.getElem?_eq_getElem h2
        have := h _ _ hx
        rw [hx, Option.getD_some] at hv
        cases hv
        omega
      · cases hv
    · have := h i v hv; omega
  · intro i v hv
    have := h i v hv; omega

theorem few_zero (b : Nat) : Few (List.replicate b 0) 0 := fun i v hv => by
  rw [List.getElem?_replicate] at hv
  split at hv
  · cases hv; omega
  · cases hv

theorem rowI_get {cur : Array Value} {us : List Int} (h : Row encI cur us) {i : Nat} {v : Int} (hv : us[i]? = some v) : cur[i]? = some (.int .i64 v) := by
  have := h (i * 1 + 0) _ (flat_get encI us i v hv 0 (by decide))
  simpa using this

theorem rowI_set {cur : Array Value} {us : List Int} (h : Row encI cur us) (i : Nat) (v : Int) (hs : us.length ≤ cur.size) : Row encI (cur.setIfInBounds i (.int .i64 v)) (us.set i v) :=
  row_of encI _ _ fun j x hx q hq => by
    obtain rfl : q = 0 := by have : q < 1 := hq; omega
    show (cur.setIfInBounds i (.int .i64 v))[j * 1 + 0]? = some (.int .i64 x)
    rw [show j * 1 + 0 = j by omega, Array.getElem?_setIfInBounds]
    rw [List.getElem?_set] at hx
    by_cases hij : i = j
    · subst hij
      rw [if_pos rfl] at hx ⊢
      split at hx
      · cases hx; rw [if_pos (by omega)]
      · cases hx
    · rw [if_neg hij] at hx ⊢
      exact rowI_get h hx

/-- all codes are small -/
theorem gre_bd {o l m : Int} {b : Nat} : ∀ (f : Nat) (ps : List Pr) (last : Int) (d : List UInt8), Tx o l m (b : Int) ps last d → ∀ c, c ∈ gre l m b f ps last d → 0 ≤ c ∧ c ≤ 2000
  | 0, _, _, _, _, c, hc => by simp [gre] at hc
  | f + 1, ps, last, d, hT, c, hc => by
    have step : ∀ (ps : List Pr) (last : Int), Tx o l m (b : Int) ps last d → d ≠ [] → full l m ps.length b = false → ∀ c, c ∈ gre l m b (f + 1) ps last d → 0 ≤ c ∧ c ≤ 2000 := fun ps last hT hd hf c hc => by
      obtain ⟨n, k, hn, hk, hT'⟩ := hT.step hd
      rw [gre_step hd hf hn hk] at hc
      obtain ⟨_, _, _, _, t1, t2, _, t4⟩ := hT.1.lim.bds
      rcases List.mem_cons.1 hc with rfl | hc
      · have h1 := okc_le (fnd_ok hn hk) t1
        have h2 := gt_bd hT.1.lim
        have h3 := (fnd_ok hn hk).nonneg t1
        omega
      · exact gre_bd f _ _ _ hT' c hc
    by_cases hd : d = []
    · subst hd; rw [gre_nil] at hc; simp at hc
    · cases hf : full l m ps.length b
      · exact step ps last hT hd hf c hc
      · rw [gre_full hd hf] at hc
        obtain ⟨_, _, _, _, t1, t2, _, t4⟩ := hT.1.lim.bds
        rcases List.mem_cons.1 hc with rfl | hc
        · omega
        · exact step _ _ hT.clear hd (full_no.2 (by have := (full_iff.1 hf).2; rw [List.length_take]; omega)) c hc

theorem greL_bd {o l m base last : Int} {b : Nat} {ps : List Pr} {s : ByteArray} (hkv : KV o l m ps base last) (hb : base = b) (hd : dfB o l m s = true) : ∀ c, c ∈ greL l m b ps s.data.toList → 0 ≤ c ∧ c ≤ 2000 := by
  subst hb
  obtain ⟨_, _, _, _, t1, t2, _, t4⟩ := hkv.lim.bds
  intro c hc
  unfold greL at hc
  rcases List.mem_cons.1 hc with rfl | hc
  · omega
  · rcases List.mem_append.1 hc with hc | hc
    · exact gre_bd (o := o) (b := b) _ _ _ _ ⟨by simpa using hkv.cleared, by rw [bstr_bytes]; exact hd⟩ c hc
    · simp at hc; subst hc; omega

theorem wrt_at {e : TypeId} {w : World} {cur : Array Value} {us : List Int} {b lo : Nat} (hb : b = w.heap.size) (hlo : lo ≤ b) (hs : us.length ≤ cur.size) (hr : Row encI cur us) (h64 : us.length ≤ 9223372036854775807) : Wrt encI e (w.alloc (.cells cur e)) (some ⟨b, 0, none⟩) us.length us lo :=
  .inr ⟨b, cur, rfl, hlo, by subst hb; rw [push_at, if_neg (by omega), if_pos rfl], by simpa [encI] using hs, hr, Nat.le_refl _, h64⟩

/-- the state of the loop -/
def USt (e : Int) (b : Nat) (G U : List Int) (w1 : World) (k : Nat) (wr : World) : Prop :=
  ∃ (us : List Int) (cur : Array Value) (y : Ext), k ≤ G.length ∧ us.length = b ∧ cur.size = b ∧ Row encI cur us ∧ Few us k ∧ (G.drop k).foldl (bump e b) us = U ∧ wr = plus (w1.alloc (.cells cur 3)) y

theorem row_zeros (b : Nat) : Row encI (madeCells (Value.int .i64 0).cells b) (List.replicate b 0) :=
  row_of encI _ _ fun j x hx q hq => by
    obtain rfl : q = 0 := by have : q < 1 := hq; omega
    rw [List.getElem?_replicate] at hx
    split at hx
    · rename_i h
      cases hx
      show (madeCells _ _)[j * 1 + 0]? = some (.int .i64 0)
      rw [show j * 1 + 0 = j by omega]
      simp [madeCells, h, Nat.mod_one, Value.cells]
    · cases hx

theorem madeI_size (b : Nat) : (madeCells (Value.int .i64 0).cells b).size = b := by simp [size_madeCells]

set_option maxRecDepth 100000 in
set_option maxHeartbeats 2000000 in
theorem implWordUses_yes (o l m : Int) (a : Option Addr) (cap : Nat) (ps : List Pr) (base last : Int) (s : ByteArray) (w : World) (hr : RdP w a cap ps) (hs2 : s.size ≤ maxLen) (hk : kvb o l m ps base last = true) (hd : dfB o l m s = true) (b : Nat) (hb : base = b) (U : List Int) (hU : useL (two l + 1) b (greL l m b ps s.data.toList) = U) :
    Calls Try.prog 40 #[.agg #[.int .i64 o, .int .i64 l, .int .i64 m, .slice a ps.length cap, .int .i64 base, .int .i64 last], .string s] w (RetI w (fun a0 c0 => .tuple #[.slice a0 U.length c0, .bool true]) U) := by
  subst hb
  have hkv := kvb_iff.1 hk
  have hs := hkv.s
  have hlen := kv_len hk
  have hb1 := hkv.b1
  have hbl : b ≤ 2000 := by omega
  have hbd0 := greL_bd hkv rfl hd
  have hgl0 := greL_len hkv rfl hd
  obtain ⟨_, _, _, _, t1, t2, _, t4⟩ := hkv.lim.bds
  obtain ⟨G, hG⟩ : ∃ G, greL l m b ps s.data.toList = G := ⟨_, rfl⟩
  rw [hG] at hU hbd0 hgl0
  have hUl : U.length = b := by rw [← hU, useL_len]
  have HU := Lib.hid hU
  have HG := Lib.hid hG
  have HBD := Lib.hid hbd0
  obtain ⟨i0, hi, iz0, iz1, iz2⟩ := info_parts infoInt
  have hmk : ∀ W : World, (Instr.makeSlice 55 (.int .i64 (b : Int)) (.int .i64 (b : Int))).run Try.prog W = .ok (.slice (some ⟨W.heap.size, 0, none⟩) b b) (W.alloc (.cells (madeCells (Value.int .i64 0).cells b) 3)) := by
    intro W
    have := run_make (P := Try.prog) (w := W) 55 3 i0 _ Try.underlying55 hi iz0 .i64 .i64 (b : Int) (b : Int) (by omega) (by omega) (by rw [iz2]; omega) (by omega)
    rw [iz1] at this
    simpa using this
  clear hkv hU hG hbd0 hb1
  go_enter Try.func40, Try.ntmps40
  go_wp2_with fail
  refine (implGreedyCodes_yes _ _ _ _ _ ps _ _ s _ (by repeat (first | exact hr | apply rd_seq | apply Rd.plus | apply Rd.alloc | apply Rd.drew | apply Rd.drewN | refine rd_patch ?_ _ _ (by intro A hA; first | (cases hA; show _ ≠ _; omega) | (have := hal A hA; omega)))) hs2 hk hd b rfl G HG.out).mono ?_
  rintro e w1 ⟨pa, pc, rfl, hown, hx⟩
  obtain ⟨r1, r2, r3⟩ := rdI_open hown.rd
  have hblk : w1.heap[w.heap.size]? = some (.cells #[.int .i64 o, .int .i64 l, .int .i64 m, .slice a ps.length cap, .int .i64 b, .int .i64 last] 27 (0, 0)) := by
    obtain ⟨x, rfl⟩ := hx
    exact blk_plus (push_new _ _ _ rfl) _
  have hmore : ∃ x, w1 = plus w x := by
    obtain ⟨x, rfl⟩ := hx
    exact (show More w _ from (by repeat (first | exact More.refl _ | apply More.plus | apply More.alloc | apply More.drew | apply More.drewN)))
  have hsz1 := (Array.getElem?_eq_some_iff.1 hblk).1
  have rk := cell_of hblk
  have HM := Lib.hid hmore
  clear hown hx hblk hmore
  go_wp2_with fail
  go_loopw [25] (fun q wr => ∃ (k : Nat), q = .int .i64 k ∧ USt (two l + 1) b G U w1 k wr) (fun q _ => G.length - (intOf q).toNat)
  case atStart =>
    exact ⟨0, rfl, List.replicate b 0, _, _, Nat.zero_le _, by simp, madeI_size b, row_zeros b, few_zero b, HU.out, (plus_self _).symm⟩
  case round =>
    obtain ⟨k, rfl, us, cur, y, hk1, hul, hcs, hrow, hfew, hfo, rfl⟩ := hrel
    have HR := Lib.hid hrow
    have HF := Lib.hid hfew
    have HFO := Lib.hid hfo
    clear hrow hfew hfo
    rcases dec (k < G.length) with ⟨hlt, v1⟩ | ⟨hlt, v1⟩
    · obtain ⟨c, hc⟩ : ∃ c, G[k]? = some c := ⟨_, List.getElem?_eq_getElem hlt⟩
      obtain ⟨d0, d1⟩ := HBD.out c (List.mem_of_getElem? hc)
      rcases r3 with rfl | ⟨bg, off, rfl, hbg, hcells⟩
      · exact absurd hlt (by omega)
      have c1 := hcells k c hc
      have HDK := Lib.hid (show G.drop k = c :: G.drop (k + 1) by rw [List.drop_eq_getElem_cons hlt]; congr 1; rw [List.getElem?_eq_getElem hlt] at hc; exact Option.some.inj hc)
      clear hc hcells
      by_cases hin : 0 ≤ c - (two l + 1) - 1 ∧ c - (two l + 1) - 1 < b
      · obtain ⟨j, hj⟩ : ∃ j : Nat, c - (two l + 1) - 1 = j := ⟨(c - (two l + 1) - 1).toNat, by omega⟩
        have hjb : j < b := by omega
        have e8 : IntKind.i64.wrap (c - (two l + 1) - 1) = (j : Int) := by rw [IntWalk.i64_in _ (by omega)]; exact hj
        obtain ⟨x, hx⟩ : ∃ x, us[j]? = some x := ⟨_, List.getElem?_eq_getElem (by omega)⟩
        obtain ⟨x0, x1⟩ := HF.out j x hx
        have rc := rowI_get HR.out hx
        have HBU := Lib.hid (show bump (two l + 1) b us c = us.set j (x + 1) by unfold bump; rw [if_pos hin, hj]; simp [hx])
        have HSET := Lib.hid (rowI_set HR.out j (x + 1) (by omega))
        have HC := Lib.hid hcs
        have HF2 := Lib.hid (HF.out.bump (e := two l + 1) (b := b) (c := c))
        have HFO2 := Lib.hid (show (G.drop (k + 1)).foldl (bump (two l + 1) b) (bump (two l + 1) b us c) = U by have := HFO.out; rw [HDK.out, List.foldl_cons] at this; exact this)
        clear hx hin hcs
        go_wp2_with (go_at_call 44; refine (EndCode_yes _ _ _ hs _).mono ?_; rintro e w' ⟨rfl, xc, rfl⟩)
        go_roundw
        case rel =>
          refine ⟨k + 1, by go_num, us.set j (x + 1), _, _, by omega, by rw [List.length_set]; exact hul, ?_, HSET.out, by rw [← HBU.out]; exact HF2.out, by rw [← HBU.out]; exact HFO2.out, rfl⟩
          rw [Array.size_setIfInBounds]; exact HC.out
        case measure => simp [intOf]; omega
      · have HBU := Lib.hid (show bump (two l + 1) b us c = us by unfold bump; rw [if_neg hin])
        have HF2 := Lib.hid (HF.out.bump (e := two l + 1) (b := b) (c := c))
        have HFO2 := Lib.hid (show (G.drop (k + 1)).foldl (bump (two l + 1) b) (bump (two l + 1) b us c) = U by have := HFO.out; rw [HDK.out, List.foldl_cons] at this; exact this)
        rcases (show (c - (two l + 1) - 1 < 0) ∨ (0 ≤ c - (two l + 1) - 1 ∧ (b : Int) ≤ c - (two l + 1) - 1) by omega) with hlo | ⟨hlo, hhi⟩
        all_goals
          go_wp2_with (go_at_call 44; refine (EndCode_yes _ _ _ hs _).mono ?_; rintro e w' ⟨rfl, xc, rfl⟩)
          go_roundw
          case rel =>
            exact ⟨k + 1, by go_num, us, _, _, by omega, hul, hcs, HR.out, by rw [← HBU.out]; exact HF2.out, by rw [← HBU.out]; exact HFO2.out, rfl⟩
          case measure => simp [intOf]; omega
    · obtain rfl : k = G.length := by omega
      have HUS := Lib.hid (show us = U by have := HFO.out; rw [List.drop_length] at this; exact this)
      clear hlt
      go_wp2_with fail
      obtain ⟨x9, hx9⟩ := HM.out
      subst hx9
      rw [← HUS.out]
      refine bodyPost_ret (v := .tuple #[.slice (some ⟨_, 0, none⟩) us.length us.length, .bool true]) (by simp [results, Try.results40, go_sem, hul]; first | done | rfl) rfl ⟨_, _, rfl, Wrt.plus (wrt_at (by simp) (by simp <;> omega) (by omega) HR.out (by omega)) _, (by repeat (first | exact More.refl _ | apply More.plus | apply More.alloc | apply More.drew | apply More.drewN))⟩

set_option maxRecDepth 100000 in
set_option maxHeartbeats 2000000 in
theorem specWordUses_yes (o l m : Int) (a : Option Addr) (cap : Nat) (ps : List Pr) (base last : Int) (s : ByteArray) (w : World) (hr : RdP w a cap ps) (hs2 : s.size ≤ maxLen) (hk : kvb o l m ps base last = true) (hd : dfB o l m s = true) (b : Nat) (hb : base = b) (U : List Int) (hU : useL (two l + 1) b (greL l m b ps s.data.toList) = U) :
    Calls Try.prog 41 #[.agg #[.int .i64 o, .int .i64 l, .int .i64 m, .slice a ps.length cap, .int .i64 base, .int .i64 last], .string s] w (RetI w (fun a0 c0 => .tuple #[.slice a0 U.length c0, .bool true]) U) := by
  subst hb
  have hkv := kvb_iff.1 hk
  have hs := hkv.s
  have hlen := kv_len hk
  have hb1 := hkv.b1
  have hbl : b ≤ 2000 := by omega
  have hbd0 := greL_bd hkv rfl hd
  have hgl0 := greL_len hkv rfl hd
  obtain ⟨l1, l2, _, _, t1, t2, _, t4⟩ := hkv.lim.bds
  have l0 : 0 ≤ l := by omega
  have l10 : l ≤ 10 := by omega
  obtain ⟨G, hG⟩ : ∃ G, greL l m b ps s.data.toList = G := ⟨_, rfl⟩
  rw [hG] at hU hbd0 hgl0
  have hUl : U.length = b := by rw [← hU, useL_len]
  have HU := Lib.hid hU
  have HG := Lib.hid hG
  have HBD := Lib.hid hbd0
  obtain ⟨i0, hi, iz0, iz1, iz2⟩ := info_parts infoInt
  have hmk : ∀ W : World, (Instr.makeSlice 55 (.int .i64 (b : Int)) (.int .i64 (b : Int))).run Try.prog W = .ok (.slice (some ⟨W.heap.size, 0, none⟩) b b) (W.alloc (.cells (madeCells (Value.int .i64 0).cells b) 3)) := by
    intro W
    have := run_make (P := Try.prog) (w := W) 55 3 i0 _ Try.underlying55 hi iz0 .i64 .i64 (b : Int) (b : Int) (by omega) (by omega) (by rw [iz2]; omega) (by omega)
    rw [iz1] at this
    simpa using this
  clear hkv hU hG hbd0 hb1
  go_enter Try.func41, Try.ntmps41
  go_wp2_with fail
  refine (specGreedyCodes_yes _ _ _ _ _ ps _ _ s _ (by repeat (first | exact hr | apply rd_seq | apply Rd.plus | apply Rd.alloc | apply Rd.drew | apply Rd.drewN | refine rd_patch ?_ _ _ (by intro A hA; first | (cases hA; show _ ≠ _; omega) | (have := hal A hA; omega)))) hs2 hk hd b rfl G HG.out).mono ?_
  rintro e w1 ⟨pa, pc, rfl, hown, hx⟩
  obtain ⟨r1, r2, r3⟩ := rdI_open hown.rd
  have hblk : w1.heap[w.heap.size]? = some (.cells #[.int .i64 o, .int .i64 l, .int .i64 m, .slice a ps.length cap, .int .i64 b, .int .i64 last] 27 (0, 0)) := by
    obtain ⟨x, rfl⟩ := hx
    exact blk_plus (push_new _ _ _ rfl) _
  have hmore : ∃ x, w1 = plus w x := by
    obtain ⟨x, rfl⟩ := hx
    exact (show More w _ from (by repeat (first | exact More.refl _ | apply More.plus | apply More.alloc | apply More.drew | apply More.drewN)))
  have hsz1 := (Array.getElem?_eq_some_iff.1 hblk).1
  have rk := cell_of hblk
  have HM := Lib.hid hmore
  clear hown hx hblk hmore
  go_wp2_with fail
  go_loopw [9] (fun q wr => ∃ (k : Nat), q = .int .i64 k ∧ USt (two l + 1) b G U w1 k wr) (fun q _ => G.length - (intOf q).toNat)
  case atStart =>
    exact ⟨0, rfl, List.replicate b 0, _, _, Nat.zero_le _, by simp, madeI_size b, row_zeros b, few_zero b, HU.out, (plus_self _).symm⟩
  case round =>
    obtain ⟨k, rfl, us, cur, y, hk1, hul, hcs, hrow, hfew, hfo, rfl⟩ := hrel
    have HR := Lib.hid hrow
    have HF := Lib.hid hfew
    have HFO := Lib.hid hfo
    clear hrow hfew hfo
    rcases dec (k < G.length) with ⟨hlt, v1⟩ | ⟨hlt, v1⟩
    · obtain ⟨c, hc⟩ : ∃ c, G[k]? = some c := ⟨_, List.getElem?_eq_getElem hlt⟩
      obtain ⟨d0, d1⟩ := HBD.out c (List.mem_of_getElem? hc)
      rcases r3 with rfl | ⟨bg, off, rfl, hbg, hcells⟩
      · exact absurd hlt (by omega)
      have c1 := hcells k c hc
      have HDK := Lib.hid (show G.drop k = c :: G.drop (k + 1) by rw [List.drop_eq_getElem_cons hlt]; congr 1; rw [List.getElem?_eq_getElem hlt] at hc; exact Option.some.inj hc)
      clear hc hcells
      by_cases hin : 0 ≤ c - (two l + 1) - 1 ∧ c - (two l + 1) - 1 < b
      · obtain ⟨j, hj⟩ : ∃ j : Nat, c - (two l + 1) - 1 = j := ⟨(c - (two l + 1) - 1).toNat, by omega⟩
        have hjb : j < b := by omega
        have e8 : IntKind.i64.wrap (c - (two l + 1) - 1) = (j : Int) := by rw [IntWalk.i64_in _ (by omega)]; exact hj
        obtain ⟨x, hx⟩ : ∃ x, us[j]? = some x := ⟨_, List.getElem?_eq_getElem (by omega)⟩
        obtain ⟨x0, x1⟩ := HF.out j x hx
        have rc := rowI_get HR.out hx
        have HBU := Lib.hid (show bump (two l + 1) b us c = us.set j (x + 1) by unfold bump; rw [if_pos hin, hj]; simp [hx])
        have HSET := Lib.hid (rowI_set HR.out j (x + 1) (by omega))
        have HC := Lib.hid hcs
        have HF2 := Lib.hid (HF.out.bump (e := two l + 1) (b := b) (c := c))
        have HFO2 := Lib.hid (show (G.drop (k + 1)).foldl (bump (two l + 1) b) (bump (two l + 1) b us c) = U by have := HFO.out; rw [HDK.out, List.foldl_cons] at this; exact this)
        clear hx hin hcs
        go_wp2_with fail
        refine wp_region_pt 9 (fun w' => ∃ y, w' = plus _ y) (Plan.quiet 0 (Plan.quiet 1 (Plan.quiet 2 (Plan.quiet 3 (Plan.quiet 4 (Plan.quiet 5 (Plan.one 6 (Plan.quiet 7 (Plan.quiet 8 (Plan.one 9 Plan.done)))))))))) (by kernel_rfl) (by kernel_rfl) (⟨_, drew_is_plus _⟩) ?_
        refine wpPt_val rfl rfl ?_
        apply Exists.intro
        refine ⟨fun w' hS => ?_, ?_⟩
        focus (obtain ⟨y3, rfl⟩ := hS; simp [go_sem, ↓IntWalk.iteOmega, rk, c1] <;> first | done | exact rfl | (rw [IntWalk.i64_in _ (by omega)]; exact rfl) | trace_state)
        refine wpPt_val rfl rfl ?_
        apply Exists.intro
        refine ⟨fun w' hS => ?_, ?_⟩
        focus (obtain ⟨y3, rfl⟩ := hS; simp [go_sem, ↓IntWalk.iteOmega, rk, c1] <;> first | done | exact rfl | (rw [IntWalk.i64_in _ (by omega)]; exact rfl) | trace_state)
        refine wpPt_val rfl rfl ?_
        apply Exists.intro
        refine ⟨fun w' hS => ?_, ?_⟩
        focus (obtain ⟨y3, rfl⟩ := hS; simp [go_sem, ↓IntWalk.iteOmega, rk, c1] <;> first | done | exact rfl | (rw [IntWalk.i64_in _ (by omega)]; exact rfl) | trace_state)
        refine wpPt_val rfl rfl ?_
        apply Exists.intro
        refine ⟨fun w' hS => ?_, ?_⟩
        focus (obtain ⟨y3, rfl⟩ := hS; simp [go_sem, ↓IntWalk.iteOmega, rk, c1] <;> first | done | exact rfl | (rw [IntWalk.i64_in _ (by omega)]; exact rfl) | trace_state)
        refine wpPt_val rfl rfl ?_
        apply Exists.intro
        refine ⟨fun w' hS => ?_, ?_⟩
        focus (obtain ⟨y3, rfl⟩ := hS; simp [go_sem, ↓IntWalk.iteOmega, rk, c1] <;> first | done | exact rfl | (rw [IntWalk.i64_in _ (by omega)]; exact rfl) | trace_state)
        refine wpPt_val rfl rfl ?_
        apply Exists.intro
        refine ⟨fun w' hS => ?_, ?_⟩
        focus (obtain ⟨y3, rfl⟩ := hS; simp [go_sem, ↓IntWalk.iteOmega, rk, c1] <;> first | done | exact rfl | (rw [IntWalk.i64_in _ (by omega)]; exact rfl) | trace_state)
        refine wpPt_one rfl rfl (fun K hK => ?_)
        go_simp
        refine (l1End_any _ _ _ l0 l10 _).mono ?_
        rintro e w' ⟨rfl, x3, rfl⟩
        refine hK _ _ (fun hkn => (by repeat (first | exact More.refl _ | (with_reducible apply more_seq) | (with_reducible apply more_draw) | apply More.plus | apply More.alloc | apply More.drew))) ?_
        clear hK K
        refine wpPt_val rfl rfl ?_
        apply Exists.intro
        refine ⟨fun w' hS => ?_, ?_⟩
        focus (obtain ⟨y3, rfl⟩ := hS; simp [go_sem, ↓IntWalk.iteOmega, rk, c1] <;> first | done | exact rfl | (rw [IntWalk.i64_in _ (by omega)]; exact rfl) | trace_state)
        refine wpPt_val rfl rfl ?_
        apply Exists.intro
        refine ⟨fun w' hS => ?_, ?_⟩
        focus (obtain ⟨y3, rfl⟩ := hS; simp [go_sem, ↓IntWalk.iteOmega, rk, c1] <;> first | done | exact rfl | (rw [IntWalk.i64_in _ (by omega)]; exact rfl) | trace_state)
        refine wpPt_one rfl rfl (fun K hK => ?_)
        go_simp
        refine hK _ _ (fun hkn => absurd hkn (by decide)) ?_
        clear hK K
        refine NoPanic.normal ?_
        go_wp2_with fail
        go_roundw
        case rel =>
          refine ⟨k + 1, by go_num, us.set j (x + 1), _, _, by omega, by rw [List.length_set]; exact hul, ?_, HSET.out, by rw [← HBU.out]; exact HF2.out, by rw [← HBU.out]; exact HFO2.out, rfl⟩
          rw [Array.size_setIfInBounds]; exact HC.out
        case measure => simp [intOf]; omega
      · have HBU := Lib.hid (show bump (two l + 1) b us c = us by unfold bump; rw [if_neg hin])
        have HF2 := Lib.hid (HF.out.bump (e := two l + 1) (b := b) (c := c))
        have HFO2 := Lib.hid (show (G.drop (k + 1)).foldl (bump (two l + 1) b) (bump (two l + 1) b us c) = U by have := HFO.out; rw [HDK.out, List.foldl_cons] at this; exact this)
        rcases (show (c - (two l + 1) - 1 < 0) ∨ (0 ≤ c - (two l + 1) - 1 ∧ (b : Int) ≤ c - (two l + 1) - 1) by omega) with hlo | ⟨hlo, hhi⟩
        all_goals
          go_wp2_with fail
          refine wp_region_pt 9 (fun w' => ∃ y, w' = plus _ y) (Plan.quiet 0 (Plan.quiet 1 (Plan.quiet 2 (Plan.quiet 3 (Plan.quiet 4 (Plan.quiet 5 (Plan.one 6 (Plan.quiet 7 (Plan.quiet 8 (Plan.one 9 Plan.done)))))))))) (by kernel_rfl) (by kernel_rfl) (⟨_, drew_is_plus _⟩) ?_
          refine wpPt_val rfl rfl ?_
          apply Exists.intro
          refine ⟨fun w' hS => ?_, ?_⟩
          focus (obtain ⟨y3, rfl⟩ := hS; simp [go_sem, ↓IntWalk.iteOmega, rk, c1] <;> first | done | exact rfl | (rw [IntWalk.i64_in _ (by omega)]; exact rfl) | trace_state)
          refine wpPt_val rfl rfl ?_
          apply Exists.intro
          refine ⟨fun w' hS => ?_, ?_⟩
          focus (obtain ⟨y3, rfl⟩ := hS; simp [go_sem, ↓IntWalk.iteOmega, rk, c1] <;> first | done | exact rfl | (rw [IntWalk.i64_in _ (by omega)]; exact rfl) | trace_state)
          refine wpPt_val rfl rfl ?_
          apply Exists.intro
          refine ⟨fun w' hS => ?_, ?_⟩
          focus (obtain ⟨y3, rfl⟩ := hS; simp [go_sem, ↓IntWalk.iteOmega, rk, c1] <;> first | done | exact rfl | (rw [IntWalk.i64_in _ (by omega)]; exact rfl) | trace_state)
          refine wpPt_val rfl rfl ?_
          apply Exists.intro
          refine ⟨fun w' hS => ?_, ?_⟩
          focus (obtain ⟨y3, rfl⟩ := hS; simp [go_sem, ↓IntWalk.iteOmega, rk, c1] <;> first | done | exact rfl | (rw [IntWalk.i64_in _ (by omega)]; exact rfl) | trace_state)
          refine wpPt_val rfl rfl ?_
          apply Exists.intro
          refine ⟨fun w' hS => ?_, ?_⟩
          focus (obtain ⟨y3, rfl⟩ := hS; simp [go_sem, ↓IntWalk.iteOmega, rk, c1] <;> first | done | exact rfl | (rw [IntWalk.i64_in _ (by omega)]; exact rfl) | trace_state)
          refine wpPt_val rfl rfl ?_
          apply Exists.intro
          refine ⟨fun w' hS => ?_, ?_⟩
          focus (obtain ⟨y3, rfl⟩ := hS; simp [go_sem, ↓IntWalk.iteOmega, rk, c1] <;> first | done | exact rfl | (rw [IntWalk.i64_in _ (by omega)]; exact rfl) | trace_state)
          refine wpPt_one rfl rfl (fun K hK => ?_)
          go_simp
          refine (l1End_any _ _ _ l0 l10 _).mono ?_
          rintro e w' ⟨rfl, x3, rfl⟩
          refine hK _ _ (fun hkn => (by repeat (first | exact More.refl _ | (with_reducible apply more_seq) | (with_reducible apply more_draw) | apply More.plus | apply More.alloc | apply More.drew))) ?_
          clear hK K
          refine wpPt_val rfl rfl ?_
          apply Exists.intro
          refine ⟨fun w' hS => ?_, ?_⟩
          focus (obtain ⟨y3, rfl⟩ := hS; simp [go_sem, ↓IntWalk.iteOmega, rk, c1] <;> first | done | exact rfl | (rw [IntWalk.i64_in _ (by omega)]; exact rfl) | trace_state)
          refine wpPt_val rfl rfl ?_
          apply Exists.intro
          refine ⟨fun w' hS => ?_, ?_⟩
          focus (obtain ⟨y3, rfl⟩ := hS; simp [go_sem, ↓IntWalk.iteOmega, rk, c1] <;> first | done | exact rfl | (rw [IntWalk.i64_in _ (by omega)]; exact rfl) | trace_state)
          refine wpPt_one rfl rfl (fun K hK => ?_)
          go_simp
          refine hK _ _ (fun hkn => absurd hkn (by decide)) ?_
          clear hK K
          refine NoPanic.normal ?_
          go_wp2_with fail
          go_roundw
          case rel =>
            exact ⟨k + 1, by go_num, us, _, _, by omega, hul, hcs, HR.out, by rw [← HBU.out]; exact HF2.out, by rw [← HBU.out]; exact HFO2.out, rfl⟩
          case measure => simp [intOf]; omega
    · obtain rfl : k = G.length := by omega
      have HUS := Lib.hid (show us = U by have := HFO.out; rw [List.drop_length] at this; exact this)
      clear hlt
      go_wp2_with fail
      obtain ⟨x9, hx9⟩ := HM.out
      subst hx9
      rw [← HUS.out]
      refine bodyPost_ret (v := .tuple #[.slice (some ⟨_, 0, none⟩) us.length us.length, .bool true]) (by simp [results, Try.results41, go_sem, hul]; first | done | rfl) rfl ⟨_, _, rfl, Wrt.plus (wrt_at (by simp) (by simp <;> omega) (by omega) HR.out (by omega)) _, (by repeat (first | exact More.refl _ | apply More.plus | apply More.alloc | apply More.drew | apply More.drewN))⟩

set_option maxRecDepth 100000 in
theorem implWordUses_no (o l m : Int) (a : Option Addr) (cap : Nat) (ps : List Pr) (base last : Int) (s : ByteArray) (w : World) (hr : RdP w a cap ps) (hs2 : s.size ≤ maxLen) (h : kvb o l m ps base last = false ∨ dfB o l m s = false) :
    Calls Try.prog 40 #[.agg #[.int .i64 o, .int .i64 l, .int .i64 m, .slice a ps.length cap, .int .i64 base, .int .i64 last], .string s] w (RetI w (fun a0 c0 => .tuple #[.slice a0 ([] : List Int).length c0, .bool false]) []) := by
  go_enter Try.func40, Try.ntmps40
  go_wp2_with fail
  refine (implGreedyCodes_no _ _ _ _ _ ps _ _ s _ (by repeat (first | exact hr | apply rd_seq | apply Rd.plus | apply Rd.alloc | apply Rd.drew | apply Rd.drewN | refine rd_patch ?_ _ _ (by intro A hA; first | (cases hA; show _ ≠ _; omega) | (have := hal A hA; omega)))) hs2 h).mono ?_
  rintro e w1 ⟨pa, pc, rfl, _, x1, rfl⟩
  go_wp2_with fail
  exact bodyPost_ret (v := .tuple #[.slice none 0 0, .bool false]) (by simp [results, Try.results40, go_sem]) rfl ⟨none, 0, rfl, .inl ⟨rfl, rfl, rfl⟩, (by repeat (first | exact More.refl _ | apply More.plus | apply More.alloc | apply More.drew | apply More.drewN))⟩

set_option maxRecDepth 100000 in
theorem specWordUses_no (o l m : Int) (a : Option Addr) (cap : Nat) (ps : List Pr) (base last : Int) (s : ByteArray) (w : World) (hr : RdP w a cap ps) (hs2 : s.size ≤ maxLen) (h : kvb o l m ps base last = false ∨ dfB o l m s = false) :
    Calls Try.prog 41 #[.agg #[.int .i64 o, .int .i64 l, .int .i64 m, .slice a ps.length cap, .int .i64 base, .int .i64 last], .string s] w (RetI w (fun a0 c0 => .tuple #[.slice a0 ([] : List Int).length c0, .bool false]) []) := by
  go_enter Try.func41, Try.ntmps41
  go_wp2_with fail
  refine (specGreedyCodes_no _ _ _ _ _ ps _ _ s _ (by repeat (first | exact hr | apply rd_seq | apply Rd.plus | apply Rd.alloc | apply Rd.drew | apply Rd.drewN | refine rd_patch ?_ _ _ (by intro A hA; first | (cases hA; show _ ≠ _; omega) | (have := hal A hA; omega)))) hs2 h).mono ?_
  rintro e w1 ⟨pa, pc, rfl, _, x1, rfl⟩
  go_wp2_with fail
  exact bodyPost_ret (v := .tuple #[.slice (some ⟨_, 0, none⟩) 0 0, .bool false]) (by simp [results, Try.results41, go_sem]) rfl ⟨_, 0, rfl, wrt_empty rfl (by first | omega | (simp <;> omega)), (by repeat (first | exact More.refl _ | apply More.plus | apply More.alloc | apply More.drew | apply More.drewN))⟩

end Go.Proofs.Ytlihhlihcjncoaa
