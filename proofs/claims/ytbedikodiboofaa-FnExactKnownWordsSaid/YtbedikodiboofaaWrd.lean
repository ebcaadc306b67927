/- Words of pairs, as strings; the walk of impl.KnownWords. -/
import Derived.Test.YtbedikodiboofaaHst
import Derived.Test.YtbedikodiboofaaKvs
import Derived.Test.YtbedikodiboofaaNwr
import Derived.Test.YtbedikodiboofaaWid
namespace Go.Proofs.Ytbedikodiboofaa
open Go.RowKit
set_option linter.unusedVariables false
set_option linter.unusedSimpArgs false

/-- the word of a code, where ws are the words behind the end code -/
def lkw (l : Int) (ws : List ByteArray) (c : Int) : ByteArray := if two l + 1 < c then (ws[(c - (two l + 1)).toNat - 1]?).getD ⟨#[]⟩ else one c

def wstep (l : Int) (ws : List ByteArray) (p : Pr) : List ByteArray := ws ++ [lkw l ws p.p ++ one p.b]

/-- the words of the pairs -/
def wordsL (l : Int) (ps : List Pr) : List ByteArray := ps.foldl (wstep l) []

theorem wordsL_snoc (l : Int) (ps : List Pr) (p : Pr) : wordsL l (ps ++ [p]) = wstep l (wordsL l ps) p := by simp [wordsL]

theorem take_snoc_some {α : Type} {xs : List α} {k : Nat} {x : α} (h : xs[k]? = some x) : xs.take (k + 1) = xs.take k ++ [x] := by
  rw [List.take_add_one, h]; rfl

theorem wordsL_len (l : Int) (ps : List Pr) : (wordsL l ps).length = ps.length := by
  have key : ∀ (ps : List Pr) (ws : List ByteArray), (ps.foldl (wstep l) ws).length = ws.length + ps.length := by
    intro ps
    induction ps with
    | nil => intro ws; simp
    | cons p ps ih => intro ws; rw [List.foldl_cons, ih]; simp [wstep]; omega
  unfold wordsL
  simpa using key ps []

/-- a beginning of the pairs has a beginning of the words -/
theorem wordsL_pre (l : Int) (ps qs : List Pr) : ∃ ws, wordsL l (ps ++ qs) = wordsL l ps ++ ws := by
  induction qs generalizing ps with
  | nil => exact ⟨[], by simp⟩
  | cons q qs ih =>
    obtain ⟨ws, h⟩ := ih (ps ++ [q])
    rw [List.append_assoc] at h
    refine ⟨[lkw l (wordsL l ps) q.p ++ one q.b] ++ ws, ?_⟩
    rw [show ps ++ q :: qs = ps ++ ([q] ++ qs) by simp, h, wordsL_snoc]
    simp [wstep]

theorem wordsL_get {l : Int} {ps : List Pr} {k : Nat} {p : Pr} (h : ps[k]? = some p) : (wordsL l ps)[k]? = some (lkw l (wordsL l (ps.take k)) p.p ++ one p.b) := by
  obtain ⟨ws, hw⟩ := wordsL_pre l (ps.take (k + 1)) (ps.drop (k + 1))
  rw [List.take_append_drop] at hw
  rw [hw, take_snoc_some h, wordsL_snoc]
  have hl : (wordsL l (ps.take k)).length = k := by
    rw [wordsL_len]
    have := (List.getElem?_eq_some_iff.1 h).1
    simp; omega
  simp [wstep, hl]

theorem wordsL_take {l : Int} {ps : List Pr} {k i : Nat} (hi : i < k) : (wordsL l (ps.take k))[i]? = (wordsL l ps)[i]? := by
  obtain ⟨ws, hw⟩ := wordsL_pre l (ps.take k) (ps.drop k)
  rw [List.take_append_drop] at hw
  by_cases hk : k ≤ ps.length
  · rw [hw, List.getElem?_append_left (by rw [wordsL_len]; simp; omega)]
  · rw [List.take_of_length_le (by omega)]

/-- a word has at most as many bytes as it stands behind, and two -/
theorem wordsL_size (l : Int) (ps : List Pr) : ∀ i s, (wordsL l ps)[i]? = some s → 1 ≤ s.size ∧ s.size ≤ i + 2 := by
  have key : ∀ n, ∀ ps : List Pr, ps.length = n → ∀ i s, (wordsL l ps)[i]? = some s → 1 ≤ s.size ∧ s.size ≤ i + 2 := by
    intro n
    induction n with
    | zero =>
      intro ps h i s hs
      obtain rfl : ps = [] := List.eq_nil_of_length_eq_zero h
      simp [wordsL] at hs
    | succ n ih =>
      intro ps h i s hs
      have hlt : i < ps.length := by have := (List.getElem?_eq_some_iff.1 hs).1; rwa [wordsL_len] at this
      by_cases hi : i < n
      · rw [← wordsL_take hi] at hs
        exact ih (ps.take n) (by simp; omega) i s hs
      · obtain rfl : i = n := by omega
        rw [wordsL_get (List.getElem?_eq_getElem hlt)] at hs
        cases hs
        rw [ByteArray.size_append, one_size]
        unfold lkw
        split
        · cases hw : (wordsL l (ps.take i))[((ps[i]).p - (two l + 1)).toNat - 1]? with
          | none =>
            have e0 : (⟨#[]⟩ : ByteArray).size = 0 := rfl
            simp only [Option.getD_none, e0]
            omega
          | some t =>
            have hj : ((ps[i]).p - (two l + 1)).toNat - 1 < i := by
              have := (List.getElem?_eq_some_iff.1 hw).1
              rw [wordsL_len] at this
              simp at this
              omega
            have := ih (ps.take i) (by simp; omega) _ t hw
            simp
            omega
        · rw [one_size]; omega
  exact key ps.length ps rfl

theorem infoString : (Try.prog.info? 9).map (fun i => (i.zero, i.size, i.bytes)) = some (some (.string ⟨#[]⟩), 1, 16) := by kernel_rfl

/-- what a call leaves that returns strings of its own -/
def RetS (w : World) (ss : List ByteArray) (e : Ending) (w' : World) : Prop := ∃ a c, e = .returned (.slice a ss.length c) ∧ Own encS 9 w' a c ss w.heap.size ∧ ∃ x, w' = plus w x

theorem implKnownWords_no (o l m : Int) (a : Option Addr) (cap : Nat) (ps : List Pr) (base last : Int) (w : World) (hr : RdP w a cap ps) (hk : kvb o l m ps base last = false) :
    Calls Try.prog 30 #[.agg #[.int .i64 o, .int .i64 l, .int .i64 m, .slice a ps.length cap, .int .i64 base, .int .i64 last]] w (RetS w []) := by
  go_enter Try.func30, Try.ntmps30
  go_wp2_with (go_at_call 62; refine (KnownValid_any _ _ _ _ _ _ _ _ _ (by repeat (first | exact hr | apply rd_seq | apply Rd.plus | apply Rd.alloc | apply Rd.drew | apply Rd.drewN | refine rd_patch ?_ _ _ (by intro A hA; first | (cases hA; show _ ≠ _; omega) | (have := hal A hA; omega))))).mono ?_; rintro e w' ⟨rfl, xc, rfl⟩)
  go_ret
  exact ⟨none, 0, rfl, .inl ⟨rfl, rfl, rfl⟩, (by repeat (first | exact More.refl _ | apply More.plus | apply More.alloc | apply More.drew | apply More.drewN))⟩

set_option maxRecDepth 100000 in
set_option maxHeartbeats 2000000 in
theorem implKnownWords_yes (o l m : Int) (a : Option Addr) (cap : Nat) (ps : List Pr) (base last : Int) (w : World) (hr : RdP w a cap ps) (hk : kvb o l m ps base last = true) :
    Calls Try.prog 30 #[.agg #[.int .i64 o, .int .i64 l, .int .i64 m, .slice a ps.length cap, .int .i64 base, .int .i64 last]] w (RetS w (wordsL l ps)) := by
  have hkv := kvb_iff.1 hk
  have hs := hkv.s
  have hn := kv_len hk
  obtain ⟨_, l1, l2, _, _⟩ := sv_iff.1 hs
  obtain ⟨t1, t2⟩ := two_lit l1 l2
  obtain ⟨i0, hi, hz0, hz1, hz2⟩ := info_parts infoString
  obtain ⟨r1, r2, r3⟩ := hr.open
  have hmk : ∀ W : World, (Instr.makeSlice 48 (.int .i64 (ps.length : Int)) (.int .i64 (ps.length : Int))).run Try.prog W = .ok (.slice (some ⟨W.heap.size, 0, none⟩) ps.length ps.length) (W.alloc (.cells (madeCells (Value.string ⟨#[]⟩).cells ps.length) 9)) := by
    intro W
    have := run_make (P := Try.prog) (w := W) 48 9 i0 _ Try.underlying48 hi hz0 .i64 .i64 (ps.length : Int) (ps.length : Int) (by omega) (by omega) (by rw [hz2]; omega) (by omega)
    rw [hz1] at this
    simpa using this
  have HKV := Lib.hid hkv
  clear hkv
  go_enter Try.func30, Try.ntmps30
  go_wp2_with (go_at_call 62; refine (KnownValid_any _ _ _ _ _ _ _ _ _ (by repeat (first | exact hr | apply rd_seq | apply Rd.plus | apply Rd.alloc | apply Rd.drew | apply Rd.drewN | refine rd_patch ?_ _ _ (by intro A hA; first | (cases hA; show _ ≠ _; omega) | (have := hal A hA; omega))))).mono ?_; rintro e w' ⟨rfl, x0, rfl⟩)
  go_loopw [18] (fun i wr => ∃ (k : Nat) (cur : Array Value), k ≤ ps.length ∧ i = .int .i64 k ∧ cur.size = ps.length ∧ UpToS cur (wordsL l ps) k ∧
      ∃ y, wr = plus ((plus (w.alloc (.cells #[.int .i64 o, .int .i64 l, .int .i64 m, .slice a ps.length cap, .int .i64 base, .int .i64 last] 31)) x0).alloc (.cells cur 9)) y) (fun i _ => ps.length - (intOf i).toNat)
  case atStart =>
    refine ⟨0, _, Nat.zero_le _, rfl, ?_, UpToS.zero _ _, _, (plus_self _).symm⟩
    simp [size_madeCells]
  case round =>
    obtain ⟨k, cur, hk1, rfl, hcs, hup, y, rfl⟩ := hrel
    rcases dec (k < ps.length) with ⟨hlt, blt⟩ | ⟨hlt, blt⟩
    · have hex : ∃ p, ps[k]? = some p := ⟨ps[k], List.getElem?_eq_getElem hlt⟩
      obtain ⟨p, hp⟩ := hex
      rcases r3 with rfl | ⟨b, off, rfl, hb, hc⟩
      · exact absurd hlt (by omega)
      obtain ⟨c1, c2⟩ := hc k p hp
      obtain ⟨v1, hv1⟩ := get_some (cur := cur) (i := k) (by omega)
      have hok := HKV.out.ok k p hp
      obtain ⟨ok1, ok2, ok3⟩ := hok
      have hwk := wordsL_get (l := l) hp
      have hsz := wordsL_size l ps
      have okw := hw_iff.1 ok1
      have hb2 : b < w.heap.size + 1 := by omega
      have hcv : ∀ (n : Int), 0 ≤ n → n ≤ 255 → ∀ (W : World) (b : Nat), b = W.heap.size → (convert 88 9 (.slice (some ⟨b, 0, none⟩) 1 1)).run Try.prog (W.alloc (.cells #[.int .u8 n] 5)) = .ok (.string (one n)) (W.alloc (.cells #[.int .u8 n] 5)) :=
        fun n n0 n1 W b hb => run_one Try.underlying88 Try.underlying5 Try.underlying9 b _ n0 n1 hb
      have hcb := hcv p.b ok2 (by omega)
      have ob := one_size p.b
      rcases dec (two l + 1 < p.p) with ⟨g1, v2⟩ | ⟨g1, v2⟩
      · have hj : (p.p - (two l + 1)).toNat - 1 < k := by omega
        have hj2 : (p.p - (two l + 1)).toNat - 1 < ps.length := by omega
        have hexs : ∃ s, (wordsL l ps)[(p.p - (two l + 1)).toNat - 1]? = some s := ⟨_, List.getElem?_eq_getElem (by rw [wordsL_len]; exact hj2)⟩
        obtain ⟨s, hws⟩ := hexs
        have hcur := hup _ s hws hj
        have hss := (hsz _ s hws).2
        have hlk : lkw l (wordsL l (ps.take k)) p.p = s := by
          unfold lkw
          rw [if_pos g1, wordsL_take hj, hws]; rfl
        rw [hlk] at hwk
        have HU := Lib.hid (hup.step hwk (by omega))
        have HC := Lib.hid hcs
        have i1 : 0 ≤ p.p - (two l + 1) - 1 := by omega
        have i2 : p.p - (two l + 1) - 1 < (ps.length : Int) := by omega
        have z1 : s.size + (one p.b).size ≤ 9223372036854775807 := by omega
        clear hp hc hup hcs hcv hwk hsz okw ok1 hlk hws hr
        go_wp2_with (go_at_call 68; refine (EndCode_yes _ _ _ hs _).mono ?_; rintro e w' ⟨rfl, xc, rfl⟩)
        go_roundw
        case rel => exact ⟨k + 1, _, by omega, by go_num, by simp [HC.out], HU.out, (by repeat (first | exact More.refl _ | apply More.plus | apply More.alloc | apply More.drew | apply More.drewN))⟩
        case measure => simp [intOf]; omega
      · have hlk : lkw l (wordsL l (ps.take k)) p.p = one p.p := by
          unfold lkw
          rw [if_neg g1]
        rw [hlk] at hwk
        have p0 : 0 ≤ p.p := by omega
        have p1 : p.p ≤ 255 := by omega
        have hcp := hcv p.p p0 p1
        have op := one_size p.p
        have HU := Lib.hid (hup.step hwk (by omega))
        have HC := Lib.hid hcs
        have z1 : (one p.p).size + (one p.b).size ≤ 9223372036854775807 := by omega
        clear hp hc hup hcs hcv hwk hsz okw ok1 hlk hr
        go_wp2_with (go_at_call 68; refine (EndCode_yes _ _ _ hs _).mono ?_; rintro e w' ⟨rfl, xc, rfl⟩)
        go_roundw
        case rel => exact ⟨k + 1, _, by omega, by go_num, by simp [HC.out], HU.out, (by repeat (first | exact More.refl _ | apply More.plus | apply More.alloc | apply More.drew | apply More.drewN))⟩
        case measure => simp [intOf]; omega
    · have : k = ps.length := by omega
      subst this
      have HU := Lib.hid (show UpToS cur (wordsL l ps) (wordsL l ps).length by rw [wordsL_len]; exact hup)
      have HL := Lib.hid (wordsL_len l ps)
      have HC := Lib.hid hcs
      clear hup hcs
      go_wp2
      go_ret
      refine ⟨some ⟨w.heap.size + 1 + x0.n, 0, none⟩, ps.length, congrArg (fun n => Ending.returned (Value.slice (some ⟨w.heap.size + 1 + x0.n, 0, none⟩) n ps.length)) HL.out.symm, Own.plus (Own.newAt (cap := ps.length) (by simp) (by omega) (by rw [HC.out]; exact (Nat.mul_one _).symm) HU.out.row (by rw [HL.out]; exact Nat.le_refl _) (by omega)) _, (by repeat (first | exact More.refl _ | apply More.plus | apply More.alloc | apply More.drew | apply More.drewN))⟩

end Go.Proofs.Ytbedikodiboofaa
