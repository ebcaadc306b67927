/- Walks: the laws' comparisons, marks and looks at marks, of pairs and of what is known. -/
import Derived.Test.YtbedikodiboofaaCpy2
namespace Go.Proofs.Ytbedikodiboofaa
open Go.RowKit
set_option linter.unusedVariables false
set_option linter.unusedSimpArgs false

theorem take_succ_eq {α : Type} {xs ys : List α} {k : Nat} {x y : α} (hx : xs[k]? = some x) (hy : ys[k]? = some y) (h : xs.take k = ys.take k) : xs.take (k + 1) = ys.take (k + 1) ↔ x = y := by
  rw [List.take_add_one, List.take_add_one, h, hx, hy]
  simp

set_option maxHeartbeats 800000 in
theorem eqPairS_any (a a' : Option Addr) (cap cap' : Nat) (ps qs : List Pr) (w : World) (hr : RdP w a cap ps) (hr' : RdP w a' cap' qs) :
    Calls Try.prog 65 #[.slice a ps.length cap, .slice a' qs.length cap'] w (Ret w (.bool (decide (ps = qs)))) := by
  obtain ⟨r1, r2, r3⟩ := hr.open
  obtain ⟨s1, s2, s3⟩ := hr'.open
  by_cases hl : ps.length = qs.length
  · have bl : ((ps.length : Int) != (qs.length : Int)) = false := by simp [hl]
    have HL := Lib.hid hl
    have hl1 : ps.length ≤ qs.length := by omega
    have hl2 : qs.length ≤ ps.length := by omega
    clear hl
    go_enter Try.func65, Try.ntmps65
    go_wp2
    go_loopw [5] (fun i wr => ∃ (k : Nat) (x : Ext), k ≤ ps.length ∧ i = .int .i64 k ∧ ps.take k = qs.take k ∧ wr = plus w x) (fun i _ => ps.length - (intOf i).toNat)
    case atStart => exact ⟨0, _, Nat.zero_le _, rfl, rfl, (plus_self _).symm⟩
    case round =>
      obtain ⟨k, x, hk, rfl, htk, rfl⟩ := hrel
      rcases dec (k < ps.length) with ⟨hlt, blt⟩ | ⟨hlt, blt⟩
      · have hex : ∃ p, ps[k]? = some p := ⟨ps[k], List.getElem?_eq_getElem hlt⟩
        obtain ⟨p, hp⟩ := hex
        have hex : ∃ q, qs[k]? = some q := ⟨qs[k]'(by omega), List.getElem?_eq_getElem (by omega)⟩
        obtain ⟨q, hq⟩ := hex
        rcases r3 with rfl | ⟨b, off, rfl, hb, hc⟩
        · exact absurd hlt (by omega)
        rcases s3 with rfl | ⟨b', off', rfl, hb', hc'⟩
        · exact absurd hlt (by omega)
        obtain ⟨c1, c2⟩ := hc k p hp
        obtain ⟨d1, d2⟩ := hc' k q hq
        have ht := take_succ_eq hp hq htk
        have k1 : (k : Int) < (ps.length : Int) := by omega
        have k2 : (k : Int) < (qs.length : Int) := by omega
        have k3 : 0 ≤ (k : Int) := by omega
        clear hc hc'
        cases hpq : decide (p.p = q.p ∧ p.b = q.b)
        · have hno : decide (ps = qs) = false := by
            have : p ≠ q := fun e => by subst e; simp at hpq
            rw [decide_eq_false_iff_not]
            exact fun e => this (by subst e; rw [hp] at hq; exact Option.some.inj hq)
          have HN := Lib.hid hno
          clear hno hp hq ht htk
          go_wp2
          (refine wp_region_calm (by kernel_rfl) (by kernel_rfl) ?_
           repeat (first | go_big_quiet_skip | (go_big_quiet_want; go_big_quiet_op; first | go_big_quiet_on | (apply Exists.intro; refine ⟨fun _ => ?_, ?_⟩; (focus ((first | (go_at_call 98; first | refine calm_is (by assumption) (eqPair_any _ _ _ _ _) | refine calm_is_seq (by assumption) (eqPair_any _ _ _ _ _))))); go_big_quiet_on)))
           refine wpQuiet_nil ?_
           intro _ hw'
           obtain ⟨xq, hw''⟩ := hw'
           subst hw'')
          go_wp2
          go_ret
          exact ret_of (bool_ret HN.out.symm) (by repeat (first | exact More.refl _ | apply More.plus | apply More.alloc | apply More.drew | apply More.drewN))
        · have hyes : ps.take (k + 1) = qs.take (k + 1) := by
            apply ht.2
            have := of_decide_eq_true hpq
            cases p; cases q; simp_all
          have HY := Lib.hid hyes
          clear hyes hp hq ht htk
          go_wp2
          (refine wp_region_calm (by kernel_rfl) (by kernel_rfl) ?_
           repeat (first | go_big_quiet_skip | (go_big_quiet_want; go_big_quiet_op; first | go_big_quiet_on | (apply Exists.intro; refine ⟨fun _ => ?_, ?_⟩; (focus ((first | (go_at_call 98; first | refine calm_is (by assumption) (eqPair_any _ _ _ _ _) | refine calm_is_seq (by assumption) (eqPair_any _ _ _ _ _))))); go_big_quiet_on)))
           refine wpQuiet_nil ?_
           intro _ hw'
           obtain ⟨xq, hw''⟩ := hw'
           subst hw'')
          go_wp2
          go_roundw
          case rel => exact ⟨k + 1, _, by omega, by go_num, HY.out, rfl⟩
          case measure => simp [intOf]; omega
      · have hyes : ps = qs := by
          rw [List.take_of_length_le (by omega), List.take_of_length_le (by omega)] at htk
          exact htk
        have HY := Lib.hid hyes
        clear hyes htk
        go_wp2
        go_ret
        exact ret_of (bool_ret (by rw [HY.out]; simp)) (by repeat (first | exact More.refl _ | apply More.plus | apply More.alloc | apply More.drew | apply More.drewN))
  · have hno : decide (ps = qs) = false := by
      rw [decide_eq_false_iff_not]
      exact fun e => hl (by rw [e])
    rw [hno]
    have bl : ((ps.length : Int) != (qs.length : Int)) = true := by simp; omega
    clear hno
    go_enter Try.func65, Try.ntmps65
    go_wp2
    go_ret
    exact Ret.mk (by repeat (first | exact More.refl _ | apply More.plus | apply More.alloc | apply More.drew | apply More.drewN))

/-- the marks from k on -/
def marks (k : Int) : Nat → List Pr
  | 0 => []
  | n + 1 => marks k n ++ [⟨k + 2 * n, k + 2 * n + 1⟩]

theorem marks_len (k : Int) (n : Nat) : (marks k n).length = n := by
  induction n with
  | zero => rfl
  | succ n ih => simp [marks, ih]

theorem marks_get (k : Int) (n i : Nat) (h : i < n) : (marks k n)[i]? = some ⟨k + 2 * i, k + 2 * i + 1⟩ := by
  induction n with
  | zero => omega
  | succ n ih =>
    by_cases hi : i < n
    · rw [marks, List.getElem?_append_left (by rw [marks_len]; exact hi)]; exact ih hi
    · obtain rfl : i = n := by omega
      rw [marks, List.getElem?_append_right (by rw [marks_len]; omega), marks_len]
      simp

theorem markPairS_nil (a : Option Addr) (cap : Nat) (k : Int) (w : World) :
    Calls Try.prog 66 #[.slice a 0 cap, .int .i64 k] w (Ret w (.int .i64 k)) := by
  go_enter Try.func66, Try.ntmps66
  go_wp2
  go_loopw [1, 5] (fun q i wr => i = .int .i64 0 ∧ q = .int .i64 k ∧ wr = w) (fun _ i _ => 0)
  case atStart => exact ⟨rfl, rfl, rfl⟩
  case round =>
    obtain ⟨rfl, rfl, rfl⟩ := hrel
    go_wp2
    go_ret
    exact Ret.mk (by repeat (first | exact More.refl _ | apply More.plus | apply More.alloc | apply More.drew | apply More.drewN))

set_option maxHeartbeats 800000 in
theorem markPairS_some (b cap n : Nat) (cur : Array Value) (k : Int) (w : World) (hb : w.heap[b]? = some (.cells cur 86 (0, 0))) (hcur : cur.size = cap * 2) (hn : n ≤ cap) (hn2 : n ≤ 2000000) (hk0 : 0 ≤ k) (hk1 : k ≤ 4000000000) :
    Calls Try.prog 66 #[.slice (some ⟨b, 0, none⟩) n cap, .int .i64 k] w fun e w' => e = .returned (.int .i64 (k + 2 * n)) ∧
      ∃ cur', w' = patch w b (.cells cur' 86) ∧ cur'.size = cap * 2 ∧ Row encP cur' (marks k n) := by
  have hbs : b < w.heap.size := (Array.getElem?_eq_some_iff.1 hb).1
  go_enter Try.func66, Try.ntmps66
  go_wp2
  go_loopw [1, 5] (fun q i wr => ∃ (j : Nat) (c : Array Value), j ≤ n ∧ i = .int .i64 j ∧ q = .int .i64 (k + 2 * j) ∧ c.size = cap * 2 ∧ UpTo c (marks k n) j ∧ wr = patch w b (.cells c 86)) (fun _ i _ => n - (intOf i).toNat)
  case atStart => exact ⟨0, cur, Nat.zero_le _, rfl, by simp, hcur, UpTo.zero _ _, (patch_self w b _ hb).symm⟩
  case round =>
    obtain ⟨j, c, hj, rfl, rfl, hcs, hup, rfl⟩ := hrel
    rcases dec (j < n) with ⟨hlt, blt⟩ | ⟨hlt, blt⟩
    · have hm := marks_get k n j hlt
      obtain ⟨v1, hv1⟩ := get_some (cur := c) (i := j * 2) (by omega)
      obtain ⟨v2, hv2⟩ := get_some (cur := c) (i := j * 2 + 1) (by omega)
      have HU := Lib.hid (hup.step hm (by omega))
      have HC := Lib.hid hcs
      have hne : ¬ j * 2 = j * 2 + 1 := by omega
      clear hm hup hcs hb
      go_wp2
      go_roundw
      case rel => exact ⟨j + 1, _, by omega, by go_num, int_val (by omega), by simp [HC.out], HU.out, rfl⟩
      case measure => simp [intOf]; omega
    · have : j = n := by omega
      subst this
      have HU := Lib.hid hup
      have HC := Lib.hid hcs
      clear hup hcs hb
      go_wp2
      go_ret
      exact ⟨rfl, c, rfl, HC.out, UpTo.row (by rw [marks_len]; exact HU.out)⟩

end Go.Proofs.Ytbedikodiboofaa
