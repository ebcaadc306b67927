/- What can be known: impl.KnownValid and spec.KnownValid both return kvb. -/
import Derived.Test.YtbedikodiboofaaKno
import Derived.Test.YtbedikodiboofaaMem
import Derived.Deep.LoopGhost
namespace Go.Proofs.Ytbedikodiboofaa
open Go.RowKit
set_option linter.unusedVariables false
set_option linter.unusedSimpArgs false

def okP (l : Int) (i : Nat) (p : Pr) : Prop := hw l i p.p = true ∧ 0 ≤ p.b ∧ p.b < two l

/-- what can be known -/
structure KV (o l m : Int) (ps : List Pr) (base last : Int) : Prop where
  s : sv o l m = true
  len : (ps.length : Int) ≤ two m - 1 - (two l + 1)
  ok : ∀ i p, ps[i]? = some p → okP l i p
  b0 : 0 ≤ base
  b1 : base ≤ ps.length
  last : (last = -1 ∧ base = ps.length) ∨ hw l ps.length last = true

noncomputable def kvb (o l m : Int) (ps : List Pr) (base last : Int) : Bool := @decide (KV o l m ps base last) (Classical.propDecidable _)

theorem kvb_iff {o l m : Int} {ps : List Pr} {base last : Int} : kvb o l m ps base last = true ↔ KV o l m ps base last := by simp [kvb]

theorem kvb_no {o l m : Int} {ps : List Pr} {base last : Int} : kvb o l m ps base last = false ↔ ¬ KV o l m ps base last := by simp [kvb]

theorem KnownValid_set (o l m : Int) (a : Option Addr) (n cap : Nat) (ps : List Pr) (base last : Int) (w : World) (hs : sv o l m = false) :
    Calls Try.prog 62 #[.agg #[.int .i64 o, .int .i64 l, .int .i64 m, .slice a n cap, .int .i64 base, .int .i64 last]] w (Ret w (.bool false)) := by
  go_enter Try.func62, Try.ntmps62
  go_wp2
  (refine wp_region_calm (by kernel_rfl) (by kernel_rfl) ?_
   repeat (first | go_big_quiet_skip | (go_big_quiet_want; go_big_quiet_op; first | go_big_quiet_on | (apply Exists.intro; refine ⟨fun _ => ?_, ?_⟩; (focus ((first | (go_at_call 94; first | refine calm_is (by assumption) (SettingValid_any _ _ _ _) | refine calm_is_seq (by assumption) (SettingValid_any _ _ _ _))))); go_big_quiet_on)))
   refine wpQuiet_nil ?_
   intro _ hw'
   obtain ⟨xq, hw''⟩ := hw'
   subst hw'')
  go_wp2
  go_ret
  exact Ret.mk (by repeat (first | exact More.refl _ | apply More.plus | apply More.alloc | apply More.drew | apply More.drewN))

theorem KnownValid_len (o l m : Int) (a : Option Addr) (n cap : Nat) (ps : List Pr) (base last : Int) (w : World) (hs : sv o l m = true) (hl : two m - 1 - (two l + 1) < (n : Int)) :
    Calls Try.prog 62 #[.agg #[.int .i64 o, .int .i64 l, .int .i64 m, .slice a n cap, .int .i64 base, .int .i64 last]] w (Ret w (.bool false)) := by
  obtain ⟨h0, h1, h2, h3, h4⟩ := sv_iff.1 hs
  obtain ⟨t1, t2⟩ := two_lit h1 h2
  obtain ⟨t3, t4⟩ := two_bd (n := m) (by omega) (by omega)
  clear h0
  go_enter Try.func62, Try.ntmps62
  go_wp2
  (refine wp_region_calm (by kernel_rfl) (by kernel_rfl) ?_
   repeat (first | go_big_quiet_skip | (go_big_quiet_want; go_big_quiet_op; first | go_big_quiet_on | (apply Exists.intro; refine ⟨fun _ => ?_, ?_⟩; (focus ((first | (go_at_call 94; first | refine calm_is (by assumption) (SettingValid_any _ _ _ _) | refine calm_is_seq (by assumption) (SettingValid_any _ _ _ _)) | (go_at_call 95; first | refine calm_of (LastCode_yes _ _ _ hs _) | refine calm_seq (LastCode_yes _ _ _ hs _)) | (go_at_call 68; first | refine calm_of (EndCode_yes _ _ _ hs _) | refine calm_seq (EndCode_yes _ _ _ hs _))))); go_big_quiet_on)))
   refine wpQuiet_nil ?_
   intro _ hw'
   obtain ⟨xq, hw''⟩ := hw'
   subst hw'')
  go_wp2
  go_ret
  exact Ret.mk (by repeat (first | exact More.refl _ | apply More.plus | apply More.alloc | apply More.drew | apply More.drewN))

set_option maxHeartbeats 2000000 in
theorem KnownValid_loop (o l m : Int) (a : Option Addr) (cap : Nat) (ps : List Pr) (base last : Int) (w : World) (hr : RdP w a cap ps) (hs : sv o l m = true) (hl : (ps.length : Int) ≤ two m - 1 - (two l + 1)) :
    Calls Try.prog 62 #[.agg #[.int .i64 o, .int .i64 l, .int .i64 m, .slice a ps.length cap, .int .i64 base, .int .i64 last]] w (Ret w (.bool (kvb o l m ps base last))) := by
  obtain ⟨h0, h1, h2, h3, h4⟩ := sv_iff.1 hs
  obtain ⟨t1, t2⟩ := two_lit h1 h2
  obtain ⟨t3, t4⟩ := two_bd (n := m) (by omega) (by omega)
  clear h0
  obtain ⟨r1, r2, r3⟩ := hr.open
  have bl : decide (two m - 1 - (two l + 1) < (ps.length : Int)) = false := by simp; omega
  go_enter Try.func62, Try.ntmps62
  go_wp2
  (refine wp_region_calm (by kernel_rfl) (by kernel_rfl) ?_
   repeat (first | go_big_quiet_skip | (go_big_quiet_want; go_big_quiet_op; first | go_big_quiet_on | (apply Exists.intro; refine ⟨fun _ => ?_, ?_⟩; (focus ((first | (go_at_call 94; first | refine calm_is (by assumption) (SettingValid_any _ _ _ _) | refine calm_is_seq (by assumption) (SettingValid_any _ _ _ _)) | (go_at_call 95; first | refine calm_of (LastCode_yes _ _ _ hs _) | refine calm_seq (LastCode_yes _ _ _ hs _)) | (go_at_call 68; first | refine calm_of (EndCode_yes _ _ _ hs _) | refine calm_seq (EndCode_yes _ _ _ hs _))))); go_big_quiet_on)))
   refine wpQuiet_nil ?_
   intro _ hw'
   obtain ⟨xq, hw''⟩ := hw'
   subst hw'')
  go_wp2
  go_loopw [25] (fun i wr => ∃ k : Nat, k ≤ ps.length ∧ i = .int .i64 k ∧ (∀ j p, ps[j]? = some p → j < k → okP l j p) ∧ ∃ x, wr = plus ((w.alloc (.cells #[.int .i64 o, .int .i64 l, .int .i64 m, .slice a ps.length cap, .int .i64 base, .int .i64 last] 31)).alloc (.cells #[.int .i64 o, .int .i64 l, .int .i64 m] 28)) x) (fun i _ => ps.length - (intOf i).toNat)
  case atStart => exact ⟨0, Nat.zero_le _, rfl, fun j p _ h => absurd h (by omega), xq, rfl⟩
  case round =>
    obtain ⟨k, hk, rfl, hok, x, rfl⟩ := hrel
    rcases dec (k < ps.length) with ⟨hlt, blt⟩ | ⟨hlt, blt⟩
    · have hex : ∃ p, ps[k]? = some p := ⟨ps[k], List.getElem?_eq_getElem hlt⟩
      obtain ⟨p, hp⟩ := hex
      rcases r3 with rfl | ⟨b, off, rfl, hb, hc⟩
      · exact absurd hlt (by omega)
      · obtain ⟨c1, c2⟩ := hc k p hp
        have hb2 : b < w.heap.size + 1 := by omega
        have HP := Lib.hid hp
        clear hp hc
        have k2 : (k : Int) ≤ 1000000 := by omega
        have k0 : 0 ≤ (k : Int) := by omega
        cases q1 : hw l k p.p
        · have hno : kvb o l m ps base last = false := kvb_no.2 fun h => by have := (h.ok k p HP.out).1; rw [q1] at this; cases this
          go_wp2
          (refine wp_region_calm (by kernel_rfl) (by kernel_rfl) ?_
           repeat (first | go_big_quiet_skip | (go_big_quiet_want; go_big_quiet_op; first | go_big_quiet_on | (apply Exists.intro; refine ⟨fun _ => ?_, ?_⟩; (focus ((first | (go_at_call 96; first | refine calm_is (by assumption) (hasWord_yes _ _ _ _ _ hs k0 k2 _) | refine calm_is_seq (by assumption) (hasWord_yes _ _ _ _ _ hs k0 k2 _))))); go_big_quiet_on)))
           refine wpQuiet_nil ?_
           intro _ hw'
           obtain ⟨xq, hw''⟩ := hw'
           subst hw'')
          go_wp2
          go_ret
          first | exact ret_of (bool_ret hno.symm) (by repeat (first | exact More.refl _ | apply More.plus | apply More.alloc | apply More.drew | apply More.drewN)) | exact Ret.mk (by repeat (first | exact More.refl _ | apply More.plus | apply More.alloc | apply More.drew | apply More.drewN))
        · rcases dec (p.b < 0) with ⟨q2, e2⟩ | ⟨q2, e2⟩
          · have hno : kvb o l m ps base last = false := kvb_no.2 fun h => by have := (h.ok k p HP.out).2.1; omega
            go_wp2
            (refine wp_region_calm (by kernel_rfl) (by kernel_rfl) ?_
             repeat (first | go_big_quiet_skip | (go_big_quiet_want; go_big_quiet_op; first | go_big_quiet_on | (apply Exists.intro; refine ⟨fun _ => ?_, ?_⟩; (focus ((first | (go_at_call 96; first | refine calm_is (by assumption) (hasWord_yes _ _ _ _ _ hs k0 k2 _) | refine calm_is_seq (by assumption) (hasWord_yes _ _ _ _ _ hs k0 k2 _))))); go_big_quiet_on)))
             refine wpQuiet_nil ?_
             intro _ hw'
             obtain ⟨xq, hw''⟩ := hw'
             subst hw'')
            go_wp2
            go_ret
            first | exact ret_of (bool_ret hno.symm) (by repeat (first | exact More.refl _ | apply More.plus | apply More.alloc | apply More.drew | apply More.drewN)) | exact Ret.mk (by repeat (first | exact More.refl _ | apply More.plus | apply More.alloc | apply More.drew | apply More.drewN))
          · rcases dec (two l ≤ p.b) with ⟨q3, e3⟩ | ⟨q3, e3⟩
            · have hno : kvb o l m ps base last = false := kvb_no.2 fun h => by have := (h.ok k p HP.out).2.2; omega
              go_wp2
              (refine wp_region_calm (by kernel_rfl) (by kernel_rfl) ?_
               repeat (first | go_big_quiet_skip | (go_big_quiet_want; go_big_quiet_op; first | go_big_quiet_on | (apply Exists.intro; refine ⟨fun _ => ?_, ?_⟩; (focus ((first | (go_at_call 96; first | refine calm_is (by assumption) (hasWord_yes _ _ _ _ _ hs k0 k2 _) | refine calm_is_seq (by assumption) (hasWord_yes _ _ _ _ _ hs k0 k2 _)) | (go_at_call 97; first | refine calm_of (ClearCode_yes _ _ _ hs _) | refine calm_seq (ClearCode_yes _ _ _ hs _))))); go_big_quiet_on)))
               refine wpQuiet_nil ?_
               intro _ hw'
               obtain ⟨xq, hw''⟩ := hw'
               subst hw'')
              go_wp2
              go_ret
              first | exact ret_of (bool_ret hno.symm) (by repeat (first | exact More.refl _ | apply More.plus | apply More.alloc | apply More.drew | apply More.drewN)) | exact Ret.mk (by repeat (first | exact More.refl _ | apply More.plus | apply More.alloc | apply More.drew | apply More.drewN))
            · have hok' : ∀ j p, ps[j]? = some p → j < k + 1 → okP l j p := by
                intro j p' hj hlt'
                by_cases hjk : j < k
                · exact hok j p' hj hjk
                · obtain rfl : j = k := by omega
                  have hh := HP.out
                  rw [hj] at hh
                  cases hh
                  exact ⟨q1, by omega, by omega⟩
              go_wp2
              (refine wp_region_calm (by kernel_rfl) (by kernel_rfl) ?_
               repeat (first | go_big_quiet_skip | (go_big_quiet_want; go_big_quiet_op; first | go_big_quiet_on | (apply Exists.intro; refine ⟨fun _ => ?_, ?_⟩; (focus ((first | (go_at_call 96; first | refine calm_is (by assumption) (hasWord_yes _ _ _ _ _ hs k0 k2 _) | refine calm_is_seq (by assumption) (hasWord_yes _ _ _ _ _ hs k0 k2 _)) | (go_at_call 97; first | refine calm_of (ClearCode_yes _ _ _ hs _) | refine calm_seq (ClearCode_yes _ _ _ hs _))))); go_big_quiet_on)))
               refine wpQuiet_nil ?_
               intro _ hw'
               obtain ⟨xq, hw''⟩ := hw'
               subst hw'')
              go_wp2
              go_roundw
              case rel => exact ⟨k + 1, by omega, by go_num, hok', (by repeat (first | exact More.refl _ | apply More.plus | apply More.alloc | apply More.drew | apply More.drewN))⟩
              case measure => simp [intOf]; omega
    · have hall : ∀ i p, ps[i]? = some p → okP l i p := fun i p hp => hok i p hp (by have := (List.getElem?_eq_some_iff.1 hp).1; omega)
      have k2 : (ps.length : Int) ≤ 1000000 := by omega
      have k0 : 0 ≤ (ps.length : Int) := by omega
      rcases dec (base < 0) with ⟨q1, e1⟩ | ⟨q1, e1⟩
      · have hno : kvb o l m ps base last = false := kvb_no.2 fun h => by have := h.b0; omega
        go_wp2
        go_ret
        first | exact ret_of (bool_ret hno.symm) (by repeat (first | exact More.refl _ | apply More.plus | apply More.alloc | apply More.drew | apply More.drewN)) | exact Ret.mk (by repeat (first | exact More.refl _ | apply More.plus | apply More.alloc | apply More.drew | apply More.drewN))
      · rcases dec ((ps.length : Int) < base) with ⟨q2, e2⟩ | ⟨q2, e2⟩
        · have hno : kvb o l m ps base last = false := kvb_no.2 fun h => by have := h.b1; omega
          go_wp2
          go_ret
          first | exact ret_of (bool_ret hno.symm) (by repeat (first | exact More.refl _ | apply More.plus | apply More.alloc | apply More.drew | apply More.drewN)) | exact Ret.mk (by repeat (first | exact More.refl _ | apply More.plus | apply More.alloc | apply More.drew | apply More.drewN))
        · by_cases q3 : last = -1
          · subst q3
            go_wp2
            go_ret
            refine ret_of (bool_ret ?_) (by repeat (first | exact More.refl _ | apply More.plus | apply More.alloc | apply More.drew | apply More.drewN))
            by_cases q4 : base = ps.length
            · rw [kvb_iff.2 ⟨hs, hl, hall, by omega, by omega, .inl ⟨rfl, q4⟩⟩]; simp [q4]
            · rw [kvb_no.2 fun h => by
                rcases h.last with h | h
                · exact q4 h.2
                · have := hw_iff.1 h; omega]
              simp [q4]
          · have e3 : (last == -1) = false := by simp [q3]
            go_wp2_with (go_at_call 96; refine (hasWord_yes _ _ _ _ _ hs k0 k2 _).mono ?_; rintro e w' ⟨rfl, xc, rfl⟩)
            go_ret
            refine ret_of (bool_ret ?_) (by repeat (first | exact More.refl _ | apply More.plus | apply More.alloc | apply More.drew | apply More.drewN))
            cases q4 : hw l ps.length last
            · exact (kvb_no.2 fun h => by
                rcases h.last with h | h
                · exact q3 h.1
                · rw [q4] at h; cases h).symm
            · exact (kvb_iff.2 ⟨hs, hl, hall, by omega, by omega, .inr q4⟩).symm

theorem KnownValid_any (o l m : Int) (a : Option Addr) (cap : Nat) (ps : List Pr) (base last : Int) (w : World) (hr : RdP w a cap ps) :
    Calls Try.prog 62 #[.agg #[.int .i64 o, .int .i64 l, .int .i64 m, .slice a ps.length cap, .int .i64 base, .int .i64 last]] w (Ret w (.bool (kvb o l m ps base last))) := by
  cases hs : sv o l m
  · rw [kvb_no.2 fun h => by have := h.s; rw [hs] at this; cases this]
    exact KnownValid_set o l m a _ cap ps base last w hs
  · by_cases hl : (ps.length : Int) ≤ two m - 1 - (two l + 1)
    · exact KnownValid_loop o l m a cap ps base last w hr hs hl
    · rw [kvb_no.2 fun h => hl h.len]
      exact KnownValid_len o l m a _ cap ps base last w hs (by omega)

end Go.Proofs.Ytbedikodiboofaa
