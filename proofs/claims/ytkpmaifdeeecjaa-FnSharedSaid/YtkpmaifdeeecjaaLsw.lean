/- The law Shared: texts compared and looked for; shared words in plain Lean; the walk. -/
import Derived.Test.YtkpmaifdeeecjaaShx
namespace Go.Proofs.Ytkpmaifdeeecjaa
open Go.RowKit
set_option linter.unusedVariables false
set_option linter.unusedSimpArgs false
open Classical

set_option maxRecDepth 100000 in
set_option maxHeartbeats 800000 in
theorem soTexts_yes (a a' : Option Addr) (cap cap' : Nat) (ss : List ByteArray) (w : World) (hr : RdS w a cap ss) (hr' : RdS w a' cap' ss) (hn2 : ss.length ≤ 2000000) :
    Calls Try.prog 6 #[.slice a ss.length cap, .slice a' ss.length cap'] w (Ret w (.bool true)) := by
  obtain ⟨r1, r2, r3⟩ := hr.open
  obtain ⟨s1, s2, s3⟩ := hr'.open
  go_enter Try.func6, Try.ntmps6
  go_wp2
  go_loopw [5] (fun i wr => ∃ (k : Nat) (x : Ext), k ≤ ss.length ∧ i = .int .i64 k ∧ wr = plus w x) (fun i _ => ss.length - (intOf i).toNat)
  case atStart => exact ⟨0, _, Nat.zero_le _, rfl, (plus_self _).symm⟩
  case round =>
    obtain ⟨k, x, hk, rfl, rfl⟩ := hrel
    rcases dec (k < ss.length) with ⟨hlt, blt⟩ | ⟨hlt, blt⟩
    · have hex : ∃ s, ss[k]? = some s := ⟨ss[k], List.getElem?_eq_getElem hlt⟩
      obtain ⟨s, hs⟩ := hex
      rcases r3 with rfl | ⟨b, off, rfl, hb, hc⟩
      · exact absurd hlt (by omega)
      rcases s3 with rfl | ⟨b', off', rfl, hb', hc'⟩
      · exact absurd hlt (by omega)
      have c1 := hc k s hs
      have d1 := hc' k s hs
      have k1 : (k : Int) < (ss.length : Int) := by omega
      have k3 : 0 ≤ (k : Int) := by omega
      clear hc hc' hs hr hr'
      go_wp2
      (refine wp_region_calm (by kernel_rfl) (by kernel_rfl) ?_
       repeat (first | go_big_quiet_skip | (go_big_quiet_want; go_big_quiet_op; first | go_big_quiet_on | (apply Exists.intro; refine ⟨fun _ => ?_, ?_⟩; (focus (fail)); go_big_quiet_on)))
       refine wpQuiet_nil ?_
       intro _ hw'
       obtain ⟨xq, hw''⟩ := hw'
       subst hw'')
      go_wp2
      go_roundw
      case rel => exact ⟨k + 1, _, by omega, by go_num, rfl⟩
      case measure => simp [intOf]; omega
    · go_wp2
      go_ret
      exact Ret.mk (by repeat (first | exact More.refl _ | apply More.plus | apply More.alloc | apply More.drew | apply More.drewN))

set_option maxRecDepth 100000 in
set_option maxHeartbeats 1000000 in
theorem soHas_any (a : Option Addr) (cap : Nat) (ys : List ByteArray) (x : ByteArray) (w : World) (hr : Rd encS w a cap ys) :
    Calls Try.prog 10 #[.slice a ys.length cap, .string x] w (Ret w (.bool (hasB ys x))) := by
  have HA := Lib.hid (RdS.open hr).2.2
  have z1 := hr.1
  have z2 := hr.2.1
  clear hr
  go_enter Try.func10, Try.ntmps10
  go_wp2_with fail
  go_loopw [5] (fun i wr => ∃ (k : Nat) (z : Ext), k ≤ ys.length ∧ i = .int .i64 k ∧ hasB (ys.take k) x = false ∧ wr = plus w z) (fun i _ => ys.length - (intOf i).toNat)
  case atStart => exact ⟨0, _, Nat.zero_le _, rfl, by simp [hasB], (plus_self _).symm⟩
  case round =>
    obtain ⟨k, z, hk, rfl, hno, rfl⟩ := hrel
    rcases dec (k < ys.length) with ⟨hlt, blt⟩ | ⟨hlt, blt⟩
    · obtain ⟨y, hy⟩ : ∃ y, ys[k]? = some y := ⟨_, List.getElem?_eq_getElem hlt⟩
      rcases HA.out with h9 | ⟨b, off, rfl, hb, hc⟩
      · exact absurd hlt (by omega)
      have c1 := hc k y hy
      have ht := has_take hy x
      rw [hno, Bool.false_or] at ht
      by_cases hyx : y = x
      · have v6 : (y.toList == x.toList) = true := by rw [hyx]; simp
        have HH := Lib.hid (show hasB ys x = true by unfold hasB; rw [decide_eq_true_eq, ← hyx]; exact List.mem_of_getElem? hy)
        clear hc hy ht hyx hno
        go_wp2_with fail
        go_ret
        exact ret_of (bool_ret HH.out.symm) (by repeat (first | exact More.refl _ | apply More.plus | apply More.alloc | apply More.drew | apply More.drewN))
      · have v6 : (y.toList == x.toList) = false := by
          rw [ByteArray.toList_eq, ByteArray.toList_eq, beq_eq_false_iff_ne]
          exact fun e => hyx (bytes_inj e)
        rw [decide_eq_false hyx] at ht
        have HT := Lib.hid ht
        clear hc hy ht hyx hno
        go_wp2_with fail
        go_roundw
        case rel => exact ⟨k + 1, _, by omega, by go_num, HT.out, rfl⟩
        case measure => simp [intOf]; omega
    · obtain rfl : k = ys.length := by omega
      rw [List.take_length] at hno
      have HH := Lib.hid hno
      clear hno
      go_wp2_with fail
      go_ret
      exact ret_of (bool_ret HH.out.symm) (by repeat (first | exact More.refl _ | apply More.plus | apply More.alloc | apply More.drew | apply More.drewN))

theorem txt_cell {w : World} {b off cap : Nat} {us : List ByteArray} (h : Rd encS w (some ⟨b, off, none⟩) cap us) {k : Nat} {u : ByteArray} (hu : us[k]? = some u) : w.cell? ⟨b, off + k, none⟩ = some (.string u) := by
  have hk := (List.getElem?_eq_some_iff.1 hu).1
  obtain ⟨h1, h2, h3⟩ := RdS.open h
  rcases h3 with h3 | ⟨b', off', h3, hb, hc⟩
  · omega
  · cases h3
    exact hc k u hu

theorem txt_some {w : World} {sa : Option Addr} {cap : Nat} {us : List ByteArray} (h : Rd encS w sa cap us) (h0 : 0 < us.length) : ∃ b off, sa = some ⟨b, off, none⟩ := by
  obtain ⟨h1, h2, h3⟩ := RdS.open h
  rcases h3 with h3 | ⟨b', off', h3, hb, hc⟩
  · omega
  · exact ⟨b', off', h3⟩

theorem shr_mem (ys : List ByteArray) : ∀ (xs out : List ByteArray) (x : ByteArray), x ∈ shrL ys xs out ↔ x ∈ out ∨ (x ∈ xs ∧ x ∈ ys)
  | [], out, x => by simp [shrL]
  | z :: xs, out, x => by
    rw [shrL, shr_mem ys xs]
    by_cases h : z ∈ ys ∧ z ∉ out
    · rw [if_pos h, List.mem_append, List.mem_singleton, List.mem_cons]
      constructor
      · rintro ((h1 | rfl) | ⟨h1, h2⟩)
        · exact .inl h1
        · exact .inr ⟨.inl rfl, h.1⟩
        · exact .inr ⟨.inr h1, h2⟩
      · rintro (h1 | ⟨rfl | h1, h2⟩)
        · exact .inl (.inl h1)
        · exact .inl (.inr rfl)
        · exact .inr ⟨h1, h2⟩
    · rw [if_neg h, List.mem_cons]
      constructor
      · rintro (h1 | ⟨h1, h2⟩)
        · exact .inl h1
        · exact .inr ⟨.inr h1, h2⟩
      · rintro (h1 | ⟨rfl | h1, h2⟩)
        · exact .inl h1
        · by_cases h3 : x ∈ out
          · exact .inl h3
          · exact absurd ⟨h2, h3⟩ h
        · exact .inr ⟨h1, h2⟩

theorem shr_nodup (ys : List ByteArray) : ∀ (xs out : List ByteArray), out.Nodup → (shrL ys xs out).Nodup
  | [], out, h => h
  | z :: xs, out, h => by
    rw [shrL]
    apply shr_nodup ys xs
    by_cases h2 : z ∈ ys ∧ z ∉ out
    · rw [if_pos h2]
      exact List.nodup_append.2 ⟨h, by simp, fun a ha b hb e => by simp at hb; subst hb; subst e; exact h2.2 ha⟩
    · rw [if_neg h2]
      exact h

theorem nodup_len : ∀ (xs ys : List ByteArray), xs.Nodup → (∀ x ∈ xs, x ∈ ys) → xs.length ≤ ys.length
  | [], ys, _, _ => Nat.zero_le _
  | x :: xs, ys, hn, hs => by
    have hx := hs x (by simp)
    obtain ⟨h1, h2⟩ := List.nodup_cons.1 hn
    have h3 := nodup_len xs (ys.filter fun y => decide (y ≠ x)) h2 fun y hy => List.mem_filter.2 ⟨hs y (by simp [hy]), by
      have hne : y ≠ x := fun e => by
        subst e
        exact h1 hy
      exact decide_eq_true hne⟩
    have h4 : (ys.filter fun y => decide (y ≠ x)).length < ys.length := List.length_filter_lt_length_iff_exists.2 ⟨x, hx, by simp⟩
    simp only [List.length_cons]
    omega

/-- shared words, in either order -/
theorem shr_sym (xs ys : List ByteArray) : (shrL xs ys []).length = (shrL ys xs []).length := by
  refine Nat.le_antisymm (nodup_len _ _ (shr_nodup _ _ _ (by simp)) fun x hx => ?_) (nodup_len _ _ (shr_nodup _ _ _ (by simp)) fun x hx => ?_)
  · rw [shr_mem] at hx ⊢
    rcases hx with hx | ⟨h1, h2⟩
    · simp at hx
    · exact .inr ⟨h2, h1⟩
  · rw [shr_mem] at hx ⊢
    rcases hx with hx | ⟨h1, h2⟩
    · simp at hx
    · exact .inr ⟨h2, h1⟩

theorem shr_has1 {xs ys : List ByteArray} {x : ByteArray} (hx : x ∈ xs) : hasB (shrL ys xs []) x = hasB ys x := by
  unfold hasB
  exact decide_eq_decide.2 (by rw [shr_mem]; simp [hx])

theorem shr_has2 {xs ys : List ByteArray} {x : ByteArray} (hx : x ∈ shrL ys xs []) : hasB xs x = true ∧ hasB (shrL xs ys []) x = true := by
  rw [shr_mem] at hx
  unfold hasB
  rcases hx with hx | ⟨h1, h2⟩
  · simp at hx
  · exact ⟨decide_eq_true h1, decide_eq_true (by rw [shr_mem]; exact .inr ⟨h2, h1⟩)⟩

/-- a drawn pair of what may be known -/
def RetKK (w : World) (e : Ending) (w' : World) : Prop := ∃ (o l m : Int) (pa : Option Addr) (pc : Nat) (ps : List Pr) (base last : Int) (o2 l2 m2 : Int) (pa2 : Option Addr) (pc2 : Nat) (qs : List Pr) (base2 last2 : Int),
  e = .returned (.tuple #[.agg #[.int .i64 o, .int .i64 l, .int .i64 m, .slice pa ps.length pc, .int .i64 base, .int .i64 last], .agg #[.int .i64 o2, .int .i64 l2, .int .i64 m2, .slice pa2 qs.length pc2, .int .i64 base2, .int .i64 last2]]) ∧ ps.length ≤ 3000 ∧ qs.length ≤ 3000 ∧ Rd encP w' pa pc ps ∧ Rd encP w' pa2 pc2 qs ∧ ∃ x, w' = plus w x

end Go.Proofs.Ytkpmaifdeeecjaa
