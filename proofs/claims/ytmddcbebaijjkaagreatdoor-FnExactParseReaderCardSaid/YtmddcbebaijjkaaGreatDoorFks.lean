/- The reference's text of what is known. -/
import Derived.Test.YtmddcbebaijjkaaGreatDoorFst
import Derived.Test.YtmddcbebaijjkaaGreatDoorGc
namespace Go.Proofs.YtmddcbebaijjkaaGreatDoor
open Go.RowKit
set_option linter.unusedVariables false
set_option linter.unusedSimpArgs false

theorem KV.nums {o l m : Int} {ps : List Pr} {base last : Int} (h : KV o l m ps base last) : ps.length ≤ 1024 ∧ Sml base ∧ Sml last ∧ ∀ (i : Nat) (p : Pr), ps[i]? = some p → Sml p.p ∧ Sml p.b := by
  obtain ⟨_, l1, l2, l3, l4⟩ := sv_iff.1 h.s
  obtain ⟨t1, t2⟩ := two_lit l1 l2
  obtain ⟨t3, t4⟩ := two_bd (n := m) (by omega) (by omega)
  have hlen := h.len
  have hb0 := h.b0
  have hb1 := h.b1
  refine ⟨by omega, ⟨by omega, by omega⟩, ?_, fun i p hp => ?_⟩
  · rcases h.last with h1 | h1
    · exact ⟨by omega, by omega⟩
    · have := hw_iff.1 h1
      exact ⟨by omega, by omega⟩
  · obtain ⟨h1, h2, h3⟩ := h.ok i p hp
    have h4 := hw_iff.1 h1
    have h5 := (List.getElem?_eq_some_iff.1 hp).1
    exact ⟨⟨by omega, by omega⟩, ⟨by omega, by omega⟩⟩

/-- the text of the first k pairs -/
def prsT (ps : List Pr) (k : Nat) : ByteArray := joinB ⟨#[44]⟩ ((ps.take k).map prT)

theorem prsT_zero (ps : List Pr) : prsT ps 0 = ⟨#[]⟩ := by simp [prsT, joinB]

theorem prsT_all (ps : List Pr) {k : Nat} (h : ps.length ≤ k) : prsT ps k = joinB ⟨#[44]⟩ (ps.map prT) := by
  unfold prsT
  rw [List.take_of_length_le h]

theorem take_snoc {α : Type} {xs : List α} {k : Nat} {x : α} (h : xs[k]? = some x) : xs.take (k + 1) = xs.take k ++ [x] := by
  rw [List.take_add_one, h]; rfl

theorem prsT_one {ps : List Pr} {p : Pr} (h : ps[0]? = some p) : prsT ps 1 = (⟨#[]⟩ : ByteArray) ++ decB p.p ++ (⟨#[46]⟩ : ByteArray) ++ decB p.b := by
  unfold prsT
  rw [take_snoc h]
  have e : (⟨#[]⟩ : ByteArray) ++ decB p.p = decB p.p := by
    apply ByteArray.ext; simp
  rw [e]
  rfl

theorem prsT_succ {ps : List Pr} {p : Pr} {k : Nat} (h : ps[k]? = some p) (hk : 0 < k) : prsT ps (k + 1) = prsT ps k ++ (⟨#[44]⟩ : ByteArray) ++ decB p.p ++ (⟨#[46]⟩ : ByteArray) ++ decB p.b := by
  have hl := (List.getElem?_eq_some_iff.1 h).1
  unfold prsT
  rw [take_snoc h, List.map_append, List.map_cons, List.map_nil, joinB_snoc _ _ _ (by
    have h2 : ((ps.take k).map prT).length = k := by rw [List.length_map, List.length_take, Nat.min_eq_left (by omega)]
    intro e
    rw [e] at h2
    exact absurd h2.symm (by show k ≠ 0; omega))]
  unfold prT
  simp only [ByteArray.append_assoc]

theorem prsT_size {ps : List Pr} (hp : ∀ (i : Nat) (p : Pr), ps[i]? = some p → Sml p.p ∧ Sml p.b) (k : Nat) (hk : k ≤ ps.length) : (prsT ps k).size ≤ k * 12 := by
  have h := joinB_size ⟨#[44]⟩ 11 ((ps.take k).map prT) (fun x hx => by
    obtain ⟨p, hpm, rfl⟩ := List.mem_map.1 hx
    obtain ⟨i, hi⟩ := List.getElem?_of_mem (List.mem_of_mem_take hpm)
    obtain ⟨h1, h2⟩ := hp i p hi
    have := h1.size
    have := h2.size
    unfold prT
    rw [ByteArray.size_append, ByteArray.size_append]
    show _ + 1 + _ ≤ _
    omega)
  rw [List.length_map, List.length_take, Nat.min_eq_left hk] at h
  exact h

theorem setT_size {o l m : Int} (h : sv o l m = true) : (setT o l m).size ≤ 20 := by
  obtain ⟨_, l1, l2, l3, l4⟩ := sv_iff.1 h
  have h1 := decB_size (n := l) (by omega) (by omega)
  have h2 := decB_size (n := m) (by omega) (by omega)
  unfold setT
  rw [ByteArray.size_append, ByteArray.size_append, ByteArray.size_append, ByteArray.size_append]
  have h3 : (if o = 1 then (⟨#[104, 105, 103, 104]⟩ : ByteArray) else ⟨#[108, 111, 119]⟩).size ≤ 4 := by
    split <;> decide
  show _ + 1 + _ + 1 + _ ≤ _
  omega

theorem orD_size {t : ByteArray} {n : Nat} (h : t.size ≤ n) (h1 : 1 ≤ n) : (orD t).size ≤ n := by
  unfold orD
  split
  · exact h1
  · exact h

theorem joinB_four (s a b c d : ByteArray) : joinB s [a, b, c, d] = a ++ s ++ b ++ s ++ c ++ s ++ d := by
  show a ++ s ++ (b ++ s ++ (c ++ s ++ d)) = _
  simp only [ByteArray.append_assoc]

theorem joinB_five (s a b c d e : ByteArray) : joinB s [a, b, c, d, e] = a ++ s ++ b ++ s ++ c ++ s ++ d ++ s ++ e := by
  show a ++ s ++ (b ++ s ++ (c ++ s ++ (d ++ s ++ e))) = _
  simp only [ByteArray.append_assoc]

theorem specFormatKnown_no (o l m : Int) (a : Option Addr) (cap : Nat) (ps : List Pr) (base last : Int) (w : World) (hr : RdP w a cap ps) (hk : kvb o l m ps base last = false) :
    Calls Tryz.prog 23 #[.agg #[.int .i64 o, .int .i64 l, .int .i64 m, .slice a ps.length cap, .int .i64 base, .int .i64 last]] w (Ret w (.string ⟨#[]⟩)) := by
  have HR := Lib.hid (show Rd encP w a cap ps from hr)
  clear hr
  go_enter Tryz.func23, Tryz.ntmps23
  go_wp2_with fail
  refine (specKnownValid_any o l m a cap ps base last _ (by (try unfold RdP); repeat (first | (with_reducible exact HR.out) | (with_reducible apply rd_seq) | (with_reducible apply Rd.plus) | (with_reducible apply Rd.alloc) | (with_reducible apply Rd.drew) | (with_reducible apply Rd.drewN)))).mono ?_
  rintro e w' ⟨rfl, x1, rfl⟩
  rw [hk]
  go_wp2
  go_ret
  exact ret_of rfl (by repeat (first | exact More.refl _ | apply More.plus | apply More.alloc | apply More.drew | apply More.drewN))

set_option maxRecDepth 100000 in
set_option maxHeartbeats 4000000 in
theorem specFormatKnown_yes (o l m : Int) (a : Option Addr) (cap : Nat) (ps : List Pr) (base last : Int) (w : World) (hr : RdP w a cap ps) (hk : kvb o l m ps base last = true) :
    Calls Tryz.prog 23 #[.agg #[.int .i64 o, .int .i64 l, .int .i64 m, .slice a ps.length cap, .int .i64 base, .int .i64 last]] w (Ret w (.string (knT o l m ps base last))) := by
  have hkv := kvb_iff.1 hk
  obtain ⟨n1, hb, hla, hps⟩ := hkv.nums
  have hs := hkv.s
  have HR := Lib.hid (show Rd encP w a cap ps from hr)
  obtain ⟨r1, r2, r3⟩ := hr.open
  have hal := rd_lt hr
  clear hr
  go_enter Tryz.func23, Tryz.ntmps23
  go_wp2_with fail
  refine (specKnownValid_any o l m a cap ps base last _ (by (try unfold RdP); repeat (first | (with_reducible exact HR.out) | (with_reducible apply rd_seq) | (with_reducible apply Rd.plus) | (with_reducible apply Rd.alloc) | (with_reducible apply Rd.drew) | (with_reducible apply Rd.drewN)))).mono ?_
  rintro e w' ⟨rfl, x1, rfl⟩
  rw [hk]
  clear hk
  go_wp2
  go_loopw [3, 4] (fun t i wr => ∃ k : Nat, k ≤ ps.length ∧ i = .int .i64 k ∧ t = .string (prsT ps k) ∧ ∃ x, wr = plus (w.alloc (.cells #[.int .i64 o, .int .i64 l, .int .i64 m, .slice a ps.length cap, .int .i64 base, .int .i64 last] 26)) x) (fun _ i _ => ps.length - (intOf i).toNat)
  case atStart => exact ⟨0, Nat.zero_le _, rfl, by rw [prsT_zero], x1, rfl⟩
  case round =>
    obtain ⟨k, hk, rfl, rfl, x, rfl⟩ := hrel
    have zT := prsT_size hps k hk
    rcases dec (k < ps.length) with ⟨hlt, blt⟩ | ⟨hlt, blt⟩
    · have hex : ∃ p, ps[k]? = some p := ⟨ps[k], List.getElem?_eq_getElem hlt⟩
      obtain ⟨p, hp⟩ := hex
      rcases r3 with rfl | ⟨b, off, rfl, hb', hc⟩
      · exact absurd hlt (by omega)
      · obtain ⟨c1, c2⟩ := hc k p hp
        have hb2 : b < w.heap.size + 1 := by omega
        obtain ⟨hpp, hpb⟩ := hps k p hp
        have z1 := hpp.size
        have z2 := hpb.size
        have HP := Lib.hid hp
        clear hp hc
        have k2 : (k : Int) ≤ 1000000 := by omega
        have k0 : 0 ≤ (k : Int) := by omega
        rcases Nat.eq_zero_or_pos k with rfl | hk0
        · simp only [Nat.zero_mul, Nat.add_zero, Nat.zero_add] at c1 c2
          have v6 : decide ((0 : Int) < (ps.length : Int)) = true := decide_eq_true (by omega)
          have HE := Lib.hid (prsT_one HP.out)
          rw [prsT_zero]
          go_wp2_with fail
          (refine wp_region_calm (by kernel_rfl) (by kernel_rfl) ?_
           repeat (first | go_big_quiet_skip | (go_big_quiet_want; go_big_quiet_op; first | go_big_quiet_on | (apply Exists.intro; refine ⟨fun _ => ?_, ?_⟩; (focus ((go_at_call 56; first | refine calm_of (l9Dec_sml _ _ (by assumption)) | refine calm_seq (l9Dec_sml _ _ (by assumption))))); go_big_quiet_on)))
           refine wpQuiet_nil ?_
           intro _ hw'
           obtain ⟨xq, hw''⟩ := hw'
           subst hw'')
          go_wp2
          go_roundw
          case rel => exact ⟨1, by omega, by go_num, by rw [HE.out], (by repeat (first | exact More.refl _ | apply More.plus | apply More.alloc | apply More.drew | apply More.drewN))⟩
          case measure => simp [intOf]; omega
        · have v5 : decide ((0 : Int) < (k : Int)) = true := decide_eq_true (by omega)
          have HE := Lib.hid (prsT_succ HP.out hk0)
          go_wp2_with fail
          (refine wp_region_calm (by kernel_rfl) (by kernel_rfl) ?_
           repeat (first | go_big_quiet_skip | (go_big_quiet_want; go_big_quiet_op; first | go_big_quiet_on | (apply Exists.intro; refine ⟨fun _ => ?_, ?_⟩; (focus ((go_at_call 56; first | refine calm_of (l9Dec_sml _ _ (by assumption)) | refine calm_seq (l9Dec_sml _ _ (by assumption))))); go_big_quiet_on)))
           refine wpQuiet_nil ?_
           intro _ hw'
           obtain ⟨xq, hw''⟩ := hw'
           subst hw'')
          go_wp2
          go_roundw
          case rel => exact ⟨k + 1, by omega, by go_num, by rw [HE.out], (by repeat (first | exact More.refl _ | apply More.plus | apply More.alloc | apply More.drew | apply More.drewN))⟩
          case measure => simp [intOf]; omega
    · obtain rfl : k = ps.length := by omega
      have zS := setT_size hs
      have zb := hb.size
      have zl := hla.size
      have zO := orD_size (n := ps.length * 12 + 1) (by omega : (prsT ps ps.length).size ≤ _) (by omega)
      have HE := Lib.hid (show setT o l m ++ (⟨#[59]⟩ : ByteArray) ++ decB base ++ (⟨#[59]⟩ : ByteArray) ++ decB last ++ (⟨#[59]⟩ : ByteArray) ++ orD (prsT ps ps.length) = knT o l m ps base last by
        rw [prsT_all ps (Nat.le_refl _)]
        unfold knT
        rw [joinB_four])
      go_wp2_with fail
      (refine wp_region_calm (by kernel_rfl) (by kernel_rfl) ?_
       repeat (first | go_big_quiet_skip | (go_big_quiet_want; go_big_quiet_op; first | go_big_quiet_on | (apply Exists.intro; refine ⟨fun _ => ?_, ?_⟩; (focus ((first | (go_at_call 63; first | refine calm_of (specFormatSetting_any _ _ _ _ (by assumption)) | refine calm_seq (specFormatSetting_any _ _ _ _ (by assumption))) | (go_at_call 56; first | refine calm_of (l9Dec_sml _ _ (by assumption)) | refine calm_seq (l9Dec_sml _ _ (by assumption))) | (go_at_call 55; first | refine calm_of (l3Some_any _ _) | refine calm_seq (l3Some_any _ _))))); go_big_quiet_on)))
       refine wpQuiet_nil ?_
       intro _ hw'
       obtain ⟨xq, hw''⟩ := hw'
       subst hw'')
      go_wp2
      go_ret
      exact ret_of (by rw [← HE.out]; rfl) (by repeat (first | exact More.refl _ | apply More.plus | apply More.alloc | apply More.drew | apply More.drewN))

end Go.Proofs.YtmddcbebaijjkaaGreatDoor
