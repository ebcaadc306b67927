/- The law of ReadStream, for every argument. -/
import Derived.Test.YtmenpflcmpihpaaL5ReadStream
import Derived.Test.YtmenpflcmpihpaaRsn
import Derived.Test.YtmenpflcmpihpaaRsi
namespace Go.Proofs.Ytmenpflcmpihpaa
open Go.RowKit
set_option linter.unusedVariables false
set_option linter.unusedSimpArgs false

theorem rdc_ge {o l m : Int} {b sz ct : Nat} {bits : List UInt8} : ∀ (f : Nat) (ps : List Pr) (last : Int) (p : Nat) (C : List Int) (D : List UInt8), p ≤ (rdc o l m b sz ct bits f ps last p C D).p
  | 0, ps, last, p, C, D => Nat.le_refl _
  | f + 1, ps, last, p, C, D => by
    unfold rdc
    by_cases hn : bits.length - p < (wd l m ps.length last).toNat
    · rw [if_pos hn]; exact Nat.le_refl _
    · rw [if_neg hn]
      repeat' split
      all_goals first | exact Nat.le_add_right _ _ | exact Nat.le_trans (Nat.le_add_right _ _) (rdc_ge f _ _ _ _ _)

theorem rdc_first {o l m : Int} {b sz ct : Nat} {bits : List UInt8} {f : Nat} {ps : List Pr} {last : Int} {p : Nat} {C : List Int} {D : List UInt8} : (rdc o l m b sz ct bits (f + 1) ps last p C D).e ≠ 1 → p + (wd l m ps.length last).toNat ≤ (rdc o l m b sz ct bits (f + 1) ps last p C D).p := by
  unfold rdc
  by_cases hn : bits.length - p < (wd l m ps.length last).toNat
  · rw [if_pos hn]; intro h; exact absurd rfl h
  · rw [if_neg hn]
    intro _
    repeat' split
    all_goals first | exact Nat.le_refl _ | exact rdc_ge f _ _ _ _ _

theorem used_eq {L u s w : Nat} {R : Rg} (hL : L = s + 8 * u) (hp : R.p ≤ L) (hw : R.e ≠ 1 → w ≤ R.p) (hs : s < w) : usedI u s R = (u : Int) - leftV L R / 8 := by
  unfold usedI leftV
  by_cases he : R.e = 1
  · rw [if_pos he, if_pos he]; omega
  · rw [if_neg he, if_neg he]
    have := hw he
    omega

theorem lawReadStream_any (o l m : Int) (a : Option Addr) (cap : Nat) (ps : List Pr) (base last : Int) (sb : ByteArray) (z c e : Int) (s1 : ByteArray) (w : World) (hr : RdP w a cap ps) (hsz : sb.size ≤ maxLen) (hm1 : s1.size ≤ maxLen) :
    Calls Try.prog 14 #[.agg #[.int .i64 o, .int .i64 l, .int .i64 m, .slice a ps.length cap, .int .i64 base, .int .i64 last, .string sb, .int .i64 z, .int .i64 c, .int .i64 e], .string s1] w fun E w' => E = .returned (.bool true) ∧ Below w.heap.size w w' := by
  by_cases h : rdb o l m ps base last sb z c e = false ∨ 4000 < s1.size
  · exact lawReadStream_sizes o l m a cap ps base last sb z c e s1 w 0 0 0 [] 0 0 ⟨#[]⟩ 0 0 0 ⟨#[]⟩ 0 false hr hsz hm1 (by simp) (fun W a cap hr => specReadStream_no o l m a cap ps base last sb s1 z c e W hr hsz hm1 h) (fun W a cap hr => implReadStream_no o l m a cap ps base last sb s1 z c e W hr hsz hm1 h)
  have hk : rdb o l m ps base last sb z c e = true := by
    cases hk : rdb o l m ps base last sb z c e
    · exact absurd (.inl hk) h
    · rfl
  have hu : s1.size ≤ 4000 := by
    rcases Nat.lt_or_ge 4000 s1.size with h1 | h1
    · exact absurd (.inr h1) h
    · exact h1
  clear h
  have hk2 := hk
  unfold rdb at hk2
  rw [Bool.and_eq_true] at hk2
  obtain ⟨hkv, hrv0⟩ := hk2
  have hrv := rvb_iff.1 hrv0
  have hkl := kv_len hkv
  have hkk := kvb_iff.1 hkv
  by_cases he : e = 1
  · subst he
    obtain ⟨b, rfl⟩ : ∃ b : Nat, base = b := ⟨base.toNat, by have := hkk.b0; omega⟩
    obtain ⟨sz, rfl⟩ : ∃ b : Nat, z = b := ⟨z.toNat, by have := hrv.z0; omega⟩
    obtain ⟨ct, rfl⟩ : ∃ b : Nat, c = b := ⟨c.toNat, by have := hrv.c0; omega⟩
    have hst : (sb.size : Int) < wd l m ps.length last ∧ (ct : Int) < 3100 := by
      rcases hrv.e with h1 | h1
      · exact h1.2
      · omega
    have hz1 := hrv.z1
    have hwd : wd l m ps.length last ≤ 11 := by
      have h1 := (need_bd (gt l m ps.length last)).2
      have h2 := hkk.lim.bds.2.1
      unfold wd
      omega
    have hss : sb.size ≤ 100 := by omega
    obtain ⟨bits, hbe⟩ : ∃ bits, sb.data.toList ++ unpL o s1.data.toList = bits := ⟨_, rfl⟩
    have hbl : bits.length = sb.size + 8 * s1.size := by rw [← hbe, List.length_append, unpL_len, bytes_len, bytes_len]
    have f1 := rdc_wlk (o := o) (l := l) (m := m) (b := b) (sz := sz) (ct := ct) (bits := bits) (ps0 := ps) (last0 := last) (bits.length + 1) ps last 0 [] [] [] hkk (fun cs => by simp) (by simp; omega) (by simp; omega)
    have f2 := rdc_p (o := o) (l := l) (m := m) (b := b) (sz := sz) (ct := ct) (bits := bits) (bits.length + 1) ps last 0 [] [] (by omega)
    have f3 := rdc_first (o := o) (l := l) (m := m) (b := b) (sz := sz) (ct := ct) (bits := bits) (f := bits.length) (ps := ps) (last := last) (p := 0) (C := []) (D := [])
    obtain ⟨R, hR⟩ : ∃ R, rdc o l m b sz ct bits (bits.length + 1) ps last 0 [] [] = R := ⟨_, rfl⟩
    rw [hR] at f1 f2 f3
    obtain ⟨_, f4, f5, f6⟩ := f1
    have f7 := kv_len (kvb_iff.2 f6)
    have hue := used_eq (L := bits.length) (u := s1.size) (s := sb.size) (w := (wd l m ps.length last).toNat) (R := R) hbl f2 (fun h => by have := f3 h; omega) (by omega)
    obtain ⟨L, hL⟩ : ∃ L, leftV bits.length R = L := ⟨_, rfl⟩
    have hL2 : 0 ≤ L ∧ L ≤ 100000 := by
      rw [← hL]
      unfold leftV
      by_cases he : R.e = 1
      · rw [if_pos he]; omega
      · rw [if_neg he]; omega
    obtain ⟨sx, hsx⟩ : ∃ sx, (if R.e = 1 then bstr (bits.drop R.p) else ⟨#[]⟩) = sx := ⟨_, rfl⟩
    rw [hL] at hue
    exact lawReadStream_sizes o l m a cap ps b last sb sz ct 1 s1 w o l m R.ps b R.last sx ((sz : Int) + R.D.length) ((ct : Int) + R.C.length) R.e (bstr R.D) ((s1.size : Int) - L / 8) true hr hsz hm1 (by omega)
      (fun W a cap hr => specReadStream_go o l m a cap ps b last sb s1 sz ct W hr hk hu hss R bits hbe hR sx hsx L hL hL2.1 hL2.2)
      (fun W a cap hr => by
        have := implReadStream_go o l m a cap ps b last sb s1 sz ct W hr hk hu hss R bits hbe hR sx hsx f2 f7 (by omega) (by omega)
        rw [hue] at this
        exact this)
  · exact lawReadStream_sizes o l m a cap ps base last sb z c e s1 w o l m ps base last sb z c e ⟨#[]⟩ 0 true hr hsz hm1 (by omega) (fun W a cap hr => specReadStream_ended o l m a cap ps base last sb s1 z c e W hr hsz hu hk he (by omega)) (fun W a cap hr => implReadStream_ended o l m a cap ps base last sb s1 z c e W hr hsz hu hk he (by omega))

end Go.Proofs.Ytmenpflcmpihpaa
