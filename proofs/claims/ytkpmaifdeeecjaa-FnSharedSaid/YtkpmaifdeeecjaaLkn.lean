/- The walks of LearnKnown and StartWith, of the program and of the reference. -/
import Derived.Test.YtkpmaifdeeecjaaGf
import Derived.Test.YtkpmaifdeeecjaaRng
namespace Go.Proofs.Ytkpmaifdeeecjaa
open Go.RowKit
set_option linter.unusedVariables false
set_option linter.unusedSimpArgs false

/-- what can be known stays so while a text is learned -/
theorem lrn_kv {o l m : Int} {base : Int} : ∀ (f : Nat) (ps : List Pr) (last : Int) (d : List UInt8), KV o l m ps base last → dfB o l m (bstr d) = true → KV o l m (lrn l m f ps last d).1 base (lrn l m f ps last d).2
  | 0, ps, last, d, h, _ => h
  | f + 1, ps, last, d, h, hd => by
    by_cases hz : d = []
    · subst hz
      rw [lrn_nil]; exact h
    · have hz0 : 0 < (bstr d).size := by
        rw [bstr_size]
        exact List.length_pos_iff.2 hz
      obtain ⟨n, hn⟩ := lon_ex h hd hz0
      rw [bytes_bstr] at hn
      obtain ⟨c, hc⟩ := fnd_ex l m ps last (d.take n) (h.lim.bds).2.2.2.2.1
      rw [lrn_step hz hn hc]
      refine lrn_kv f _ _ _ (h.after (fnd_ok hn hc)) ?_
      have := dfB_drop hd n
      have e : (bstr d).extract n (bstr d).size = bstr (d.drop n) := by
        rw [← bstr_bytes ((bstr d).extract n (bstr d).size), ext_drop, bytes_bstr]
      rwa [e] at this

theorem lrn_len {o l m : Int} {base : Int} {ps : List Pr} {last : Int} {s : ByteArray} (h : KV o l m ps base last) (hd : dfB o l m s = true) (f : Nat) : (lrn l m f ps last s.data.toList).1.length ≤ 2000 :=
  kv_len (kvb_iff.2 (lrn_kv f ps last s.data.toList h (by rw [bstr_bytes]; exact hd)))

theorem specLearnKnown_no (o l m : Int) (a : Option Addr) (cap : Nat) (ps : List Pr) (base last : Int) (s : ByteArray) (w : World) (hr : RdP w a cap ps) (hs2 : s.size ≤ maxLen) (h : kvb o l m ps base last = false ∨ dfB o l m s = false) :
    Calls Try.prog 27 #[.agg #[.int .i64 o, .int .i64 l, .int .i64 m, .slice a ps.length cap, .int .i64 base, .int .i64 last], .string s] w (RetO w (fun a0 c0 => .tuple #[.agg #[.int .i64 0, .int .i64 0, .int .i64 0, .slice a0 ([] : List Pr).length c0, .int .i64 0, .int .i64 0], .bool false]) []) := by
  cases hk : kvb o l m ps base last
  · clear h
    go_enter Try.func27, Try.ntmps27
    go_wp2_with (go_at_call 16; refine (specKnownValid_any _ _ _ _ _ _ _ _ _ (by repeat (first | exact hr | apply rd_seq | apply Rd.plus | apply Rd.alloc | apply Rd.drew | apply Rd.drewN | refine rd_patch ?_ _ _ (by intro A hA; first | (cases hA; show _ ≠ _; omega) | (have := hal A hA; omega))))).mono ?_; rintro e w' ⟨rfl, xc, rfl⟩)
    exact bodyPost_ret (v := .tuple #[.agg #[.int .i64 0, .int .i64 0, .int .i64 0, .slice none 0 0, .int .i64 0, .int .i64 0], .bool false]) (by simp [results, Try.results27, go_sem]) rfl ⟨none, 0, rfl, .inl ⟨rfl, rfl, rfl⟩, (by repeat (first | exact More.refl _ | apply More.plus | apply More.alloc | apply More.drew | apply More.drewN))⟩
  · have hd : dfB o l m s = false := by
      rcases h with h | h
      · rw [hk] at h; cases h
      · exact h
    clear h
    go_enter Try.func27, Try.ntmps27
    go_wp2_with (first | (go_at_call 16; refine (specKnownValid_any _ _ _ _ _ _ _ _ _ (by repeat (first | exact hr | apply rd_seq | apply Rd.plus | apply Rd.alloc | apply Rd.drew | apply Rd.drewN | refine rd_patch ?_ _ _ (by intro A hA; first | (cases hA; show _ ≠ _; omega) | (have := hal A hA; omega))))).mono ?_; rintro e w' ⟨rfl, xc, rfl⟩) | (go_at_call 38; refine (specDataFits_any _ _ _ _ _ hs2).mono ?_; rintro e w' ⟨rfl, xc, rfl⟩))
    exact bodyPost_ret (v := .tuple #[.agg #[.int .i64 0, .int .i64 0, .int .i64 0, .slice none 0 0, .int .i64 0, .int .i64 0], .bool false]) (by simp [results, Try.results27, go_sem]) rfl ⟨none, 0, rfl, .inl ⟨rfl, rfl, rfl⟩, (by repeat (first | exact More.refl _ | apply More.plus | apply More.alloc | apply More.drew | apply More.drewN))⟩

theorem specLearnKnown_yes (o l m : Int) (a : Option Addr) (cap : Nat) (ps : List Pr) (base last : Int) (s : ByteArray) (w : World) (hr : RdP w a cap ps) (hs2 : s.size ≤ maxLen) (hk : kvb o l m ps base last = true) (hd : dfB o l m s = true) (qs : List Pr) (hR : (lrn l m s.size (ps.take base.toNat) (-1) s.data.toList).1 = qs) :
    Calls Try.prog 27 #[.agg #[.int .i64 o, .int .i64 l, .int .i64 m, .slice a ps.length cap, .int .i64 base, .int .i64 last], .string s] w (RetO w (fun a0 c0 => .tuple #[.agg #[.int .i64 o, .int .i64 l, .int .i64 m, .slice a0 qs.length c0, .int .i64 qs.length, .int .i64 (-1)], .bool true]) qs) := by
  have hkv := kvb_iff.1 hk
  obtain ⟨R, hR2⟩ : ∃ R, lrn l m s.size (ps.take base.toNat) (-1) s.data.toList = R := ⟨_, rfl⟩
  rw [hR2] at hR
  subst hR
  have HV := Lib.hid hkv
  have HR := Lib.hid hR2
  clear hkv hR2
  go_enter Try.func27, Try.ntmps27
  go_wp2_with (first | (go_at_call 16; refine (specKnownValid_any _ _ _ _ _ _ _ _ _ (by repeat (first | exact hr | apply rd_seq | apply Rd.plus | apply Rd.alloc | apply Rd.drew | apply Rd.drewN | refine rd_patch ?_ _ _ (by intro A hA; first | (cases hA; show _ ≠ _; omega) | (have := hal A hA; omega))))).mono ?_; rintro e w' ⟨rfl, xc, rfl⟩) | (go_at_call 38; refine (specDataFits_any _ _ _ _ _ hs2).mono ?_; rintro e w' ⟨rfl, xc, rfl⟩) | fail)
  refine (l4Learn_any _ _ _ _ _ ps _ _ s _ (by repeat (first | exact hr | apply rd_seq | apply Rd.plus | apply Rd.alloc | apply Rd.drew | apply Rd.drewN | refine rd_patch ?_ _ _ (by intro A hA; first | (cases hA; show _ ≠ _; omega) | (have := hal A hA; omega)))) HV.out hd R HR.out).mono ?_
  rintro e w' ⟨pa, pc, rfl, hown, x2, rfl⟩
  try simp only [plus_plus] at hown
  have HO := Lib.hid hown
  clear hown
  go_wp2_with fail
  exact bodyPost_ret (v := .tuple #[.agg #[.int .i64 o, .int .i64 l, .int .i64 m, .slice pa R.1.length pc, .int .i64 R.1.length, .int .i64 (-1)], .bool true]) (by simp [results, Try.results27, go_sem, ↓IntWalk.iteOmega]) rfl ⟨pa, pc, rfl, ((own_swap HO.out (by simp <;> omega) (by simp <;> omega)).lower (by simp <;> omega)), (by repeat (first | exact More.refl _ | apply More.plus | apply More.alloc | apply More.drew | apply More.drewN))⟩

end Go.Proofs.Ytkpmaifdeeecjaa
