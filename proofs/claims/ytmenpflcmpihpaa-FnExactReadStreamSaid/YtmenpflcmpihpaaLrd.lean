/- One code read by the reference is one step of the reading from bits. -/
import Derived.Test.YtmenpflcmpihpaaTak
namespace Go.Proofs.Ytmenpflcmpihpaa
open Go.RowKit
set_option linter.unusedVariables false
set_option linter.unusedSimpArgs false

theorem fol_can {l m : Int} {n : Nat} {last c : Int} (h0 : 2 ≤ two l) (h1 : c ≠ two l + 1) (h2 : c ≠ two l) : folB l m n last c = canB l m n last c := by
  cases h : canB l m n last c
  · cases h3 : folB l m n last c
    · rfl
    · have := okc_can h0 (folB_iff.1 h3)
      rw [h] at this; cases this
  · exact folB_iff.2 (can_okc h0 h h2 h1)

theorem take_step {o l m : Int} {ps : List Pr} {b : Nat} {last : Int} {bits : List UInt8} {z : ByteArray} {sz ct n p f : Nat} {C : List Int} {D : List UInt8} {R : Rg} (hkv : KV o l m ps (b : Int) last) (hz : z.data.toList = bits.drop p) (hbv : BV bits) (hbl : bits.length ≤ 100000) (hp : p ≤ bits.length)
    (hn : wd l m ps.length last = n) (hns : n ≤ z.size) (hsz : sz + D.length ≤ 2000) (hct : ct + C.length < 3100) (hrd : rdc o l m b sz ct bits (f + 1) ps last p C D = R) :
    ∃ (qs : List Pr) (la : Int) (C2 : List Int) (wrd : List UInt8) (e2 : Int),
      (∀ (W : World) (a : Option Addr) (cap : Nat), RdP W a cap ps → Calls Try.prog 144 #[.agg #[.int .i64 o, .int .i64 l, .int .i64 m, .slice a ps.length cap, .int .i64 b, .int .i64 last, .string z, .int .i64 ((sz : Int) + D.length), .int .i64 ((ct : Int) + C.length), .int .i64 1]] W
        (RetTk W a cap ps o l m b qs la (z.extract n z.size) ((sz : Int) + (D ++ wrd).length) ((ct : Int) + C2.length) e2 (bstr wrd))) ∧
      KV o l m qs (b : Int) la ∧ sz + (D ++ wrd).length ≤ 2000 ∧ ct + C2.length ≤ 3100 ∧ wrd.length ≤ 2003 ∧
      ((e2 = 1 ∧ ct + C2.length < 3100 ∧ rdc o l m b sz ct bits f qs la (p + n) C2 (D ++ wrd) = R) ∨ (e2 ≠ 1 ∧ R = ⟨qs, la, C2, D ++ wrd, e2, p + n⟩)) := by
  have t1 := (hkv.lim.bds).2.2.2.2.1
  have hzl : z.size = bits.length - p := by rw [← bytes_len, hz, List.length_drop]
  have hn2 : (wd l m ps.length last).toNat = n := by omega
  have hns2 : ¬ bits.length - p < n := by omega
  have hbv2 : BV z.data.toList := by rw [hz]; exact fun x hx => hbv x (List.mem_of_mem_drop hx)
  obtain ⟨c, hc⟩ : ∃ c, numL o (z.data.toList.take n) = c := ⟨_, rfl⟩
  have hc2 : numL o ((bits.drop p).take n) = c := by rw [← hz]; exact hc
  have e0 : bstr ([] : List UInt8) = ⟨#[]⟩ := rfl
  by_cases he : c = two l + 1
  · refine ⟨ps, last, C ++ [two l + 1], [], 0, fun W a cap hr => ?_, hkv, by simpa using hsz, by simp; omega, by simp, .inr ⟨by decide, ?_⟩⟩
    · have h9 := l3Take_end o l m a cap ps b last z (sz + D.length) (ct + C.length) W hr hkv hbv2 (by omega) n hn hns hsz hct c hc he
      simpa [e0, Int.natCast_add, Int.add_assoc] using h9
    · rw [← hrd, List.append_nil, rdc_end hn2 hns2 (by rw [hc2, he]) (can_end t1)]
  · by_cases hcl : c = two l
    · have hrc := rdc_clear (o := o) (b := b) (sz := sz) (ct := ct) (f := f) (C := C) (D := D) hn2 hns2 (by rw [hc2, hcl]) (can_clear t1)
      by_cases hf : ct + C.length + 1 = 3100
      · refine ⟨ps.take b, -1, C ++ [two l], [], 3, fun W a cap hr => ?_, by simpa using hkv.cleared, by simpa using hsz, by simp; omega, by simp, .inr ⟨by decide, ?_⟩⟩
        · have h9 := l3Take_clearf o l m a cap ps b last z (sz + D.length) (ct + C.length) W hr hkv hbv2 (by omega) n hn hns hsz hct c hc hcl hf
          simpa [e0, Int.natCast_add, Int.add_assoc] using h9
        · rw [← hrd, List.append_nil, hrc, if_pos (by omega)]
      · refine ⟨ps.take b, -1, C ++ [two l], [], 1, fun W a cap hr => ?_, by simpa using hkv.cleared, by simpa using hsz, by simp; omega, by simp, .inl ⟨rfl, by simp; omega, ?_⟩⟩
        · have h9 := l3Take_clear o l m a cap ps b last z (sz + D.length) (ct + C.length) W hr hkv hbv2 (by omega) n hn hns hsz hct c hc hcl hf
          simpa [e0, Int.natCast_add, Int.add_assoc] using h9
        · rw [← hrd, List.append_nil, hrc, if_neg (by omega)]
    · have hfc := fol_can (l := l) (m := m) (n := ps.length) (last := last) t1 he hcl
      cases hfo : folB l m ps.length last c
      · refine ⟨ps, last, C, [], 2, fun W a cap hr => ?_, hkv, by simpa using hsz, by omega, by simp, .inr ⟨by decide, ?_⟩⟩
        · have h9 := l3Take_wrong o l m a cap ps b last z (sz + D.length) (ct + C.length) W hr hkv hbv2 (by omega) n hn hns hsz hct c hc he hcl hfo
          simpa [e0, Int.natCast_add, Int.add_assoc] using h9
        · rw [← hrd, List.append_nil, rdc_wrong hn2 hns2 hc2 (by rw [← hfc]; exact hfo)]
      · have hok := folB_iff.1 hfo
        have hab := any_bd hkv hok
        by_cases hd : 2000 < sz + D.length + (anyW l ps last c).length
        · refine ⟨ps, last, C, [], 3, fun W a cap hr => ?_, hkv, by simpa using hsz, by omega, by simp, .inr ⟨by decide, ?_⟩⟩
          · have h9 := l3Take_long o l m a cap ps b last z (sz + D.length) (ct + C.length) W hr hkv hbv2 (by omega) n hn hns hsz hct c hc he hcl hfo hd
            simpa [e0, Int.natCast_add, Int.add_assoc] using h9
          · rw [← hrd, List.append_nil, rdc_long hn2 hns2 hc2 (by rw [← hfc]; exact hfo) he hcl hd]
        · have hrc := rdc_word (o := o) (b := b) (sz := sz) (ct := ct) (f := f) (C := C) (D := D) hn2 hns2 hc2 (by rw [← hfc]; exact hfo) he hcl hd
          by_cases hf : ct + C.length + 1 = 3100
          · refine ⟨aftP l m ps last c, c, C ++ [c], anyW l ps last c, 3, fun W a cap hr => ?_, hkv.after hok, by rw [List.length_append]; omega, by simp; omega, hab, .inr ⟨by decide, ?_⟩⟩
            · have h9 := l3Take_wordf o l m a cap ps b last z (sz + D.length) (ct + C.length) W hr hkv hbv2 (by omega) n hn hns hsz hct c hc he hcl hfo hd hf
              simpa [Int.natCast_add, Int.add_assoc] using h9
            · rw [← hrd, hrc, if_pos (by omega)]
          · refine ⟨aftP l m ps last c, c, C ++ [c], anyW l ps last c, 1, fun W a cap hr => ?_, hkv.after hok, by rw [List.length_append]; omega, by simp; omega, hab, .inl ⟨rfl, by simp; omega, ?_⟩⟩
            · have h9 := l3Take_word o l m a cap ps b last z (sz + D.length) (ct + C.length) W hr hkv hbv2 (by omega) n hn hns hsz hct c hc he hcl hfo hd hf
              simpa [Int.natCast_add, Int.add_assoc] using h9
            · rw [← hrd, hrc, if_neg (by omega)]

end Go.Proofs.Ytmenpflcmpihpaa
