/- The walks of LongestWord, of the program and of the reference. -/
import Derived.Test.YtbedikodiboofaaDfi
namespace Go.Proofs.Ytbedikodiboofaa
open Go.RowKit
set_option linter.unusedVariables false
set_option linter.unusedSimpArgs false

theorem lon_ex {o l m : Int} {ps : List Pr} {base last : Int} {s : ByteArray} (hkv : KV o l m ps base last) (hdf : dfB o l m s = true) (hz : 0 < s.size) : ∃ n, IsLon l m ps last s.data.toList n := by
  obtain ⟨l1, l2, m2, lm, t1, t2, t4, t3⟩ := hkv.lim.bds
  have h0 := LonTo.start (m := m) (ps := ps) (last := last) (d := s.data.toList) t2 (by rw [bytes_len]; exact hz) (by rw [bytes_get hz]; exact dfB_first hdf hz)
  have key : ∀ k : Nat, ∃ n, LonTo l m ps last s.data.toList n (two l + 2 + k) := by
    intro k
    induction k with
    | zero => exact ⟨1, by simpa using h0⟩
    | succ k ih =>
      obtain ⟨n, hn⟩ := ih
      have e : two l + 2 + ((k + 1 : Nat) : Int) = two l + 2 + (k : Int) + 1 := by omega
      rw [e]
      by_cases hc : Okc l m ps.length last (two l + 2 + k)
      · by_cases hex : ∃ j, j ≤ s.data.toList.length ∧ anyW l ps last (two l + 2 + k) = s.data.toList.take j ∧ n < j
        · obtain ⟨j, h1, h2, h3⟩ := hex
          exact ⟨j, hn.take hc h3 h1 h2⟩
        · exact ⟨n, hn.keep fun j h1 h2 => by
            rcases Nat.lt_or_ge n j with h | h
            · exact absurd ⟨j, h1, h2, h⟩ hex
            · exact h⟩
      · exact ⟨n, hn.1, hn.2.1, hn.2.2.1, fun c j h1 h2 h3 h4 => hn.2.2.2 c j h1 (by
          by_cases e : c = two l + 2 + k
          · subst e; exact absurd h1 hc
          · omega) h3 h4⟩
  obtain ⟨n, hn⟩ := key (gt l m ps.length last).toNat
  exact ⟨n, hn.done t1 (by omega)⟩

theorem ext_take (s : ByteArray) (n : Nat) : s.extract 0 n = bstr (s.data.toList.take n) := by
  rw [← bstr_pre, bstr_bytes]

theorem implLongestWord_no (o l m : Int) (a : Option Addr) (cap : Nat) (ps : List Pr) (base last : Int) (s : ByteArray) (w : World) (hr : RdP w a cap ps) (hs2 : s.size ≤ maxLen) (h : kvb o l m ps base last = false ∨ dfB o l m s = false ∨ s.size = 0) :
    Calls Try.prog 39 #[.agg #[.int .i64 o, .int .i64 l, .int .i64 m, .slice a ps.length cap, .int .i64 base, .int .i64 last], .string s] w (Ret w (.string ⟨#[]⟩)) := by
  have he1 := isEmpty_size s
  cases hk : kvb o l m ps base last
  · clear h he1
    go_enter Try.func39, Try.ntmps39
    go_wp2_with (go_at_call 62; refine (KnownValid_any _ _ _ _ _ _ _ _ _ (by repeat (first | exact hr | apply rd_seq | apply Rd.plus | apply Rd.alloc | apply Rd.drew | apply Rd.drewN | refine rd_patch ?_ _ _ (by intro A hA; first | (cases hA; show _ ≠ _; omega) | (have := hal A hA; omega))))).mono ?_; rintro e w' ⟨rfl, xc, rfl⟩)
    go_ret
    exact Ret.mk (by repeat (first | exact More.refl _ | apply More.plus | apply More.alloc | apply More.drew | apply More.drewN))
  · cases hd : dfB o l m s
    · clear h he1
      go_enter Try.func39, Try.ntmps39
      go_wp2_with (first | (go_at_call 62; refine (KnownValid_any _ _ _ _ _ _ _ _ _ (by repeat (first | exact hr | apply rd_seq | apply Rd.plus | apply Rd.alloc | apply Rd.drew | apply Rd.drewN | refine rd_patch ?_ _ _ (by intro A hA; first | (cases hA; show _ ≠ _; omega) | (have := hal A hA; omega))))).mono ?_; rintro e w' ⟨rfl, xc, rfl⟩) | (go_at_call 76; refine (DataFits_any _ _ _ _ _ hs2).mono ?_; rintro e w' ⟨rfl, xc, rfl⟩))
      go_ret
      exact Ret.mk (by repeat (first | exact More.refl _ | apply More.plus | apply More.alloc | apply More.drew | apply More.drewN))
    · have hz : s.size = 0 := by
        rcases h with h | h | h
        · rw [hk] at h; cases h
        · rw [hd] at h; cases h
        · exact h
      rw [decide_eq_true hz] at he1
      clear h hz
      go_enter Try.func39, Try.ntmps39
      go_wp2_with (first | (go_at_call 62; refine (KnownValid_any _ _ _ _ _ _ _ _ _ (by repeat (first | exact hr | apply rd_seq | apply Rd.plus | apply Rd.alloc | apply Rd.drew | apply Rd.drewN | refine rd_patch ?_ _ _ (by intro A hA; first | (cases hA; show _ ≠ _; omega) | (have := hal A hA; omega))))).mono ?_; rintro e w' ⟨rfl, xc, rfl⟩) | (go_at_call 76; refine (DataFits_any _ _ _ _ _ hs2).mono ?_; rintro e w' ⟨rfl, xc, rfl⟩))
      go_ret
      exact Ret.mk (by repeat (first | exact More.refl _ | apply More.plus | apply More.alloc | apply More.drew | apply More.drewN))

theorem specLongestWord_no (o l m : Int) (a : Option Addr) (cap : Nat) (ps : List Pr) (base last : Int) (s : ByteArray) (w : World) (hr : RdP w a cap ps) (hs2 : s.size ≤ maxLen) (h : kvb o l m ps base last = false ∨ dfB o l m s = false ∨ s.size = 0) :
    Calls Try.prog 38 #[.agg #[.int .i64 o, .int .i64 l, .int .i64 m, .slice a ps.length cap, .int .i64 base, .int .i64 last], .string s] w (Ret w (.string ⟨#[]⟩)) := by
  have he1 := isEmpty_size s
  cases hk : kvb o l m ps base last
  · clear h he1
    go_enter Try.func38, Try.ntmps38
    go_wp2_with (go_at_call 59; refine (specKnownValid_any _ _ _ _ _ _ _ _ _ (by repeat (first | exact hr | apply rd_seq | apply Rd.plus | apply Rd.alloc | apply Rd.drew | apply Rd.drewN | refine rd_patch ?_ _ _ (by intro A hA; first | (cases hA; show _ ≠ _; omega) | (have := hal A hA; omega))))).mono ?_; rintro e w' ⟨rfl, xc, rfl⟩)
    go_ret
    exact Ret.mk (by repeat (first | exact More.refl _ | apply More.plus | apply More.alloc | apply More.drew | apply More.drewN))
  · by_cases hz : s.size = 0
    · rw [decide_eq_true hz] at he1
      clear h hz
      go_enter Try.func38, Try.ntmps38
      go_wp2_with (first | (go_at_call 59; refine (specKnownValid_any _ _ _ _ _ _ _ _ _ (by repeat (first | exact hr | apply rd_seq | apply Rd.plus | apply Rd.alloc | apply Rd.drew | apply Rd.drewN | refine rd_patch ?_ _ _ (by intro A hA; first | (cases hA; show _ ≠ _; omega) | (have := hal A hA; omega))))).mono ?_; rintro e w' ⟨rfl, xc, rfl⟩) | (go_at_call 74; refine (specDataFits_any _ _ _ _ _ hs2).mono ?_; rintro e w' ⟨rfl, xc, rfl⟩))
      go_ret
      exact Ret.mk (by repeat (first | exact More.refl _ | apply More.plus | apply More.alloc | apply More.drew | apply More.drewN))
    · have hd : dfB o l m s = false := by
        rcases h with h | h | h
        · rw [hk] at h; cases h
        · exact h
        · exact absurd h hz
      rw [decide_eq_false hz] at he1
      clear h hz
      go_enter Try.func38, Try.ntmps38
      go_wp2_with (first | (go_at_call 59; refine (specKnownValid_any _ _ _ _ _ _ _ _ _ (by repeat (first | exact hr | apply rd_seq | apply Rd.plus | apply Rd.alloc | apply Rd.drew | apply Rd.drewN | refine rd_patch ?_ _ _ (by intro A hA; first | (cases hA; show _ ≠ _; omega) | (have := hal A hA; omega))))).mono ?_; rintro e w' ⟨rfl, xc, rfl⟩) | (go_at_call 74; refine (specDataFits_any _ _ _ _ _ hs2).mono ?_; rintro e w' ⟨rfl, xc, rfl⟩))
      go_ret
      exact Ret.mk (by repeat (first | exact More.refl _ | apply More.plus | apply More.alloc | apply More.drew | apply More.drewN))

theorem specLongestWord_yes (o l m : Int) (a : Option Addr) (cap : Nat) (ps : List Pr) (base last : Int) (s : ByteArray) (w : World) (hr : RdP w a cap ps) (hs2 : s.size ≤ maxLen) (hk : kvb o l m ps base last = true) (hd : dfB o l m s = true) (hz : 0 < s.size) (n : Nat) (hn : IsLon l m ps last s.data.toList n) :
    Calls Try.prog 38 #[.agg #[.int .i64 o, .int .i64 l, .int .i64 m, .slice a ps.length cap, .int .i64 base, .int .i64 last], .string s] w (Ret w (.string (bstr (s.data.toList.take n)))) := by
  have he1 := isEmpty_size s
  rw [decide_eq_false (by omega)] at he1
  have hkv := kvb_iff.1 hk
  have HV := Lib.hid hkv
  have HN := Lib.hid hn
  have HD := Lib.hid (dfB_first hd hz)
  clear hkv hn
  go_enter Try.func38, Try.ntmps38
  go_wp2_with (first | (go_at_call 59; refine (specKnownValid_any _ _ _ _ _ _ _ _ _ (by repeat (first | exact hr | apply rd_seq | apply Rd.plus | apply Rd.alloc | apply Rd.drew | apply Rd.drewN | refine rd_patch ?_ _ _ (by intro A hA; first | (cases hA; show _ ≠ _; omega) | (have := hal A hA; omega))))).mono ?_; rintro e w' ⟨rfl, xc, rfl⟩) | (go_at_call 74; refine (specDataFits_any _ _ _ _ _ hs2).mono ?_; rintro e w' ⟨rfl, xc, rfl⟩) | (go_at_call 75; refine (l2Longest_any _ _ _ _ _ _ _ _ _ _ (by repeat (first | exact hr | apply rd_seq | apply Rd.plus | apply Rd.alloc | apply Rd.drew | apply Rd.drewN | refine rd_patch ?_ _ _ (by intro A hA; first | (cases hA; show _ ≠ _; omega) | (have := hal A hA; omega)))) HV.out hs2 hz HD.out n HN.out).mono ?_; rintro e w' ⟨rfl, xc, rfl⟩))
  go_ret
  exact Ret.mk (by repeat (first | exact More.refl _ | apply More.plus | apply More.alloc | apply More.drew | apply More.drewN))

theorem implLongestWord_yes (o l m : Int) (a : Option Addr) (cap : Nat) (ps : List Pr) (base last : Int) (s : ByteArray) (w : World) (hr : RdP w a cap ps) (hs2 : s.size ≤ maxLen) (hk : kvb o l m ps base last = true) (hd : dfB o l m s = true) (hz : 0 < s.size) (n : Nat) (hn : IsLon l m ps last s.data.toList n) :
    Calls Try.prog 39 #[.agg #[.int .i64 o, .int .i64 l, .int .i64 m, .slice a ps.length cap, .int .i64 base, .int .i64 last], .string s] w (Ret w (.string (bstr (s.data.toList.take n)))) := by
  have he1 := isEmpty_size s
  rw [decide_eq_false (by omega)] at he1
  have hkv := kvb_iff.1 hk
  have hlen := kv_len hk
  have hlast : last = -1 ∨ hw l ps.length last = true := hkv.last.imp (fun h => h.1) id
  have HV := Lib.hid hkv
  have HN := Lib.hid hn
  have HD := Lib.hid (dfB_first hd hz)
  have HM := Lib.hid hs2
  unfold maxLen at hs2
  have HE := Lib.hid (ext_take s n)
  clear hkv hn
  go_enter Try.func39, Try.ntmps39
  go_wp2_with (first | (go_at_call 62; refine (KnownValid_any _ _ _ _ _ _ _ _ _ (by repeat (first | exact hr | apply rd_seq | apply Rd.plus | apply Rd.alloc | apply Rd.drew | apply Rd.drewN | refine rd_patch ?_ _ _ (by intro A hA; first | (cases hA; show _ ≠ _; omega) | (have := hal A hA; omega))))).mono ?_; rintro e w' ⟨rfl, xc, rfl⟩) | (go_at_call 76; refine (DataFits_any _ _ _ _ _ HM.out).mono ?_; rintro e w' ⟨rfl, xc, rfl⟩) | fail)
  refine (newTree_any _ _ _ _ _ _ _ _ _ (by repeat (first | exact hr | apply rd_seq | apply Rd.plus | apply Rd.alloc | apply Rd.drew | apply Rd.drewN | refine rd_patch ?_ _ _ (by intro A hA; first | (cases hA; show _ ≠ _; omega) | (have := hal A hA; omega)))) HV.out.s HV.out.ok hlen).mono ?_
  rintro e w' ⟨t, pa, pc, na, nc, qa, qc, N, pn, rfl, htk, g1, g2, g3, g4, x2, rfl⟩
  simp only [plus_plus] at htk
  have HT := Lib.hid htk
  clear htk g2 g3 g4
  go_wp2_with fail
  refine (longest_any s _ (by repeat (first | (with_reducible exact HT.out) | (with_reducible apply tk_seq) | (with_reducible apply Tk.plus) | (with_reducible apply Tk.alloc) | (with_reducible apply Tk.drew))) hlast hz HM.out HD.out).mono ?_
  rintro e w' ⟨cc, n', rfl, hl1, hl2, x3, rfl⟩
  obtain rfl := HN.out.eq hl1
  have hn2 := hl1.2.1
  rw [bytes_len] at hn2
  clear hl1 hl2
  go_wp2
  go_ret
  exact ret_of (by rw [← HE.out]; rfl) (by repeat (first | exact More.refl _ | apply More.plus | apply More.alloc | apply More.drew | apply More.drewN))

end Go.Proofs.Ytbedikodiboofaa
