/- The walks of tree.codeOf, CodeOfWord, LongestWord and what they need of data. -/
import Derived.Test.YtbedikodiboofaaTlo
import Derived.Test.YtbedikodiboofaaTnw
import Derived.Test.YtbedikodiboofaaBit
namespace Go.Proofs.Ytbedikodiboofaa
open Go.RowKit
set_option linter.unusedVariables false
set_option linter.unusedSimpArgs false

theorem IsFnd.pos {l m : Int} {ps : List Pr} {last : Int} {d : List UInt8} {n : Nat} {c : Int} (h : IsLon l m ps last d n) (hc : IsFnd l m ps last (d.take n) c) (h0 : 2 ≤ two l) : 0 ≤ c := by
  rcases hc with ⟨_, h2⟩ | ⟨h2, _⟩
  · obtain ⟨c', h3, h4⟩ := h.2.2.1
    exact absurd h4 (h2 c' h3)
  · exact h2.nonneg h0

/-- a code, and whether there is one -/
def codeV (c : Int) : Value := .tuple #[.int .i64 (if c < 0 then 0 else c), .bool (decide (0 ≤ c))]

theorem codeV_no : codeV (-1) = .tuple #[.int .i64 0, .bool false] := rfl

theorem codeV_yes {c : Int} (h : 0 ≤ c) : codeV c = .tuple #[.int .i64 c, .bool true] := by
  unfold codeV
  rw [if_neg (by omega), decide_eq_true h]

set_option maxRecDepth 100000 in
set_option maxHeartbeats 1000000 in
theorem codeOf_any {t : Nat} {pa : Option Addr} {pc : Nat} {na : Option Addr} {nc : Nat} {qa : Option Addr} {qc : Nat} {o l m : Int} {ps : List Pr} {base last : Int} {N : List Nd} {pn : List Int} (s : ByteArray) (w : World)
    (h : Tk w t pa pc na nc qa qc o l m ps base last N pn) (hlast : last = -1 ∨ hw l ps.length last = true) (hs2 : s.size ≤ maxLen) (c : Int) (hc : IsFnd l m ps last s.data.toList c) :
    Calls Try.prog 72 #[.pointer (some ⟨t, 0, none⟩), .string s] w (Ret w (codeV c)) := by
  obtain ⟨l1, l2, l3, l4, t1, t2, t3, t4⟩ := h.lit
  obtain ⟨ht, c0, c1, c2, c3, c4, c5, c6, c7⟩ := h.at'.cells
  have hs := h.s
  have HT := Lib.hid h
  have HC := Lib.hid hc
  have HM := Lib.hid hs2
  have HOK := Lib.hid h.ok
  unfold maxLen at hs2
  have he1 := isEmpty_size s
  clear h hc
  by_cases hz : s.size = 0
  · have HN := Lib.hid (fnd_none (m := m) (ps := ps) (last := last) (w := s.data.toList) HOK.out t1 t2 hlast (fun x hx => by
      have : s.data.toList = [] := List.eq_nil_of_length_eq_zero (by rw [bytes_len]; exact hz)
      rw [this] at hx; simp at hx))
    obtain rfl := HC.out.eq HN.out
    rw [decide_eq_true hz] at he1
    clear hz
    go_enter Try.func72, Try.ntmps72
    go_wp2
    (refine wp_region_calm (by kernel_rfl) (by kernel_rfl) ?_
     repeat (first | go_big_quiet_skip | (go_big_quiet_want; go_big_quiet_op; first | go_big_quiet_on | (apply Exists.intro; refine ⟨fun _ => ?_, ?_⟩; (focus (fail)); go_big_quiet_on)))
     refine wpQuiet_nil ?_
     intro _ hw'
     obtain ⟨xq, hw''⟩ := hw'
     subst hw'')
    go_wp2
    go_ret2
    exact ret_of codeV_no.symm (by repeat (first | exact More.refl _ | apply More.plus | apply More.alloc | apply More.drew | apply More.drewN))
  · have hpos : 0 < s.size := by omega
    rw [decide_eq_false hz] at he1
    have b0 := s[0].toNat_lt
    clear hz
    rcases dec (two l ≤ (s[0].toNat : Int)) with ⟨g1, v1⟩ | ⟨g1, v1⟩
    · have HN := Lib.hid (fnd_none (m := m) (ps := ps) (last := last) (w := s.data.toList) HOK.out t1 t2 hlast (fun x hx => by
        have h0 := bytes_get hpos
        rw [List.head?_eq_getElem?, List.getElem?_eq_getElem (by rw [bytes_len]; exact hpos), h0] at hx
        cases hx; omega))
      obtain rfl := HC.out.eq HN.out
      go_enter Try.func72, Try.ntmps72
      go_wp2
      (refine wp_region_calm (by kernel_rfl) (by kernel_rfl) ?_
       repeat (first | go_big_quiet_skip | (go_big_quiet_want; go_big_quiet_op; first | go_big_quiet_on | (apply Exists.intro; refine ⟨fun _ => ?_, ?_⟩; (focus ((first | (go_at_call 97; first | refine calm_of (ClearCode_yes _ _ _ hs _) | refine calm_seq (ClearCode_yes _ _ _ hs _))))); go_big_quiet_on)))
       refine wpQuiet_nil ?_
       intro _ hw'
       obtain ⟨xq, hw''⟩ := hw'
       subst hw'')
      go_wp2
      go_ret2
      exact ret_of codeV_no.symm (by repeat (first | exact More.refl _ | apply More.plus | apply More.alloc | apply More.drew | apply More.drewN))
    · go_enter Try.func72, Try.ntmps72
      go_wp2
      (refine wp_region_calm (by kernel_rfl) (by kernel_rfl) ?_
       repeat (first | go_big_quiet_skip | (go_big_quiet_want; go_big_quiet_op; first | go_big_quiet_on | (apply Exists.intro; refine ⟨fun _ => ?_, ?_⟩; (focus ((first | (go_at_call 97; first | refine calm_of (ClearCode_yes _ _ _ hs _) | refine calm_seq (ClearCode_yes _ _ _ hs _))))); go_big_quiet_on)))
       refine wpQuiet_nil ?_
       intro _ hw'
       obtain ⟨xq, hw''⟩ := hw'
       subst hw'')
      go_wp2_with fail
      refine (longest_any s _ (by repeat (first | (with_reducible exact HT.out) | (with_reducible apply tk_seq) | (with_reducible apply Tk.plus) | (with_reducible apply Tk.alloc) | (with_reducible apply Tk.drew))) hlast hpos HM.out (by omega)).mono ?_
      rintro e w' ⟨cc, n, rfl, hl1, hl2, x, rfl⟩
      have hn2 := hl1.2.1
      rw [bytes_len] at hn2
      have hn1 := hl1.1
      rcases dec ((n : Int) < (s.size : Int)) with ⟨g2, v2⟩ | ⟨g2, v2⟩
      · obtain rfl := HC.out.eq (fnd_longer hl1 (by rw [bytes_len]; omega))
        clear hl1 hl2
        go_wp2
        go_ret2
        exact ret_of codeV_no.symm (by repeat (first | exact More.refl _ | apply More.plus | apply More.alloc | apply More.drew | apply More.drewN))
      · have hcp := hl2.pos hl1 t1
        rw [List.take_of_length_le (by rw [bytes_len]; omega)] at hl2
        obtain rfl := HC.out.eq hl2
        have HCP := Lib.hid (codeV_yes hcp)
        clear hl1 hl2
        go_wp2
        go_ret2
        exact ret_of (by rw [HCP.out]; rfl) (by repeat (first | exact More.refl _ | apply More.plus | apply More.alloc | apply More.drew | apply More.drewN))

set_option maxHeartbeats 1000000 in
theorem implCodeOfWord_yes (o l m : Int) (a : Option Addr) (cap : Nat) (ps : List Pr) (base last : Int) (s : ByteArray) (w : World) (hr : RdP w a cap ps) (hk : kvb o l m ps base last = true) (hs2 : s.size ≤ maxLen) (c : Int) (hc : IsFnd l m ps last s.data.toList c) :
    Calls Try.prog 35 #[.agg #[.int .i64 o, .int .i64 l, .int .i64 m, .slice a ps.length cap, .int .i64 base, .int .i64 last], .string s] w (Ret w (codeV c)) := by
  have hkv := kvb_iff.1 hk
  have hlen := kv_len hk
  have hlast : last = -1 ∨ hw l ps.length last = true := hkv.last.imp (fun h => h.1) id
  go_enter Try.func35, Try.ntmps35
  go_wp2_with fail
  refine (KnownValid_any _ _ _ _ _ _ _ _ _ (by repeat (first | exact hr | apply rd_seq | apply Rd.plus | apply Rd.alloc | apply Rd.drew | apply Rd.drewN | refine rd_patch ?_ _ _ (by intro A hA; first | (cases hA; show _ ≠ _; omega) | (have := hal A hA; omega))))).mono ?_
  rintro e w' ⟨rfl, x1, rfl⟩
  go_wp2_with fail
  refine (newTree_any _ _ _ _ _ _ _ _ _ (by repeat (first | exact hr | apply rd_seq | apply Rd.plus | apply Rd.alloc | apply Rd.drew | apply Rd.drewN | refine rd_patch ?_ _ _ (by intro A hA; first | (cases hA; show _ ≠ _; omega) | (have := hal A hA; omega)))) hkv.s hkv.ok hlen).mono ?_
  rintro e w' ⟨t, pa, pc, na, nc, qa, qc, N, pn, rfl, htk, g1, g2, g3, g4, x2, rfl⟩
  simp only [plus_plus] at htk
  have HT := Lib.hid htk
  clear htk g2 g3 g4
  go_wp2_with fail
  refine (codeOf_any s _ (by repeat (first | (with_reducible exact HT.out) | (with_reducible apply tk_seq) | (with_reducible apply Tk.plus) | (with_reducible apply Tk.alloc) | (with_reducible apply Tk.drew))) hlast hs2 c hc).mono ?_
  rintro e w' ⟨rfl, x3, rfl⟩
  have hcc : c = -1 ∨ 0 ≤ c := by
    obtain ⟨_, q1, q2, _, _⟩ := sv_iff.1 hkv.s
    rcases hc with ⟨h, _⟩ | ⟨h, _⟩
    · exact .inl h
    · exact .inr (h.nonneg (two_lit q1 q2).1)
  have HK := Lib.hid hkv
  clear hc hk hkv
  rcases hcc with rfl | hcp
  · rw [codeV_no]
    go_wp2
    go_ret2
    exact ret_of codeV_no.symm (by repeat (first | exact More.refl _ | apply More.plus | apply More.alloc | apply More.drew | apply More.drewN))
  · have HCP := Lib.hid (codeV_yes hcp)
    rw [HCP.out]
    go_wp2
    go_ret2
    exact ret_of (by rw [HCP.out]; rfl) (by repeat (first | exact More.refl _ | apply More.plus | apply More.alloc | apply More.drew | apply More.drewN))

theorem implCodeOfWord_no (o l m : Int) (a : Option Addr) (cap : Nat) (ps : List Pr) (base last : Int) (s : ByteArray) (w : World) (hr : RdP w a cap ps) (hk : kvb o l m ps base last = false) :
    Calls Try.prog 35 #[.agg #[.int .i64 o, .int .i64 l, .int .i64 m, .slice a ps.length cap, .int .i64 base, .int .i64 last], .string s] w (Ret w (codeV (-1))) := by
  go_enter Try.func35, Try.ntmps35
  go_wp2_with (go_at_call 62; refine (KnownValid_any _ _ _ _ _ _ _ _ _ (by repeat (first | exact hr | apply rd_seq | apply Rd.plus | apply Rd.alloc | apply Rd.drew | apply Rd.drewN | refine rd_patch ?_ _ _ (by intro A hA; first | (cases hA; show _ ≠ _; omega) | (have := hal A hA; omega))))).mono ?_; rintro e w' ⟨rfl, xc, rfl⟩)
  go_ret2
  exact ret_of codeV_no.symm (by repeat (first | exact More.refl _ | apply More.plus | apply More.alloc | apply More.drew | apply More.drewN))

end Go.Proofs.Ytbedikodiboofaa
