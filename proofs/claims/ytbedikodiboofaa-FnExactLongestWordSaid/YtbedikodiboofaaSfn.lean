/- The walks of spec.l2Any, l2Find and CodeOfWord. -/
import Derived.Test.YtbedikodiboofaaTrl
import Derived.Test.YtbedikodiboofaaBit
import Derived.Test.YtbedikodiboofaaTco
namespace Go.Proofs.Ytbedikodiboofaa
open Go.RowKit
set_option linter.unusedVariables false
set_option linter.unusedSimpArgs false

/-- the string of bytes -/
def bstr (x : List UInt8) : ByteArray := ⟨x.toArray⟩

theorem bstr_bytes (s : ByteArray) : bstr s.data.toList = s := by cases s; simp [bstr]

theorem bytes_bstr (x : List UInt8) : (bstr x).data.toList = x := by simp [bstr]

theorem bstr_size (x : List UInt8) : (bstr x).size = x.length := by show (List.toArray x).size = _; simp

theorem lkw_W (l : Int) (ps : List Pr) (c : Int) : lkw l (wordsL l ps) c = bstr (W l ps c) := (bstr_bytes _).symm

theorem bstr_app (x y : List UInt8) : bstr x ++ bstr y = bstr (x ++ y) := ByteArray.ext (by simp [bstr])

theorem bstr_pre (x : List UInt8) (n : Nat) : (bstr x).extract 0 n = bstr (x.take n) := ByteArray.ext (by simp [bstr])

theorem W_len {l : Int} {ps : List Pr} {c : Int} (h : hw l ps.length c = true) : (W l ps c).length ≤ ps.length + 2 := wb_len h

set_option maxHeartbeats 1000000 in
theorem l2Any_any (o l m : Int) (a : Option Addr) (cap : Nat) (ps : List Pr) (base last : Int) (c : Int) (w : World) (hr : RdP w a cap ps) (hkv : KV o l m ps base last) (hc : Okc l m ps.length last c) :
    Calls Try.prog 101 #[.agg #[.int .i64 o, .int .i64 l, .int .i64 m, .slice a ps.length cap, .int .i64 base, .int .i64 last], .int .i64 c] w (Ret w (.string (bstr (anyW l ps last c)))) := by
  have hlen := kv_len (kvb_iff.2 hkv)
  have hs := hkv.s
  by_cases hcn : c = nw l ps.length
  · have hl : hw l ps.length last = true := by
      rcases hc with h | ⟨hg, _⟩
      · have := hw_iff.1 h
        unfold nw at hcn; omega
      · rcases hkv.last with ⟨rfl, _⟩ | h
        · exact absurd rfl (grB_iff.1 hg).1
        · exact h
    have hW := Lib.hid (W_len hl)
    have hw1 := W_pos hkv.ok hl
    have hw2 := hW.out
    have z1 : (bstr (W l ps last)).size ≤ 3000 := by rw [bstr_size]; omega
    have z2 : 1 ≤ (bstr (W l ps last)).size := by rw [bstr_size]; omega
    have v1 : (c == nw l ps.length) = true := by simp [hcn]
    have HV := Lib.hid hkv
    have HA := Lib.hid (any_nw (l := l) (ps := ps) (last := last))
    rw [← hcn] at HA
    clear hc hkv hcn
    go_enter Try.func101, Try.ntmps101
    go_wp2_with (first | (go_at_call 118; refine (l2Next_any _ _ _ _ _ _ _ _ _ hs (by omega)).mono ?_; rintro e w' ⟨rfl, xc, rfl⟩) | (go_at_call 99; refine (l2Word_any (hr := (by repeat (first | exact hr | apply rd_seq | apply Rd.plus | apply Rd.alloc | apply Rd.drew | apply Rd.drewN | refine rd_patch ?_ _ _ (by intro A hA; first | (cases hA; show _ ≠ _; omega) | (have := hal A hA; omega))))) (hkv := HV.out) (hc0 := hl)).mono ?_; rintro e w' ⟨rfl, x, rfl⟩; rw [lkw_W]))
    go_ret
    exact ret_of (by rw [HA.out, ← bstr_app, bstr_pre]; rfl) (by repeat (first | exact More.refl _ | apply More.plus | apply More.alloc | apply More.drew | apply More.drewN))
  · have hl : hw l ps.length c = true := by
      rcases hc with h | ⟨_, h⟩
      · exact h
      · exact absurd h hcn
    have v1 : (c == nw l ps.length) = false := by simp [hcn]
    have HV := Lib.hid hkv
    have HA := Lib.hid (any_hw (last := last) hl)
    clear hc hkv hcn
    go_enter Try.func101, Try.ntmps101
    go_wp2_with (first | (go_at_call 118; refine (l2Next_any _ _ _ _ _ _ _ _ _ hs (by omega)).mono ?_; rintro e w' ⟨rfl, xc, rfl⟩) | (go_at_call 99; refine (l2Word_any (hr := (by repeat (first | exact hr | apply rd_seq | apply Rd.plus | apply Rd.alloc | apply Rd.drew | apply Rd.drewN | refine rd_patch ?_ _ _ (by intro A hA; first | (cases hA; show _ ≠ _; omega) | (have := hal A hA; omega))))) (hkv := HV.out) (hc0 := hl)).mono ?_; rintro e w' ⟨rfl, x, rfl⟩; rw [lkw_W]))
    go_ret
    exact ret_of (by rw [HA.out]; rfl) (by repeat (first | exact More.refl _ | apply More.plus | apply More.alloc | apply More.drew | apply More.drewN))

/-- the literal is the least code of its word -/
theorem fnd_lit {l m : Int} {ps : List Pr} {last : Int} {x : UInt8} (hok : OKs l ps) (h1 : two l ≤ 256) (hx : (x.toNat : Int) < two l) : IsFnd l m ps last [x] (x.toNat : Int) := by
  have hw0 : hw l ps.length (x.toNat : Int) = true := hw_iff.2 (by omega)
  refine .inr ⟨.inl hw0, ?_, fun c' hc' he => ?_⟩
  · rw [any_hw hw0, W_lit (by omega)]
    simp
  · rcases hc' with hc' | ⟨_, rfl⟩
    · rw [any_hw hc'] at he
      have := hw_iff.1 hc'
      by_cases h2 : two l + 1 < c'
      · omega
      · rw [W_lit h2] at he
        simp only [List.cons.injEq, and_true] at he
        have h3 := congrArg UInt8.toNat he
        rw [UInt8.toNat_ofNat'] at h3
        omega
    · unfold nw; omega

/-- codes below k (and behind the end code) have another word -/
def NoFnd (l m : Int) (ps : List Pr) (last : Int) (w : List UInt8) (k : Int) : Prop := ∀ c', Okc l m ps.length last c' → c' < k → anyW l ps last c' ≠ w

theorem okc_range {l m : Int} {n : Nat} {last c : Int} (h0 : two l + 2 ≤ c) (h1 : c ≤ gt l m n last) : Okc l m n last c := by
  unfold gt at h1
  split at h1
  · rename_i hg
    by_cases h : c = nw l n
    · exact .inr ⟨hg, h⟩
    · exact .inl (hw_iff.2 (by unfold nw at *; omega))
  · exact .inl (hw_iff.2 (by unfold nw at *; omega))

theorem okc_le {l m : Int} {n : Nat} {last c : Int} (h : Okc l m n last c) (h0 : 2 ≤ two l) : c ≤ gt l m n last := by
  unfold gt
  rcases h with h | ⟨hg, rfl⟩
  · have := hw_iff.1 h
    split <;> (unfold nw; omega)
  · rw [if_pos hg]; exact Int.le_refl _

theorem okc_low {l m : Int} {n : Nat} {last c : Int} (h : Okc l m n last c) (h1 : c < two l + 2) : 0 ≤ c ∧ c < two l ∧ hw l n c = true := by
  rcases h with h | ⟨_, rfl⟩
  · have := hw_iff.1 h
    exact ⟨by omega, by omega, h⟩
  · unfold nw at h1; omega

set_option maxRecDepth 100000 in
set_option maxHeartbeats 2000000 in
theorem l2Find_any (o l m : Int) (a : Option Addr) (cap : Nat) (ps : List Pr) (base last : Int) (s : ByteArray) (w : World) (hr : RdP w a cap ps) (hkv : KV o l m ps base last) (hs2 : s.size ≤ maxLen) (c : Int) (hc : IsFnd l m ps last s.data.toList c) :
    Calls Try.prog 70 #[.agg #[.int .i64 o, .int .i64 l, .int .i64 m, .slice a ps.length cap, .int .i64 base, .int .i64 last], .string s] w (Ret w (.int .i64 c)) := by
  unfold maxLen at hs2
  have hlen := kv_len (kvb_iff.2 hkv)
  have hs := hkv.s
  have hlim := hkv.lim
  obtain ⟨l1, l2, m2, lm, t1, t2, t4, t3⟩ := hlim.bds
  have la : 0 ≤ l := by omega
  have lb : l ≤ 10 := by omega
  have hlast := hlim.last
  have HV := Lib.hid hkv
  have HC := Lib.hid hc
  clear hkv hc hlim
  by_cases hfirst : ∃ h : s.size = 1, (s[0].toNat : Int) < two l
  · obtain ⟨h1, h2⟩ := hfirst
    have hb : s.data.toList = [s[0]] := by
      have h0 := bytes_get (s := s) (k := 0) (by omega)
      have hl : s.data.toList.length = 1 := by rw [bytes_len]; exact h1
      match hd : s.data.toList, hl with
      | [x], _ => simp only [hd, List.getElem_cons_zero] at h0; rw [h0]
    have hf := fnd_lit (m := m) (last := last) HV.out.ok t2 h2
    rw [← hb] at hf
    have hce := HC.out.eq hf
    have v1 : ((s.size : Int) == 1) = true := by simp; omega
    have hpos : 0 < s.size := by omega
    have h2' : ((s[0]'hpos).toNat : Int) < two l := h2
    have hb0 := (s[0]'hpos).toNat_lt
    have HCE := Lib.hid (show c = ((s[0]'hpos).toNat : Int) from hce)
    clear hf hce hb h2 h1
    go_enter Try.func70, Try.ntmps70
    go_wp2
    (refine wp_region_calm (by kernel_rfl) (by kernel_rfl) ?_
     repeat (first | go_big_quiet_skip | (go_big_quiet_want; go_big_quiet_op; first | go_big_quiet_on | (apply Exists.intro; refine ⟨fun _ => ?_, ?_⟩; (focus ((first | (go_at_call 92; first | refine calm_of (l1Clear_any _ _ _ la lb _) | refine calm_seq (l1Clear_any _ _ _ la lb _))))); go_big_quiet_on)))
     refine wpQuiet_nil ?_
     intro _ hw'
     obtain ⟨xq, hw''⟩ := hw'
     subst hw'')
    go_wp2
    go_ret
    exact ret_of (int_val HCE.out.symm) (by repeat (first | exact More.refl _ | apply More.plus | apply More.alloc | apply More.drew | apply More.drewN))
  · have hno : NoFnd l m ps last s.data.toList (two l + 2) := fun c' hc' hlt he => by
      obtain ⟨q1, q2, q3⟩ := okc_low hc' hlt
      rw [any_hw q3, W_lit (by omega)] at he
      have hl := congrArg List.length he
      rw [bytes_len] at hl
      simp at hl
      refine hfirst ⟨hl.symm, ?_⟩
      have h0 := bytes_get (s := s) (k := 0) (by omega)
      simp only [← he, List.getElem_cons_zero] at h0
      rw [← h0, UInt8.toNat_ofNat']
      omega
    have HNO := Lib.hid hno
    clear hno
    have hg1 : gt l m ps.length last ≤ 1023 := by
      unfold gt
      split
      · rename_i hg; have := (grB_iff.1 hg).2; omega
      · have := HV.out.len; unfold nw; omega
    have hreg : ∀ (b1 : ((s.size : Int) == 1) = true), ∃ h : 0 < s.size, decide (((s[0]'h).toNat : Int) < two l) = false := fun b1 => by
      have h1 : s.size = 1 := by simp at b1; omega
      refine ⟨by omega, ?_⟩
      simp only [decide_eq_false_iff_not]
      exact fun h2 => hfirst ⟨h1, h2⟩
    clear hfirst
    cases b1 : ((s.size : Int) == 1)
    · clear hreg
      go_enter Try.func70, Try.ntmps70
      go_wp2
      (refine wp_region_calm (by kernel_rfl) (by kernel_rfl) ?_
       repeat (first | go_big_quiet_skip | (go_big_quiet_want; go_big_quiet_op; first | go_big_quiet_on | (apply Exists.intro; refine ⟨fun _ => ?_, ?_⟩; (focus ((first | (go_at_call 92; first | refine calm_of (l1Clear_any _ _ _ la lb _) | refine calm_seq (l1Clear_any _ _ _ la lb _))))); go_big_quiet_on)))
       refine wpQuiet_nil ?_
       intro _ hw'
       obtain ⟨xq, hw''⟩ := hw'
       subst hw'')
      go_wp2_with (go_at_call 90; refine (l1End_any _ _ _ la lb _).mono ?_; rintro e w' ⟨rfl, xc, rfl⟩)
      go_loopw [5] (fun q wr => ∃ (k : Int), q = .int .i64 k ∧ two l + 2 ≤ k ∧ k ≤ gt l m ps.length last + 1 ∧ NoFnd l m ps last s.data.toList k ∧ ∃ x, wr = plus (w.alloc (.cells #[.int .i64 o, .int .i64 l, .int .i64 m, .slice a ps.length cap, .int .i64 base, .int .i64 last] 31)) x) (fun q _ => (gt l m ps.length last + 1 - intOf q).toNat)
      case atStart => exact ⟨two l + 2, by go_num, by omega, by unfold gt nw; split <;> omega, HNO.out, (by repeat (first | exact More.refl _ | apply More.plus | apply More.alloc | apply More.drew | apply More.drewN))⟩
      case round =>
        obtain ⟨k, rfl, hk1, hk2, hno, x, rfl⟩ := hrel
        have HN := Lib.hid hno
        clear hno
        rcases dec (k ≤ gt l m ps.length last) with ⟨g1, v5⟩ | ⟨g1, v5⟩
        · have hok := okc_range hk1 g1
          have HOK := Lib.hid hok
          clear hok
          by_cases he : anyW l ps last k = s.data.toList
          · have HF := Lib.hid (show c = k from HC.out.eq (.inr ⟨HOK.out, he, fun c' hc' he' => by
              rcases Int.lt_or_le c' k with h | h
              · exact absurd he' (HN.out c' hc' h)
              · exact h⟩))
            have v6 : ((bstr (anyW l ps last k)).toList == s.toList) = true := by rw [ByteArray.toList_eq, ByteArray.toList_eq, bytes_bstr, he]; simp
            clear he
            go_wp2_with (first | (go_at_call 100; refine (l2Greatest_any _ _ _ _ _ _ _ _ _ hs (by omega) hlast).mono ?_; rintro e w' ⟨rfl, xc, rfl⟩) | (go_at_call 101; refine (l2Any_any _ _ _ _ _ _ _ _ _ _ (by repeat (first | exact hr | apply rd_seq | apply Rd.plus | apply Rd.alloc | apply Rd.drew | apply Rd.drewN | refine rd_patch ?_ _ _ (by intro A hA; first | (cases hA; show _ ≠ _; omega) | (have := hal A hA; omega)))) HV.out HOK.out).mono ?_; rintro e w' ⟨rfl, xc, rfl⟩))
            go_ret
            exact ret_of (int_val HF.out.symm) (by repeat (first | exact More.refl _ | apply More.plus | apply More.alloc | apply More.drew | apply More.drewN))
          · have HF := Lib.hid (show NoFnd l m ps last s.data.toList (k + 1) from fun c' hc' hlt he' => by
              by_cases h : c' = k
              · subst h; exact he he'
              · exact HN.out c' hc' (by omega) he')
            have v6 : ((bstr (anyW l ps last k)).toList == s.toList) = false := by
              rw [ByteArray.toList_eq, ByteArray.toList_eq, bytes_bstr, beq_eq_false_iff_ne]
              exact he
            clear he
            go_wp2_with (first | (go_at_call 100; refine (l2Greatest_any _ _ _ _ _ _ _ _ _ hs (by omega) hlast).mono ?_; rintro e w' ⟨rfl, xc, rfl⟩) | (go_at_call 101; refine (l2Any_any _ _ _ _ _ _ _ _ _ _ (by repeat (first | exact hr | apply rd_seq | apply Rd.plus | apply Rd.alloc | apply Rd.drew | apply Rd.drewN | refine rd_patch ?_ _ _ (by intro A hA; first | (cases hA; show _ ≠ _; omega) | (have := hal A hA; omega)))) HV.out HOK.out).mono ?_; rintro e w' ⟨rfl, xc, rfl⟩))
            go_roundw
            case rel => exact ⟨k + 1, by go_num, by omega, by omega, HF.out, (by repeat (first | exact More.refl _ | apply More.plus | apply More.alloc | apply More.drew | apply More.drewN))⟩
            case measure => simp [intOf]; omega
        · have HF := Lib.hid (show c = -1 from HC.out.eq (.inl ⟨rfl, fun c' hc' => HN.out c' hc' (by have := okc_le hc' t1; omega)⟩))
          go_wp2_with (first | (go_at_call 100; refine (l2Greatest_any _ _ _ _ _ _ _ _ _ hs (by omega) hlast).mono ?_; rintro e w' ⟨rfl, xc, rfl⟩) | (go_at_call 101; refine (l2Any_any _ _ _ _ _ _ _ _ _ _ (by repeat (first | exact hr | apply rd_seq | apply Rd.plus | apply Rd.alloc | apply Rd.drew | apply Rd.drewN | refine rd_patch ?_ _ _ (by intro A hA; first | (cases hA; show _ ≠ _; omega) | (have := hal A hA; omega)))) HV.out HOK.out).mono ?_; rintro e w' ⟨rfl, xc, rfl⟩))
          go_ret
          exact ret_of (int_val HF.out.symm) (by repeat (first | exact More.refl _ | apply More.plus | apply More.alloc | apply More.drew | apply More.drewN))
    · obtain ⟨hpos, v2⟩ := hreg b1
      have hb0 := (s[0]'hpos).toNat_lt
      clear hreg
      go_enter Try.func70, Try.ntmps70
      go_wp2
      (refine wp_region_calm (by kernel_rfl) (by kernel_rfl) ?_
       repeat (first | go_big_quiet_skip | (go_big_quiet_want; go_big_quiet_op; first | go_big_quiet_on | (apply Exists.intro; refine ⟨fun _ => ?_, ?_⟩; (focus ((first | (go_at_call 92; first | refine calm_of (l1Clear_any _ _ _ la lb _) | refine calm_seq (l1Clear_any _ _ _ la lb _))))); go_big_quiet_on)))
       refine wpQuiet_nil ?_
       intro _ hw'
       obtain ⟨xq, hw''⟩ := hw'
       subst hw'')
      go_wp2_with (go_at_call 90; refine (l1End_any _ _ _ la lb _).mono ?_; rintro e w' ⟨rfl, xc, rfl⟩)
      go_loopw [5] (fun q wr => ∃ (k : Int), q = .int .i64 k ∧ two l + 2 ≤ k ∧ k ≤ gt l m ps.length last + 1 ∧ NoFnd l m ps last s.data.toList k ∧ ∃ x, wr = plus (w.alloc (.cells #[.int .i64 o, .int .i64 l, .int .i64 m, .slice a ps.length cap, .int .i64 base, .int .i64 last] 31)) x) (fun q _ => (gt l m ps.length last + 1 - intOf q).toNat)
      case atStart => exact ⟨two l + 2, by go_num, by omega, by unfold gt nw; split <;> omega, HNO.out, (by repeat (first | exact More.refl _ | apply More.plus | apply More.alloc | apply More.drew | apply More.drewN))⟩
      case round =>
        obtain ⟨k, rfl, hk1, hk2, hno, x, rfl⟩ := hrel
        have HN := Lib.hid hno
        clear hno
        rcases dec (k ≤ gt l m ps.length last) with ⟨g1, v5⟩ | ⟨g1, v5⟩
        · have hok := okc_range hk1 g1
          have HOK := Lib.hid hok
          clear hok
          by_cases he : anyW l ps last k = s.data.toList
          · have HF := Lib.hid (show c = k from HC.out.eq (.inr ⟨HOK.out, he, fun c' hc' he' => by
              rcases Int.lt_or_le c' k with h | h
              · exact absurd he' (HN.out c' hc' h)
              · exact h⟩))
            have v6 : ((bstr (anyW l ps last k)).toList == s.toList) = true := by rw [ByteArray.toList_eq, ByteArray.toList_eq, bytes_bstr, he]; simp
            clear he
            go_wp2_with (first | (go_at_call 100; refine (l2Greatest_any _ _ _ _ _ _ _ _ _ hs (by omega) hlast).mono ?_; rintro e w' ⟨rfl, xc, rfl⟩) | (go_at_call 101; refine (l2Any_any _ _ _ _ _ _ _ _ _ _ (by repeat (first | exact hr | apply rd_seq | apply Rd.plus | apply Rd.alloc | apply Rd.drew | apply Rd.drewN | refine rd_patch ?_ _ _ (by intro A hA; first | (cases hA; show _ ≠ _; omega) | (have := hal A hA; omega)))) HV.out HOK.out).mono ?_; rintro e w' ⟨rfl, xc, rfl⟩))
            go_ret
            exact ret_of (int_val HF.out.symm) (by repeat (first | exact More.refl _ | apply More.plus | apply More.alloc | apply More.drew | apply More.drewN))
          · have HF := Lib.hid (show NoFnd l m ps last s.data.toList (k + 1) from fun c' hc' hlt he' => by
              by_cases h : c' = k
              · subst h; exact he he'
              · exact HN.out c' hc' (by omega) he')
            have v6 : ((bstr (anyW l ps last k)).toList == s.toList) = false := by
              rw [ByteArray.toList_eq, ByteArray.toList_eq, bytes_bstr, beq_eq_false_iff_ne]
              exact he
            clear he
            go_wp2_with (first | (go_at_call 100; refine (l2Greatest_any _ _ _ _ _ _ _ _ _ hs (by omega) hlast).mono ?_; rintro e w' ⟨rfl, xc, rfl⟩) | (go_at_call 101; refine (l2Any_any _ _ _ _ _ _ _ _ _ _ (by repeat (first | exact hr | apply rd_seq | apply Rd.plus | apply Rd.alloc | apply Rd.drew | apply Rd.drewN | refine rd_patch ?_ _ _ (by intro A hA; first | (cases hA; show _ ≠ _; omega) | (have := hal A hA; omega)))) HV.out HOK.out).mono ?_; rintro e w' ⟨rfl, xc, rfl⟩))
            go_roundw
            case rel => exact ⟨k + 1, by go_num, by omega, by omega, HF.out, (by repeat (first | exact More.refl _ | apply More.plus | apply More.alloc | apply More.drew | apply More.drewN))⟩
            case measure => simp [intOf]; omega
        · have HF := Lib.hid (show c = -1 from HC.out.eq (.inl ⟨rfl, fun c' hc' => HN.out c' hc' (by have := okc_le hc' t1; omega)⟩))
          go_wp2_with (first | (go_at_call 100; refine (l2Greatest_any _ _ _ _ _ _ _ _ _ hs (by omega) hlast).mono ?_; rintro e w' ⟨rfl, xc, rfl⟩) | (go_at_call 101; refine (l2Any_any _ _ _ _ _ _ _ _ _ _ (by repeat (first | exact hr | apply rd_seq | apply Rd.plus | apply Rd.alloc | apply Rd.drew | apply Rd.drewN | refine rd_patch ?_ _ _ (by intro A hA; first | (cases hA; show _ ≠ _; omega) | (have := hal A hA; omega)))) HV.out HOK.out).mono ?_; rintro e w' ⟨rfl, xc, rfl⟩))
          go_ret
          exact ret_of (int_val HF.out.symm) (by repeat (first | exact More.refl _ | apply More.plus | apply More.alloc | apply More.drew | apply More.drewN))

end Go.Proofs.Ytbedikodiboofaa
