/- Lemmas and walks, part Ge. -/
import Derived.Test.YtkpmaifdeeecjaaGc
import Derived.Test.YtkpmaifdeeecjaaGd
import Derived.Test.YtkpmaifdeeecjaaGa

/- The walks of spec.l2Any, l2Find and CodeOfWord. -/
namespace Go.Proofs.Ytkpmaifdeeecjaa
open Go.RowKit
set_option linter.unusedVariables false
set_option linter.unusedSimpArgs false

/-- the string of bytes -/
def bstr (x : List UInt8) : ByteArray := ⟨x.toArray⟩

theorem bstr_bytes (s : ByteArray) : bstr s.data.toList = s := by cases s; simp [bstr]

theorem bytes_bstr (x : List UInt8) : (bstr x).data.toList = x := by simp [bstr]

theorem bstr_size (x : List UInt8) : (bstr x).size = x.length := by show (List.toArray x).size = _; simp

theorem lkw_W (l : Int) (ps : List Pr) (c : Int) : lkw l (wordsL l ps) c = bstr (W l ps c) := (bstr_bytes _).symm

theorem bstr_app (x y : List UInt8) : bstr x ++ bstr y = bstr (x ++ y) := ByteArray.ext (by simp [bstr])

theorem bstr_pre (x : List UInt8) (n : Nat) : (bstr x).extract 0 n = bstr (x.take n) := ByteArray.ext (by simp [bstr])

theorem W_len {l : Int} {ps : List Pr} {c : Int} (h : hw l ps.length c = true) : (W l ps c).length ≤ ps.length + 2 := wb_len h

set_option maxHeartbeats 1000000 in
theorem l2Any_any (o l m : Int) (a : Option Addr) (cap : Nat) (ps : List Pr) (base last : Int) (c : Int) (w : World) (hr : RdP w a cap ps) (hkv : KV o l m ps base last) (hc : Okc l m ps.length last c) :
    Calls Try.prog 48 #[.agg #[.int .i64 o, .int .i64 l, .int .i64 m, .slice a ps.length cap, .int .i64 base, .int .i64 last], .int .i64 c] w (Ret w (.string (bstr (anyW l ps last c)))) := by
  have hlen := kv_len (kvb_iff.2 hkv)
  have hs := hkv.s
  by_cases hcn : c = nw l ps.length
  · have hl : hw l ps.length last = true := by
      rcases hc with h | ⟨hg, _⟩
      · have := hw_iff.1 h
        unfold nw at hcn; omega
      · rcases hkv.last with ⟨rfl, _⟩ | h
        · exact absurd rfl (grB_iff.1 hg).1
        · exact h
    have hW := Lib.hid (W_len hl)
    have hw1 := W_pos hkv.ok hl
    have hw2 := hW.out
    have z1 : (bstr (W l ps last)).size ≤ 3000 := by rw [bstr_size]; omega
    have z2 : 1 ≤ (bstr (W l ps last)).size := by rw [bstr_size]; omega
    have v1 : (c == nw l ps.length) = true := by simp [hcn]
    have HV := Lib.hid hkv
    have HA := Lib.hid (any_nw (l := l) (ps := ps) (last := last))
    rw [← hcn] at HA
    clear hc hkv hcn
    go_enter Try.func48, Try.ntmps48
    go_wp2_with (first | (go_at_call 31; refine (l2Next_any _ _ _ _ _ _ _ _ _ hs (by omega)).mono ?_; rintro e w' ⟨rfl, xc, rfl⟩) | (go_at_call 36; refine (l2Word_any (hr := (by repeat (first | exact hr | apply rd_seq | apply Rd.plus | apply Rd.alloc | apply Rd.drew | apply Rd.drewN | refine rd_patch ?_ _ _ (by intro A hA; first | (cases hA; show _ ≠ _; omega) | (have := hal A hA; omega))))) (hkv := HV.out) (hc0 := hl)).mono ?_; rintro e w' ⟨rfl, x, rfl⟩; rw [lkw_W]))
    go_ret
    exact ret_of (by rw [HA.out, ← bstr_app, bstr_pre]; rfl) (by repeat (first | exact More.refl _ | apply More.plus | apply More.alloc | apply More.drew | apply More.drewN))
  · have hl : hw l ps.length c = true := by
      rcases hc with h | ⟨_, h⟩
      · exact h
      · exact absurd h hcn
    have v1 : (c == nw l ps.length) = false := by simp [hcn]
    have HV := Lib.hid hkv
    have HA := Lib.hid (any_hw (last := last) hl)
    clear hc hkv hcn
    go_enter Try.func48, Try.ntmps48
    go_wp2_with (first | (go_at_call 31; refine (l2Next_any _ _ _ _ _ _ _ _ _ hs (by omega)).mono ?_; rintro e w' ⟨rfl, xc, rfl⟩) | (go_at_call 36; refine (l2Word_any (hr := (by repeat (first | exact hr | apply rd_seq | apply Rd.plus | apply Rd.alloc | apply Rd.drew | apply Rd.drewN | refine rd_patch ?_ _ _ (by intro A hA; first | (cases hA; show _ ≠ _; omega) | (have := hal A hA; omega))))) (hkv := HV.out) (hc0 := hl)).mono ?_; rintro e w' ⟨rfl, x, rfl⟩; rw [lkw_W]))
    go_ret
    exact ret_of (by rw [HA.out]; rfl) (by repeat (first | exact More.refl _ | apply More.plus | apply More.alloc | apply More.drew | apply More.drewN))

/-- the literal is the least code of its word -/
theorem fnd_lit {l m : Int} {ps : List Pr} {last : Int} {x : UInt8} (hok : OKs l ps) (h1 : two l ≤ 256) (hx : (x.toNat : Int) < two l) : IsFnd l m ps last [x] (x.toNat : Int) := by
  have hw0 : hw l ps.length (x.toNat : Int) = true := hw_iff.2 (by omega)
  refine .inr ⟨.inl hw0, ?_, fun c' hc' he => ?_⟩
  · rw [any_hw hw0, W_lit (by omega)]
    simp
  · rcases hc' with hc' | ⟨_, rfl⟩
    · rw [any_hw hc'] at he
      have := hw_iff.1 hc'
      by_cases h2 : two l + 1 < c'
      · omega
      · rw [W_lit h2] at he
        simp only [List.cons.injEq, and_true] at he
        have h3 := congrArg UInt8.toNat he
        rw [UInt8.toNat_ofNat'] at h3
        omega
    · unfold nw; omega

/-- codes below k (and behind the end code) have another word -/
def NoFnd (l m : Int) (ps : List Pr) (last : Int) (w : List UInt8) (k : Int) : Prop := ∀ c', Okc l m ps.length last c' → c' < k → anyW l ps last c' ≠ w

theorem okc_range {l m : Int} {n : Nat} {last c : Int} (h0 : two l + 2 ≤ c) (h1 : c ≤ gt l m n last) : Okc l m n last c := by
  unfold gt at h1
  split at h1
  · rename_i hg
    by_cases h : c = nw l n
    · exact .inr ⟨hg, h⟩
    · exact .inl (hw_iff.2 (by unfold nw at *; omega))
  · exact .inl (hw_iff.2 (by unfold nw at *; omega))

theorem okc_le {l m : Int} {n : Nat} {last c : Int} (h : Okc l m n last c) (h0 : 2 ≤ two l) : c ≤ gt l m n last := by
  unfold gt
  rcases h with h | ⟨hg, rfl⟩
  · have := hw_iff.1 h
    split <;> (unfold nw; omega)
  · rw [if_pos hg]; exact Int.le_refl _

theorem okc_low {l m : Int} {n : Nat} {last c : Int} (h : Okc l m n last c) (h1 : c < two l + 2) : 0 ≤ c ∧ c < two l ∧ hw l n c = true := by
  rcases h with h | ⟨_, rfl⟩
  · have := hw_iff.1 h
    exact ⟨by omega, by omega, h⟩
  · unfold nw at h1; omega

set_option maxRecDepth 100000 in
set_option maxHeartbeats 2000000 in
theorem l2Find_any (o l m : Int) (a : Option Addr) (cap : Nat) (ps : List Pr) (base last : Int) (s : ByteArray) (w : World) (hr : RdP w a cap ps) (hkv : KV o l m ps base last) (hs2 : s.size ≤ maxLen) (c : Int) (hc : IsFnd l m ps last s.data.toList c) :
    Calls Try.prog 46 #[.agg #[.int .i64 o, .int .i64 l, .int .i64 m, .slice a ps.length cap, .int .i64 base, .int .i64 last], .string s] w (Ret w (.int .i64 c)) := by
  unfold maxLen at hs2
  have hlen := kv_len (kvb_iff.2 hkv)
  have hs := hkv.s
  have hlim := hkv.lim
  obtain ⟨l1, l2, m2, lm, t1, t2, t4, t3⟩ := hlim.bds
  have la : 0 ≤ l := by omega
  have lb : l ≤ 10 := by omega
  have hlast := hlim.last
  have HV := Lib.hid hkv
  have HC := Lib.hid hc
  clear hkv hc hlim
  by_cases hfirst : ∃ h : s.size = 1, (s[0].toNat : Int) < two l
  · obtain ⟨h1, h2⟩ := hfirst
    have hb : s.data.toList = [s[0]] := by
      have h0 := bytes_get (s := s) (k := 0) (by omega)
      have hl : s.data.toList.length = 1 := by rw [bytes_len]; exact h1
      match hd : s.data.toList, hl with
      | [x], _ => simp only [hd, List.getElem_cons_zero] at h0; rw [h0]
    have hf := fnd_lit (m := m) (last := last) HV.out.ok t2 h2
    rw [← hb] at hf
    have hce := HC.out.eq hf
    have v1 : ((s.size : Int) == 1) = true := by simp; omega
    have hpos : 0 < s.size := by omega
    have h2' : ((s[0]'hpos).toNat : Int) < two l := h2
    have hb0 := (s[0]'hpos).toNat_lt
    have HCE := Lib.hid (show c = ((s[0]'hpos).toNat : Int) from hce)
    clear hf hce hb h2 h1
    go_enter Try.func46, Try.ntmps46
    go_wp2
    (refine wp_region_calm (by kernel_rfl) (by kernel_rfl) ?_
     repeat (first | go_big_quiet_skip | (go_big_quiet_want; go_big_quiet_op; first | go_big_quiet_on | (apply Exists.intro; refine ⟨fun _ => ?_, ?_⟩; (focus ((first | (go_at_call 28; first | refine calm_of (l1Clear_any _ _ _ la lb _) | refine calm_seq (l1Clear_any _ _ _ la lb _))))); go_big_quiet_on)))
     refine wpQuiet_nil ?_
     intro _ hw'
     obtain ⟨xq, hw''⟩ := hw'
     subst hw'')
    go_wp2
    go_ret
    exact ret_of (int_val HCE.out.symm) (by repeat (first | exact More.refl _ | apply More.plus | apply More.alloc | apply More.drew | apply More.drewN))
  · have hno : NoFnd l m ps last s.data.toList (two l + 2) := fun c' hc' hlt he => by
      obtain ⟨q1, q2, q3⟩ := okc_low hc' hlt
      rw [any_hw q3, W_lit (by omega)] at he
      have hl := congrArg List.length he
      rw [bytes_len] at hl
      simp at hl
      refine hfirst ⟨hl.symm, ?_⟩
      have h0 := bytes_get (s := s) (k := 0) (by omega)
      simp only [← he, List.getElem_cons_zero] at h0
      rw [← h0, UInt8.toNat_ofNat']
      omega
    have HNO := Lib.hid hno
    clear hno
    have hg1 : gt l m ps.length last ≤ 1023 := by
      unfold gt
      split
      · rename_i hg; have := (grB_iff.1 hg).2; omega
      · have := HV.out.len; unfold nw; omega
    have hreg : ∀ (b1 : ((s.size : Int) == 1) = true), ∃ h : 0 < s.size, decide (((s[0]'h).toNat : Int) < two l) = false := fun b1 => by
      have h1 : s.size = 1 := by simp at b1; omega
      refine ⟨by omega, ?_⟩
      simp only [decide_eq_false_iff_not]
      exact fun h2 => hfirst ⟨h1, h2⟩
    clear hfirst
    cases b1 : ((s.size : Int) == 1)
    · clear hreg
      go_enter Try.func46, Try.ntmps46
      go_wp2
      (refine wp_region_calm (by kernel_rfl) (by kernel_rfl) ?_
       repeat (first | go_big_quiet_skip | (go_big_quiet_want; go_big_quiet_op; first | go_big_quiet_on | (apply Exists.intro; refine ⟨fun _ => ?_, ?_⟩; (focus ((first | (go_at_call 28; first | refine calm_of (l1Clear_any _ _ _ la lb _) | refine calm_seq (l1Clear_any _ _ _ la lb _))))); go_big_quiet_on)))
       refine wpQuiet_nil ?_
       intro _ hw'
       obtain ⟨xq, hw''⟩ := hw'
       subst hw'')
      go_wp2_with (go_at_call 30; refine (l1End_any _ _ _ la lb _).mono ?_; rintro e w' ⟨rfl, xc, rfl⟩)
      go_loopw [5] (fun q wr => ∃ (k : Int), q = .int .i64 k ∧ two l + 2 ≤ k ∧ k ≤ gt l m ps.length last + 1 ∧ NoFnd l m ps last s.data.toList k ∧ ∃ x, wr = plus (w.alloc (.cells #[.int .i64 o, .int .i64 l, .int .i64 m, .slice a ps.length cap, .int .i64 base, .int .i64 last] 27)) x) (fun q _ => (gt l m ps.length last + 1 - intOf q).toNat)
      case atStart => exact ⟨two l + 2, by go_num, by omega, by unfold gt nw; split <;> omega, HNO.out, (by repeat (first | exact More.refl _ | apply More.plus | apply More.alloc | apply More.drew | apply More.drewN))⟩
      case round =>
        obtain ⟨k, rfl, hk1, hk2, hno, x, rfl⟩ := hrel
        have HN := Lib.hid hno
        clear hno
        rcases dec (k ≤ gt l m ps.length last) with ⟨g1, v5⟩ | ⟨g1, v5⟩
        · have hok := okc_range hk1 g1
          have HOK := Lib.hid hok
          clear hok
          by_cases he : anyW l ps last k = s.data.toList
          · have HF := Lib.hid (show c = k from HC.out.eq (.inr ⟨HOK.out, he, fun c' hc' he' => by
              rcases Int.lt_or_le c' k with h | h
              · exact absurd he' (HN.out c' hc' h)
              · exact h⟩))
            have v6 : ((bstr (anyW l ps last k)).toList == s.toList) = true := by rw [ByteArray.toList_eq, ByteArray.toList_eq, bytes_bstr, he]; simp
            clear he
            go_wp2_with (first | (go_at_call 47; refine (l2Greatest_any _ _ _ _ _ _ _ _ _ hs (by omega) hlast).mono ?_; rintro e w' ⟨rfl, xc, rfl⟩) | (go_at_call 48; refine (l2Any_any _ _ _ _ _ _ _ _ _ _ (by repeat (first | exact hr | apply rd_seq | apply Rd.plus | apply Rd.alloc | apply Rd.drew | apply Rd.drewN | refine rd_patch ?_ _ _ (by intro A hA; first | (cases hA; show _ ≠ _; omega) | (have := hal A hA; omega)))) HV.out HOK.out).mono ?_; rintro e w' ⟨rfl, xc, rfl⟩))
            go_ret
            exact ret_of (int_val HF.out.symm) (by repeat (first | exact More.refl _ | apply More.plus | apply More.alloc | apply More.drew | apply More.drewN))
          · have HF := Lib.hid (show NoFnd l m ps last s.data.toList (k + 1) from fun c' hc' hlt he' => by
              by_cases h : c' = k
              · subst h; exact he he'
              · exact HN.out c' hc' (by omega) he')
            have v6 : ((bstr (anyW l ps last k)).toList == s.toList) = false := by
              rw [ByteArray.toList_eq, ByteArray.toList_eq, bytes_bstr, beq_eq_false_iff_ne]
              exact he
            clear he
            go_wp2_with (first | (go_at_call 47; refine (l2Greatest_any _ _ _ _ _ _ _ _ _ hs (by omega) hlast).mono ?_; rintro e w' ⟨rfl, xc, rfl⟩) | (go_at_call 48; refine (l2Any_any _ _ _ _ _ _ _ _ _ _ (by repeat (first | exact hr | apply rd_seq | apply Rd.plus | apply Rd.alloc | apply Rd.drew | apply Rd.drewN | refine rd_patch ?_ _ _ (by intro A hA; first | (cases hA; show _ ≠ _; omega) | (have := hal A hA; omega)))) HV.out HOK.out).mono ?_; rintro e w' ⟨rfl, xc, rfl⟩))
            go_roundw
            case rel => exact ⟨k + 1, by go_num, by omega, by omega, HF.out, (by repeat (first | exact More.refl _ | apply More.plus | apply More.alloc | apply More.drew | apply More.drewN))⟩
            case measure => simp [intOf]; omega
        · have HF := Lib.hid (show c = -1 from HC.out.eq (.inl ⟨rfl, fun c' hc' => HN.out c' hc' (by have := okc_le hc' t1; omega)⟩))
          go_wp2_with (first | (go_at_call 47; refine (l2Greatest_any _ _ _ _ _ _ _ _ _ hs (by omega) hlast).mono ?_; rintro e w' ⟨rfl, xc, rfl⟩) | (go_at_call 48; refine (l2Any_any _ _ _ _ _ _ _ _ _ _ (by repeat (first | exact hr | apply rd_seq | apply Rd.plus | apply Rd.alloc | apply Rd.drew | apply Rd.drewN | refine rd_patch ?_ _ _ (by intro A hA; first | (cases hA; show _ ≠ _; omega) | (have := hal A hA; omega)))) HV.out HOK.out).mono ?_; rintro e w' ⟨rfl, xc, rfl⟩))
          go_ret
          exact ret_of (int_val HF.out.symm) (by repeat (first | exact More.refl _ | apply More.plus | apply More.alloc | apply More.drew | apply More.drewN))
    · obtain ⟨hpos, v2⟩ := hreg b1
      have hb0 := (s[0]'hpos).toNat_lt
      clear hreg
      go_enter Try.func46, Try.ntmps46
      go_wp2
      (refine wp_region_calm (by kernel_rfl) (by kernel_rfl) ?_
       repeat (first | go_big_quiet_skip | (go_big_quiet_want; go_big_quiet_op; first | go_big_quiet_on | (apply Exists.intro; refine ⟨fun _ => ?_, ?_⟩; (focus ((first | (go_at_call 28; first | refine calm_of (l1Clear_any _ _ _ la lb _) | refine calm_seq (l1Clear_any _ _ _ la lb _))))); go_big_quiet_on)))
       refine wpQuiet_nil ?_
       intro _ hw'
       obtain ⟨xq, hw''⟩ := hw'
       subst hw'')
      go_wp2_with (go_at_call 30; refine (l1End_any _ _ _ la lb _).mono ?_; rintro e w' ⟨rfl, xc, rfl⟩)
      go_loopw [5] (fun q wr => ∃ (k : Int), q = .int .i64 k ∧ two l + 2 ≤ k ∧ k ≤ gt l m ps.length last + 1 ∧ NoFnd l m ps last s.data.toList k ∧ ∃ x, wr = plus (w.alloc (.cells #[.int .i64 o, .int .i64 l, .int .i64 m, .slice a ps.length cap, .int .i64 base, .int .i64 last] 27)) x) (fun q _ => (gt l m ps.length last + 1 - intOf q).toNat)
      case atStart => exact ⟨two l + 2, by go_num, by omega, by unfold gt nw; split <;> omega, HNO.out, (by repeat (first | exact More.refl _ | apply More.plus | apply More.alloc | apply More.drew | apply More.drewN))⟩
      case round =>
        obtain ⟨k, rfl, hk1, hk2, hno, x, rfl⟩ := hrel
        have HN := Lib.hid hno
        clear hno
        rcases dec (k ≤ gt l m ps.length last) with ⟨g1, v5⟩ | ⟨g1, v5⟩
        · have hok := okc_range hk1 g1
          have HOK := Lib.hid hok
          clear hok
          by_cases he : anyW l ps last k = s.data.toList
          · have HF := Lib.hid (show c = k from HC.out.eq (.inr ⟨HOK.out, he, fun c' hc' he' => by
              rcases Int.lt_or_le c' k with h | h
              · exact absurd he' (HN.out c' hc' h)
              · exact h⟩))
            have v6 : ((bstr (anyW l ps last k)).toList == s.toList) = true := by rw [ByteArray.toList_eq, ByteArray.toList_eq, bytes_bstr, he]; simp
            clear he
            go_wp2_with (first | (go_at_call 47; refine (l2Greatest_any _ _ _ _ _ _ _ _ _ hs (by omega) hlast).mono ?_; rintro e w' ⟨rfl, xc, rfl⟩) | (go_at_call 48; refine (l2Any_any _ _ _ _ _ _ _ _ _ _ (by repeat (first | exact hr | apply rd_seq | apply Rd.plus | apply Rd.alloc | apply Rd.drew | apply Rd.drewN | refine rd_patch ?_ _ _ (by intro A hA; first | (cases hA; show _ ≠ _; omega) | (have := hal A hA; omega)))) HV.out HOK.out).mono ?_; rintro e w' ⟨rfl, xc, rfl⟩))
            go_ret
            exact ret_of (int_val HF.out.symm) (by repeat (first | exact More.refl _ | apply More.plus | apply More.alloc | apply More.drew | apply More.drewN))
          · have HF := Lib.hid (show NoFnd l m ps last s.data.toList (k + 1) from fun c' hc' hlt he' => by
              by_cases h : c' = k
              · subst h; exact he he'
              · exact HN.out c' hc' (by omega) he')
            have v6 : ((bstr (anyW l ps last k)).toList == s.toList) = false := by
              rw [ByteArray.toList_eq, ByteArray.toList_eq, bytes_bstr, beq_eq_false_iff_ne]
              exact he
            clear he
            go_wp2_with (first | (go_at_call 47; refine (l2Greatest_any _ _ _ _ _ _ _ _ _ hs (by omega) hlast).mono ?_; rintro e w' ⟨rfl, xc, rfl⟩) | (go_at_call 48; refine (l2Any_any _ _ _ _ _ _ _ _ _ _ (by repeat (first | exact hr | apply rd_seq | apply Rd.plus | apply Rd.alloc | apply Rd.drew | apply Rd.drewN | refine rd_patch ?_ _ _ (by intro A hA; first | (cases hA; show _ ≠ _; omega) | (have := hal A hA; omega)))) HV.out HOK.out).mono ?_; rintro e w' ⟨rfl, xc, rfl⟩))
            go_roundw
            case rel => exact ⟨k + 1, by go_num, by omega, by omega, HF.out, (by repeat (first | exact More.refl _ | apply More.plus | apply More.alloc | apply More.drew | apply More.drewN))⟩
            case measure => simp [intOf]; omega
        · have HF := Lib.hid (show c = -1 from HC.out.eq (.inl ⟨rfl, fun c' hc' => HN.out c' hc' (by have := okc_le hc' t1; omega)⟩))
          go_wp2_with (first | (go_at_call 47; refine (l2Greatest_any _ _ _ _ _ _ _ _ _ hs (by omega) hlast).mono ?_; rintro e w' ⟨rfl, xc, rfl⟩) | (go_at_call 48; refine (l2Any_any _ _ _ _ _ _ _ _ _ _ (by repeat (first | exact hr | apply rd_seq | apply Rd.plus | apply Rd.alloc | apply Rd.drew | apply Rd.drewN | refine rd_patch ?_ _ _ (by intro A hA; first | (cases hA; show _ ≠ _; omega) | (have := hal A hA; omega)))) HV.out HOK.out).mono ?_; rintro e w' ⟨rfl, xc, rfl⟩))
          go_ret
          exact ret_of (int_val HF.out.symm) (by repeat (first | exact More.refl _ | apply More.plus | apply More.alloc | apply More.drew | apply More.drewN))

end Go.Proofs.Ytkpmaifdeeecjaa

/- The walks of spec.l2Longest, CodeOfWord and of DataFits. -/
namespace Go.Proofs.Ytkpmaifdeeecjaa
open Go.RowKit
set_option linter.unusedVariables false
set_option linter.unusedSimpArgs false

/-- among the codes below k the longest word with which d begins has n bytes -/
def LonTo (l m : Int) (ps : List Pr) (last : Int) (d : List UInt8) (n : Nat) (k : Int) : Prop :=
  1 ≤ n ∧ n ≤ d.length ∧ (∃ c, Okc l m ps.length last c ∧ anyW l ps last c = d.take n) ∧ ∀ c j, Okc l m ps.length last c → c < k → j ≤ d.length → anyW l ps last c = d.take j → j ≤ n

theorem LonTo.start {l m : Int} {ps : List Pr} {last : Int} {d : List UInt8} (h1 : two l ≤ 256) (hd : 0 < d.length) (hlit : ((d[0]).toNat : Int) < two l) : LonTo l m ps last d 1 (two l + 2) := by
  have hw0 : hw l ps.length ((d[0]).toNat : Int) = true := hw_iff.2 (by omega)
  refine ⟨by omega, by omega, ⟨_, .inl hw0, ?_⟩, fun c j hc hk hj he => ?_⟩
  · rw [any_hw hw0, W_lit (by omega), take_one_snoc (size := 0) hd]
    simp
  · obtain ⟨_, _, q⟩ := okc_low hc hk
    rw [any_hw q, W_lit (by omega)] at he
    have := congrArg List.length he
    rw [List.length_take] at this
    simp at this; omega

theorem LonTo.keep {l m : Int} {ps : List Pr} {last : Int} {d : List UInt8} {n : Nat} {k : Int} (h : LonTo l m ps last d n k) (hno : ∀ j, j ≤ d.length → anyW l ps last k = d.take j → j ≤ n) : LonTo l m ps last d n (k + 1) :=
  ⟨h.1, h.2.1, h.2.2.1, fun c j hc hk hj he => by
    by_cases e : c = k
    · subst e; exact hno j hj he
    · exact h.2.2.2 c j hc (by omega) hj he⟩

theorem LonTo.take {l m : Int} {ps : List Pr} {last : Int} {d : List UInt8} {n : Nat} {k : Int} (h : LonTo l m ps last d n k) (hc : Okc l m ps.length last k) {n' : Nat} (hn : n < n') (hn2 : n' ≤ d.length) (he : anyW l ps last k = d.take n') : LonTo l m ps last d n' (k + 1) :=
  ⟨by omega, hn2, ⟨k, hc, he⟩, fun c j hc' hk hj he' => by
    by_cases e : c = k
    · subst e
      rw [he] at he'
      have := congrArg List.length he'
      rw [List.length_take, List.length_take] at this
      omega
    · have := h.2.2.2 c j hc' (by omega) hj he'
      omega⟩

theorem LonTo.done {l m : Int} {ps : List Pr} {last : Int} {d : List UInt8} {n : Nat} {k : Int} (h : LonTo l m ps last d n k) (h0 : 2 ≤ two l) (hk : gt l m ps.length last < k) : IsLon l m ps last d n :=
  ⟨h.1, h.2.1, h.2.2.1, fun c j hc hj he => h.2.2.2 c j hc (by have := okc_le hc h0; omega) hj he⟩

set_option maxRecDepth 100000 in
set_option maxHeartbeats 2000000 in
theorem l2Longest_any (o l m : Int) (a : Option Addr) (cap : Nat) (ps : List Pr) (base last : Int) (s : ByteArray) (w : World) (hr : RdP w a cap ps) (hkv : KV o l m ps base last) (hs2 : s.size ≤ maxLen) (hsz : 0 < s.size) (hlit : (s[0].toNat : Int) < two l) (n : Nat) (hn : IsLon l m ps last s.data.toList n) :
    Calls Try.prog 44 #[.agg #[.int .i64 o, .int .i64 l, .int .i64 m, .slice a ps.length cap, .int .i64 base, .int .i64 last], .string s] w (Ret w (.string (bstr (s.data.toList.take n)))) := by
  unfold maxLen at hs2
  have hlen := kv_len (kvb_iff.2 hkv)
  have hs := hkv.s
  have hlim := hkv.lim
  obtain ⟨l1, l2, m2, lm, t1, t2, t4, t3⟩ := hlim.bds
  have la : 0 ≤ l := by omega
  have lb : l ≤ 10 := by omega
  have hlast := hlim.last
  have HV := Lib.hid hkv
  have HN := Lib.hid hn
  have HST := Lib.hid (LonTo.start (m := m) (ps := ps) (last := last) (d := s.data.toList) t2 (by rw [bytes_len]; exact hsz) (by rw [bytes_get hsz]; exact hlit))
  have hg1 : gt l m ps.length last ≤ 1023 := (gt_bd hlim).2.2
  have hex1 : s.extract 0 1 = bstr (s.data.toList.take 1) := by rw [← bstr_pre, bstr_bytes]
  have HE1 := Lib.hid hex1
  clear hkv hn hlim hlit hex1
  go_enter Try.func44, Try.ntmps44
  go_wp2_with (go_at_call 30; refine (l1End_any _ _ _ la lb _).mono ?_; rintro e w' ⟨rfl, xc, rfl⟩)
  go_loopw [5, 6] (fun b q wr => ∃ (k : Int) (x : ByteArray) (z : Nat), b = .string x ∧ q = .int .i64 k ∧ two l + 2 ≤ k ∧ k ≤ gt l m ps.length last + 1 ∧ x = bstr (s.data.toList.take z) ∧ LonTo l m ps last s.data.toList z k ∧ ∃ x, wr = plus (w.alloc (.cells #[.int .i64 o, .int .i64 l, .int .i64 m, .slice a ps.length cap, .int .i64 base, .int .i64 last] 27)) x) (fun _ q _ => (gt l m ps.length last + 1 - intOf q).toNat)
  case atStart => exact ⟨two l + 2, s.extract 0 1, 1, rfl, by go_num, by omega, by unfold gt nw; split <;> omega, HE1.out, HST.out, (by repeat (first | exact More.refl _ | apply More.plus | apply More.alloc | apply More.drew | apply More.drewN))⟩
  case round =>
    obtain ⟨k, x, z, rfl, rfl, hk1, hk2, hx, hlt, y, rfl⟩ := hrel
    have hz1 := hlt.1
    have hz2 := hlt.2.1
    rw [bytes_len] at hz2
    have hxs : x.size = z := by rw [hx, bstr_size, List.length_take, bytes_len]; omega
    have HX := Lib.hid hx
    have HL := Lib.hid hlt
    have HXS := Lib.hid hxs
    clear hx hlt hxs
    rcases dec (k ≤ gt l m ps.length last) with ⟨g1, v5⟩ | ⟨g1, v5⟩
    · have HOK := Lib.hid (okc_range hk1 g1)
      obtain ⟨y2, hy2⟩ : ∃ y2, bstr (anyW l ps last k) = y2 := ⟨_, rfl⟩
      have hys : y2.data.toList = anyW l ps last k := by rw [← hy2, bytes_bstr]
      have hyl : y2.size = (anyW l ps last k).length := by rw [← hy2, bstr_size]
      have HY2 := Lib.hid hy2
      have hany : ∀ j, j ≤ s.data.toList.length → anyW l ps last k = s.data.toList.take j → j = y2.size := fun j hj he => by
        rw [hyl, he, List.length_take]; omega
      have hpre : (s.extract 0 y2.size).data.toList = s.data.toList.take y2.size := by
        have := bstr_pre s.data.toList y2.size
        rw [bstr_bytes] at this
        rw [this, bytes_bstr]
      have hbig : y2.size ≤ 3000 := by
        rw [hyl]
        rcases HOK.out with h | ⟨hg, h⟩
        · rw [any_hw h]; have := W_len h; omega
        · rw [h, any_nw, List.length_append, List.length_take]
          have hl : hw l ps.length last = true := by
            rcases HV.out.last with ⟨h, _⟩ | h
            · exact absurd h (grB_iff.1 hg).1
            · exact h
          have := W_len hl; omega
      have HAN := Lib.hid hany
      have HYS := Lib.hid hys
      have HPR := Lib.hid hpre
      clear hy2 hys hyl hany hpre
      by_cases q1 : x.size < y2.size
      · by_cases q2 : y2.size ≤ s.size
        · by_cases q3 : s.data.toList.take y2.size = anyW l ps last k
          · have v7 : ((s.extract 0 y2.size).toList == y2.toList) = true := by rw [ByteArray.toList_eq, ByteArray.toList_eq, HPR.out, HYS.out, q3]; simp
            have HF := Lib.hid (HL.out.take HOK.out (n' := y2.size) (by have := HXS.out; omega) (by rw [bytes_len]; exact q2) q3.symm)
            have HB := Lib.hid (show y2 = bstr (s.data.toList.take y2.size) by rw [q3, HY2.out])
            clear q3
            go_wp2_with (first | (go_at_call 47; refine (l2Greatest_any _ _ _ _ _ _ _ _ _ hs (by omega) hlast).mono ?_; rintro e w' ⟨rfl, xc, rfl⟩) | (go_at_call 48; refine (l2Any_any _ _ _ _ _ _ _ _ _ _ (by repeat (first | exact hr | apply rd_seq | apply Rd.plus | apply Rd.alloc | apply Rd.drew | apply Rd.drewN | refine rd_patch ?_ _ _ (by intro A hA; first | (cases hA; show _ ≠ _; omega) | (have := hal A hA; omega)))) HV.out HOK.out).mono ?_; rintro e w' ⟨rfl, x9, rfl⟩; rw [HY2.out]))
            go_roundw
            case rel => exact ⟨k + 1, y2, y2.size, rfl, by go_num, by omega, by omega, HB.out, HF.out, (by repeat (first | exact More.refl _ | apply More.plus | apply More.alloc | apply More.drew | apply More.drewN))⟩
            case measure => simp [intOf]; omega
          · have v7 : ((s.extract 0 y2.size).toList == y2.toList) = false := by rw [ByteArray.toList_eq, ByteArray.toList_eq, HPR.out, HYS.out, beq_eq_false_iff_ne]; exact q3
            have HF := Lib.hid (HL.out.keep (fun j hj he => absurd (by rw [← HAN.out j hj he]; exact he.symm) q3))
            clear q3
            go_wp2_with (first | (go_at_call 47; refine (l2Greatest_any _ _ _ _ _ _ _ _ _ hs (by omega) hlast).mono ?_; rintro e w' ⟨rfl, xc, rfl⟩) | (go_at_call 48; refine (l2Any_any _ _ _ _ _ _ _ _ _ _ (by repeat (first | exact hr | apply rd_seq | apply Rd.plus | apply Rd.alloc | apply Rd.drew | apply Rd.drewN | refine rd_patch ?_ _ _ (by intro A hA; first | (cases hA; show _ ≠ _; omega) | (have := hal A hA; omega)))) HV.out HOK.out).mono ?_; rintro e w' ⟨rfl, x9, rfl⟩; rw [HY2.out]))
            go_roundw
            case rel => exact ⟨k + 1, x, z, rfl, by go_num, by omega, by omega, HX.out, HF.out, (by repeat (first | exact More.refl _ | apply More.plus | apply More.alloc | apply More.drew | apply More.drewN))⟩
            case measure => simp [intOf]; omega
        · have HF := Lib.hid (HL.out.keep (fun j hj he => by have := HAN.out j hj he; rw [bytes_len] at hj; omega))
          go_wp2_with (first | (go_at_call 47; refine (l2Greatest_any _ _ _ _ _ _ _ _ _ hs (by omega) hlast).mono ?_; rintro e w' ⟨rfl, xc, rfl⟩) | (go_at_call 48; refine (l2Any_any _ _ _ _ _ _ _ _ _ _ (by repeat (first | exact hr | apply rd_seq | apply Rd.plus | apply Rd.alloc | apply Rd.drew | apply Rd.drewN | refine rd_patch ?_ _ _ (by intro A hA; first | (cases hA; show _ ≠ _; omega) | (have := hal A hA; omega)))) HV.out HOK.out).mono ?_; rintro e w' ⟨rfl, x9, rfl⟩; rw [HY2.out]))
          go_roundw
          case rel => exact ⟨k + 1, x, z, rfl, by go_num, by omega, by omega, HX.out, HF.out, (by repeat (first | exact More.refl _ | apply More.plus | apply More.alloc | apply More.drew | apply More.drewN))⟩
          case measure => simp [intOf]; omega
      · have HF := Lib.hid (HL.out.keep (fun j hj he => by have := HAN.out j hj he; have := HXS.out; omega))
        go_wp2_with (first | (go_at_call 47; refine (l2Greatest_any _ _ _ _ _ _ _ _ _ hs (by omega) hlast).mono ?_; rintro e w' ⟨rfl, xc, rfl⟩) | (go_at_call 48; refine (l2Any_any _ _ _ _ _ _ _ _ _ _ (by repeat (first | exact hr | apply rd_seq | apply Rd.plus | apply Rd.alloc | apply Rd.drew | apply Rd.drewN | refine rd_patch ?_ _ _ (by intro A hA; first | (cases hA; show _ ≠ _; omega) | (have := hal A hA; omega)))) HV.out HOK.out).mono ?_; rintro e w' ⟨rfl, x9, rfl⟩; rw [HY2.out]))
        go_roundw
        case rel => exact ⟨k + 1, x, z, rfl, by go_num, by omega, by omega, HX.out, HF.out, (by repeat (first | exact More.refl _ | apply More.plus | apply More.alloc | apply More.drew | apply More.drewN))⟩
        case measure => simp [intOf]; omega
    · have HF := Lib.hid (show z = n from (HL.out.done t1 (by omega)).eq HN.out)
      go_wp2_with (go_at_call 47; refine (l2Greatest_any _ _ _ _ _ _ _ _ _ hs (by omega) hlast).mono ?_; rintro e w' ⟨rfl, xc, rfl⟩)
      go_ret
      exact ret_of (by rw [← HF.out, ← HX.out]; rfl) (by repeat (first | exact More.refl _ | apply More.plus | apply More.alloc | apply More.drew | apply More.drewN))

end Go.Proofs.Ytkpmaifdeeecjaa

/- The walks of DataFits and LongestWord, of the program and of the reference. -/
namespace Go.Proofs.Ytkpmaifdeeecjaa
open Go.RowKit
set_option linter.unusedVariables false
set_option linter.unusedSimpArgs false

def isLit (l : Int) (x : UInt8) : Bool := decide ((x.toNat : Int) < two l)

/-- all bytes are literals -/
def litB (l : Int) (s : ByteArray) : Bool := s.data.toList.all (isLit l)

/-- data that fits a setting -/
def dfB (o l m : Int) (s : ByteArray) : Bool := sv o l m && (decide ((s.size : Int) ≤ 2000) && litB l s)

theorem all_snoc {s : ByteArray} {k : Nat} (p : UInt8 → Bool) (h : k < s.size) : (s.data.toList.take (k + 1)).all p = ((s.data.toList.take k).all p && p s[k]) := by
  rw [take_one_snoc (by rw [bytes_len]; exact h), bytes_get h]
  simp

theorem all_bad {s : ByteArray} {k : Nat} (p : UInt8 → Bool) (h : k < s.size) (hb : p s[k] = false) : s.data.toList.all p = false := by
  rw [Bool.eq_false_iff]
  intro he
  rw [List.all_eq_true] at he
  have := he s[k] (by rw [← bytes_get h]; exact List.getElem_mem _)
  rw [hb] at this
  cases this

set_option maxHeartbeats 1000000 in
theorem l1Fits_any (o l m : Int) (s : ByteArray) (w : World) (hs : sv o l m = true) (hs2 : s.size ≤ maxLen) : Calls Try.prog 42 #[.agg #[.int .i64 o, .int .i64 l, .int .i64 m], .string s] w (Ret w (.bool (litB l s))) := by
  unfold maxLen at hs2
  obtain ⟨_, l1, l2, _, _⟩ := sv_iff.1 hs
  obtain ⟨t1, t2⟩ := two_lit l1 l2
  have la : 0 ≤ l := by omega
  have lb : l ≤ 10 := by omega
  go_enter Try.func42, Try.ntmps42
  go_wp2
  go_loopw [5] (fun i wr => ∃ k : Nat, k ≤ s.size ∧ i = .int .i64 k ∧ (s.data.toList.take k).all (isLit l) = true ∧ ∃ x, wr = plus (w.alloc (.cells #[.int .i64 o, .int .i64 l, .int .i64 m] 24)) x) (fun i _ => s.size - (intOf i).toNat)
  case atStart => exact ⟨0, Nat.zero_le _, rfl, by simp, (by repeat (first | exact More.refl _ | apply More.plus | apply More.alloc | apply More.drew | apply More.drewN))⟩
  case round =>
    obtain ⟨k, hk, rfl, hall, x, rfl⟩ := hrel
    by_cases hlt : k < s.size
    · have hb := s[k].toNat_lt
      cases hc : isLit l s[k]
      · have HN := Lib.hid (all_bad (isLit l) hlt hc)
        have v1 : decide (two l ≤ (s[k].toNat : Int)) = true := by unfold isLit at hc; simp at hc; simp; omega
        clear hall hc
        go_wp2
        (refine wp_region_calm (by kernel_rfl) (by kernel_rfl) ?_
         repeat (first | go_big_quiet_skip | (go_big_quiet_want; go_big_quiet_op; first | go_big_quiet_on | (apply Exists.intro; refine ⟨fun _ => ?_, ?_⟩; (focus ((first | (go_at_call 28; first | refine calm_of (l1Clear_any _ _ _ la lb _) | refine calm_seq (l1Clear_any _ _ _ la lb _))))); go_big_quiet_on)))
         refine wpQuiet_nil ?_
         intro _ hw'
         obtain ⟨xq, hw''⟩ := hw'
         subst hw'')
        go_wp2
        go_ret
        exact ret_of (bool_ret HN.out.symm) (by repeat (first | exact More.refl _ | apply More.plus | apply More.alloc | apply More.drew | apply More.drewN))
      · have HS := Lib.hid (show (s.data.toList.take (k + 1)).all (isLit l) = true by rw [all_snoc _ hlt, hall, hc]; rfl)
        have v1 : decide (two l ≤ (s[k].toNat : Int)) = false := by unfold isLit at hc; simp at hc; simp; omega
        clear hall hc
        go_wp2
        (refine wp_region_calm (by kernel_rfl) (by kernel_rfl) ?_
         repeat (first | go_big_quiet_skip | (go_big_quiet_want; go_big_quiet_op; first | go_big_quiet_on | (apply Exists.intro; refine ⟨fun _ => ?_, ?_⟩; (focus ((first | (go_at_call 28; first | refine calm_of (l1Clear_any _ _ _ la lb _) | refine calm_seq (l1Clear_any _ _ _ la lb _))))); go_big_quiet_on)))
         refine wpQuiet_nil ?_
         intro _ hw'
         obtain ⟨xq, hw''⟩ := hw'
         subst hw'')
        go_wp2
        go_roundw
        case rel => exact ⟨k + 1, by omega, by go_num, HS.out, (by repeat (first | exact More.refl _ | apply More.plus | apply More.alloc | apply More.drew | apply More.drewN))⟩
        case measure => simp [intOf]; omega
    · have HS := Lib.hid (show litB l s = true by
        rw [List.take_of_length_le (by rw [bytes_len]; omega)] at hall
        exact hall)
      clear hall
      go_wp2
      go_ret
      exact ret_of (bool_ret HS.out.symm) (by repeat (first | exact More.refl _ | apply More.plus | apply More.alloc | apply More.drew | apply More.drewN))

theorem dfB_no {o l m : Int} {s : ByteArray} (h : sv o l m = false) : dfB o l m s = false := by unfold dfB; rw [h]; rfl

theorem dfB_long {o l m : Int} {s : ByteArray} (h : ¬ (s.size : Int) ≤ 2000) : dfB o l m s = false := by
  unfold dfB
  rw [decide_eq_false h]
  simp

theorem dfB_lit {o l m : Int} {s : ByteArray} (h : sv o l m = true) (h2 : (s.size : Int) ≤ 2000) : dfB o l m s = litB l s := by
  unfold dfB
  rw [decide_eq_true h2, h]
  simp

theorem specDataFits_any (o l m : Int) (s : ByteArray) (w : World) (hs2 : s.size ≤ maxLen) : Calls Try.prog 38 #[.agg #[.int .i64 o, .int .i64 l, .int .i64 m], .string s] w (Ret w (.bool (dfB o l m s))) := by
  have HM := Lib.hid hs2
  unfold maxLen at hs2
  cases hs : sv o l m
  · rw [dfB_no hs]
    go_enter Try.func38, Try.ntmps38
    go_wp2_with (go_at_call 32; refine (specSettingValid_any _ _ _ _).mono ?_; rintro e w' ⟨rfl, xc, rfl⟩)
    go_ret
    exact Ret.mk (by repeat (first | exact More.refl _ | apply More.plus | apply More.alloc | apply More.drew | apply More.drewN))
  · rcases dec ((s.size : Int) ≤ 2000) with ⟨h1, v1⟩ | ⟨h1, v1⟩
    · rw [dfB_lit hs h1]
      go_enter Try.func38, Try.ntmps38
      go_wp2_with (first | (go_at_call 32; refine (specSettingValid_any _ _ _ _).mono ?_; rintro e w' ⟨rfl, xc, rfl⟩) | (go_at_call 42; refine (l1Fits_any _ _ _ _ _ hs HM.out).mono ?_; rintro e w' ⟨rfl, xc, rfl⟩))
      go_ret
      exact Ret.mk (by repeat (first | exact More.refl _ | apply More.plus | apply More.alloc | apply More.drew | apply More.drewN))
    · rw [dfB_long h1]
      go_enter Try.func38, Try.ntmps38
      go_wp2_with (go_at_call 32; refine (specSettingValid_any _ _ _ _).mono ?_; rintro e w' ⟨rfl, xc, rfl⟩)
      go_ret
      exact Ret.mk (by repeat (first | exact More.refl _ | apply More.plus | apply More.alloc | apply More.drew | apply More.drewN))

theorem dfB_first {o l m : Int} {s : ByteArray} (h : dfB o l m s = true) (hz : 0 < s.size) : (s[0].toNat : Int) < two l := by
  unfold dfB litB at h
  simp only [Bool.and_eq_true, List.all_eq_true] at h
  have := h.2.2 s[0] (by rw [← bytes_get hz]; exact List.getElem_mem _)
  simpa [isLit] using this

end Go.Proofs.Ytkpmaifdeeecjaa

/- The walks of LongestWord, of the program and of the reference. -/
namespace Go.Proofs.Ytkpmaifdeeecjaa
open Go.RowKit
set_option linter.unusedVariables false
set_option linter.unusedSimpArgs false

theorem lon_ex {o l m : Int} {ps : List Pr} {base last : Int} {s : ByteArray} (hkv : KV o l m ps base last) (hdf : dfB o l m s = true) (hz : 0 < s.size) : ∃ n, IsLon l m ps last s.data.toList n := by
  obtain ⟨l1, l2, m2, lm, t1, t2, t4, t3⟩ := hkv.lim.bds
  have h0 := LonTo.start (m := m) (ps := ps) (last := last) (d := s.data.toList) t2 (by rw [bytes_len]; exact hz) (by rw [bytes_get hz]; exact dfB_first hdf hz)
  have key : ∀ k : Nat, ∃ n, LonTo l m ps last s.data.toList n (two l + 2 + k) := by
    intro k
    induction k with
    | zero => exact ⟨1, by simpa using h0⟩
    | succ k ih =>
      obtain ⟨n, hn⟩ := ih
      have e : two l + 2 + ((k + 1 : Nat) : Int) = two l + 2 + (k : Int) + 1 := by omega
      rw [e]
      by_cases hc : Okc l m ps.length last (two l + 2 + k)
      · by_cases hex : ∃ j, j ≤ s.data.toList.length ∧ anyW l ps last (two l + 2 + k) = s.data.toList.take j ∧ n < j
        · obtain ⟨j, h1, h2, h3⟩ := hex
          exact ⟨j, hn.take hc h3 h1 h2⟩
        · exact ⟨n, hn.keep fun j h1 h2 => by
            rcases Nat.lt_or_ge n j with h | h
            · exact absurd ⟨j, h1, h2, h⟩ hex
            · exact h⟩
      · exact ⟨n, hn.1, hn.2.1, hn.2.2.1, fun c j h1 h2 h3 h4 => hn.2.2.2 c j h1 (by
          by_cases e : c = two l + 2 + k
          · subst e; exact absurd h1 hc
          · omega) h3 h4⟩
  obtain ⟨n, hn⟩ := key (gt l m ps.length last).toNat
  exact ⟨n, hn.done t1 (by omega)⟩

theorem ext_take (s : ByteArray) (n : Nat) : s.extract 0 n = bstr (s.data.toList.take n) := by
  rw [← bstr_pre, bstr_bytes]

end Go.Proofs.Ytkpmaifdeeecjaa

/- Learning a text, in plain Lean: word by word. -/
namespace Go.Proofs.Ytkpmaifdeeecjaa
open Go.RowKit
set_option linter.unusedVariables false
set_option linter.unusedSimpArgs false

open Classical in
/-- the length of the longest word with which d begins -/
noncomputable def lonN (l m : Int) (ps : List Pr) (last : Int) (d : List UInt8) : Nat := if h : ∃ n, IsLon l m ps last d n then h.choose else 0

open Classical in
/-- the least code of a word -/
noncomputable def fndC (l m : Int) (ps : List Pr) (last : Int) (x : List UInt8) : Int := if h : ∃ c, IsFnd l m ps last x c then h.choose else -1

theorem lonN_eq {l m : Int} {ps : List Pr} {last : Int} {d : List UInt8} {n : Nat} (h : IsLon l m ps last d n) : lonN l m ps last d = n := by
  have hex : ∃ n, IsLon l m ps last d n := ⟨n, h⟩
  unfold lonN
  rw [dif_pos hex]
  exact hex.choose_spec.eq h

theorem fndC_eq {l m : Int} {ps : List Pr} {last : Int} {x : List UInt8} {c : Int} (h : IsFnd l m ps last x c) : fndC l m ps last x = c := by
  have hex : ∃ c, IsFnd l m ps last x c := ⟨c, h⟩
  unfold fndC
  rw [dif_pos hex]
  exact hex.choose_spec.eq h

/-- what is known, and the last code, behind the words of d -/
noncomputable def lrn (l m : Int) : Nat → List Pr → Int → List UInt8 → List Pr × Int
  | 0, ps, last, _ => (ps, last)
  | f + 1, ps, last, d => if d = [] then (ps, last) else
      lrn l m f (aftP l m ps last (fndC l m ps last (d.take (lonN l m ps last d)))) (fndC l m ps last (d.take (lonN l m ps last d))) (d.drop (lonN l m ps last d))

theorem lrn_nil (l m : Int) (f : Nat) (ps : List Pr) (last : Int) : lrn l m f ps last [] = (ps, last) := by
  cases f with
  | zero => rfl
  | succ f => show (if _ then _ else _) = _; rw [if_pos rfl]

theorem lrn_step {l m : Int} {f : Nat} {ps : List Pr} {last : Int} {d : List UInt8} {n : Nat} {c : Int} (hd : d ≠ []) (hn : IsLon l m ps last d n) (hc : IsFnd l m ps last (d.take n) c) :
    lrn l m (f + 1) ps last d = lrn l m f (aftP l m ps last c) c (d.drop n) := by
  show (if _ then _ else _) = _
  rw [if_neg hd, lonN_eq hn, fndC_eq hc]

/-- a code found is one that can follow -/
theorem fnd_ok {l m : Int} {ps : List Pr} {last : Int} {d : List UInt8} {n : Nat} {c : Int} (h : IsLon l m ps last d n) (hc : IsFnd l m ps last (d.take n) c) : Okc l m ps.length last c := by
  rcases hc with ⟨_, h2⟩ | ⟨h2, _⟩
  · obtain ⟨c', h3, h4⟩ := h.2.2.1
    exact absurd h4 (h2 c' h3)
  · exact h2

end Go.Proofs.Ytkpmaifdeeecjaa

/- The walks of spec.l2Cleared and l2After: what is known behind a code. -/
namespace Go.Proofs.Ytkpmaifdeeecjaa
open Go.RowKit
set_option linter.unusedVariables false
set_option linter.unusedSimpArgs false

theorem rd_take {α : Type} {E : Enc α} {w : World} {a : Option Addr} {cap : Nat} {xs : List α} (h : Rd E w a cap xs) (k : Nat) : Rd E w a cap (xs.take k) := by
  obtain ⟨h1, h2, h3⟩ := h
  refine ⟨by simp; omega, h2, h3.imp id fun ⟨b, off, e, hb, hc⟩ => ⟨b, off, e, hb, fun j u hj => ?_⟩⟩
  have hpre : flat E xs = flat E (xs.take k) ++ flat E (xs.drop k) := by rw [← flat_append, List.take_append_drop]
  refine hc j u ?_
  rw [hpre, List.getElem?_append_left (List.getElem?_eq_some_iff.1 hj).1]
  exact hj

set_option maxRecDepth 100000 in
set_option maxHeartbeats 2000000 in
theorem l2Cleared_any (o l m : Int) (a : Option Addr) (cap : Nat) (ps : List Pr) (b : Nat) (last : Int) (w : World) (hr : RdP w a cap ps) (hb : b ≤ ps.length) (hn : ps.length ≤ 2000) :
    Calls Try.prog 43 #[.agg #[.int .i64 o, .int .i64 l, .int .i64 m, .slice a ps.length cap, .int .i64 b, .int .i64 last]] w (RetK w o l m (ps.take b) (b : Int) (-1)) := by
  obtain ⟨i0, hi, hz0, hz1, hz2⟩ := info_parts infoPair
  have hc1 := hr.1
  have hc2 := hr.2.1
  have hbc : b ≤ cap := by omega
  have hl : (ps.take b).length = b := by simp; omega
  have HR := Lib.hid (rd_take hr b)
  have HL := Lib.hid hl
  clear hr hl
  rcases Nat.eq_zero_or_pos b with h0 | h0
  · subst h0
    go_enter Try.func43, Try.ntmps43
    go_wp2
    refine wp_region_pt 12 (fun w' => ∃ y, w' = plus _ y) (Plan.quiet 0 (Plan.quiet 1 (Plan.quiet 3 (Plan.quiet 4 (Plan.quiet 5 (Plan.quiet 6 (Plan.quiet 7 (Plan.quiet 9 (Plan.quiet 10 (Plan.one 2 (Plan.one 8 (Plan.quiet 11 (Plan.one 12 Plan.done))))))))))))) (by kernel_rfl) (by kernel_rfl) (⟨_, drew_is_plus _⟩) ?_
    refine wpPt_val rfl rfl ?_
    apply Exists.intro
    refine ⟨fun w' hS => ?_, ?_⟩
    focus (obtain ⟨y2, rfl⟩ := hS; simp [go_sem, ↓IntWalk.iteOmega, hbc] <;> first | done | exact rfl | (rw [IntWalk.i64_in _ (by omega)]; exact rfl) | trace_state)
    refine wpPt_val rfl rfl ?_
    apply Exists.intro
    refine ⟨fun w' hS => ?_, ?_⟩
    focus (obtain ⟨y2, rfl⟩ := hS; simp [go_sem, ↓IntWalk.iteOmega, hbc] <;> first | done | exact rfl | (rw [IntWalk.i64_in _ (by omega)]; exact rfl) | trace_state)
    refine wpPt_val rfl rfl ?_
    apply Exists.intro
    refine ⟨fun w' hS => ?_, ?_⟩
    focus (obtain ⟨y2, rfl⟩ := hS; simp [go_sem, ↓IntWalk.iteOmega, hbc] <;> first | done | exact rfl | (rw [IntWalk.i64_in _ (by omega)]; exact rfl) | trace_state)
    refine wpPt_val rfl rfl ?_
    apply Exists.intro
    refine ⟨fun w' hS => ?_, ?_⟩
    focus (obtain ⟨y2, rfl⟩ := hS; simp [go_sem, ↓IntWalk.iteOmega, hbc] <;> first | done | exact rfl | (rw [IntWalk.i64_in _ (by omega)]; exact rfl) | trace_state)
    refine wpPt_val rfl rfl ?_
    apply Exists.intro
    refine ⟨fun w' hS => ?_, ?_⟩
    focus (obtain ⟨y2, rfl⟩ := hS; simp [go_sem, ↓IntWalk.iteOmega, hbc] <;> first | done | exact rfl | (rw [IntWalk.i64_in _ (by omega)]; exact rfl) | trace_state)
    refine wpPt_val rfl rfl ?_
    apply Exists.intro
    refine ⟨fun w' hS => ?_, ?_⟩
    focus (obtain ⟨y2, rfl⟩ := hS; simp [go_sem, ↓IntWalk.iteOmega, hbc] <;> first | done | exact rfl | (rw [IntWalk.i64_in _ (by omega)]; exact rfl) | trace_state)
    refine wpPt_val rfl rfl ?_
    apply Exists.intro
    refine ⟨fun w' hS => ?_, ?_⟩
    focus (obtain ⟨y2, rfl⟩ := hS; simp [go_sem, ↓IntWalk.iteOmega, hbc] <;> first | done | exact rfl | (rw [IntWalk.i64_in _ (by omega)]; exact rfl) | trace_state)
    refine wpPt_val rfl rfl ?_
    apply Exists.intro
    refine ⟨fun w' hS => ?_, ?_⟩
    focus (obtain ⟨y2, rfl⟩ := hS; simp [go_sem, ↓IntWalk.iteOmega, hbc] <;> first | done | exact rfl | (rw [IntWalk.i64_in _ (by omega)]; exact rfl) | trace_state)
    refine wpPt_val rfl rfl ?_
    apply Exists.intro
    refine ⟨fun w' hS => ?_, ?_⟩
    focus (obtain ⟨y2, rfl⟩ := hS; simp [go_sem, ↓IntWalk.iteOmega, hbc] <;> first | done | exact rfl | (rw [IntWalk.i64_in _ (by omega)]; exact rfl) | trace_state)
    refine wpPt_one rfl rfl (fun K hK => ?_)
    go_simp
    refine hK _ _ (fun hkn => (by repeat (first | exact More.refl _ | (with_reducible apply more_seq) | (with_reducible apply more_draw) | apply More.plus | apply More.alloc | apply More.drew))) ?_
    clear hK K
    refine wpPt_one rfl rfl (fun K hK => ?_)
    refine oper_append_none _ _ _ _ i0 rfl Try.underlying25 hi a _ cap rfl rfl ?_
    refine hK _ _ (fun hkn => (by repeat (first | exact More.refl _ | (with_reducible apply more_seq) | (with_reducible apply more_draw) | apply More.plus | apply More.alloc | apply More.drew))) ?_
    clear hK K
    refine wpPt_val rfl rfl ?_
    apply Exists.intro
    refine ⟨fun w' hS => ?_, ?_⟩
    focus (obtain ⟨y2, rfl⟩ := hS; simp [go_sem, ↓IntWalk.iteOmega, hbc] <;> first | done | exact rfl | (rw [IntWalk.i64_in _ (by omega)]; exact rfl) | trace_state)
    refine wpPt_one rfl rfl (fun K hK => ?_)
    go_simp
    refine hK _ _ (fun hkn => absurd hkn (by decide)) ?_
    clear hK K
    refine NoPanic.normal ?_
    go_wp2
    refine bodyPost_ret (v := .agg #[.int .i64 o, .int .i64 l, .int .i64 m, .slice (some ⟨w.heap.size + 1 + 1, 0, none⟩) 0 0, .int .i64 0, .int .i64 (-1)]) (by simp [results, Try.results43, go_sem]) rfl ⟨some ⟨w.heap.size + 1 + 1, 0, none⟩, 0, rfl, ?_, (by repeat (first | exact More.refl _ | apply More.plus | apply More.alloc | apply More.drew | apply More.drewN))⟩
    exact Own.drew (Own.newAt (by simp) (by omega) rfl (rowP_of _ _ (fun i p h => by simp at h)) (by simp) (by omega))
  · go_enter Try.func43, Try.ntmps43
    go_wp2
    refine wp_region_pt 12 (fun w' => ∃ y, w' = plus _ y) (Plan.quiet 0 (Plan.quiet 1 (Plan.quiet 3 (Plan.quiet 4 (Plan.quiet 5 (Plan.quiet 6 (Plan.quiet 7 (Plan.quiet 9 (Plan.quiet 10 (Plan.one 2 (Plan.one 8 (Plan.quiet 11 (Plan.one 12 Plan.done))))))))))))) (by kernel_rfl) (by kernel_rfl) (⟨_, drew_is_plus _⟩) ?_
    refine wpPt_val rfl rfl ?_
    apply Exists.intro
    refine ⟨fun w' hS => ?_, ?_⟩
    focus (obtain ⟨y2, rfl⟩ := hS; simp [go_sem, ↓IntWalk.iteOmega, hbc] <;> first | done | exact rfl | (rw [IntWalk.i64_in _ (by omega)]; exact rfl) | trace_state)
    refine wpPt_val rfl rfl ?_
    apply Exists.intro
    refine ⟨fun w' hS => ?_, ?_⟩
    focus (obtain ⟨y2, rfl⟩ := hS; simp [go_sem, ↓IntWalk.iteOmega, hbc] <;> first | done | exact rfl | (rw [IntWalk.i64_in _ (by omega)]; exact rfl) | trace_state)
    refine wpPt_val rfl rfl ?_
    apply Exists.intro
    refine ⟨fun w' hS => ?_, ?_⟩
    focus (obtain ⟨y2, rfl⟩ := hS; simp [go_sem, ↓IntWalk.iteOmega, hbc] <;> first | done | exact rfl | (rw [IntWalk.i64_in _ (by omega)]; exact rfl) | trace_state)
    refine wpPt_val rfl rfl ?_
    apply Exists.intro
    refine ⟨fun w' hS => ?_, ?_⟩
    focus (obtain ⟨y2, rfl⟩ := hS; simp [go_sem, ↓IntWalk.iteOmega, hbc] <;> first | done | exact rfl | (rw [IntWalk.i64_in _ (by omega)]; exact rfl) | trace_state)
    refine wpPt_val rfl rfl ?_
    apply Exists.intro
    refine ⟨fun w' hS => ?_, ?_⟩
    focus (obtain ⟨y2, rfl⟩ := hS; simp [go_sem, ↓IntWalk.iteOmega, hbc] <;> first | done | exact rfl | (rw [IntWalk.i64_in _ (by omega)]; exact rfl) | trace_state)
    refine wpPt_val rfl rfl ?_
    apply Exists.intro
    refine ⟨fun w' hS => ?_, ?_⟩
    focus (obtain ⟨y2, rfl⟩ := hS; simp [go_sem, ↓IntWalk.iteOmega, hbc] <;> first | done | exact rfl | (rw [IntWalk.i64_in _ (by omega)]; exact rfl) | trace_state)
    refine wpPt_val rfl rfl ?_
    apply Exists.intro
    refine ⟨fun w' hS => ?_, ?_⟩
    focus (obtain ⟨y2, rfl⟩ := hS; simp [go_sem, ↓IntWalk.iteOmega, hbc] <;> first | done | exact rfl | (rw [IntWalk.i64_in _ (by omega)]; exact rfl) | trace_state)
    refine wpPt_val rfl rfl ?_
    apply Exists.intro
    refine ⟨fun w' hS => ?_, ?_⟩
    focus (obtain ⟨y2, rfl⟩ := hS; simp [go_sem, ↓IntWalk.iteOmega, hbc] <;> first | done | exact rfl | (rw [IntWalk.i64_in _ (by omega)]; exact rfl) | trace_state)
    refine wpPt_val rfl rfl ?_
    apply Exists.intro
    refine ⟨fun w' hS => ?_, ?_⟩
    focus (obtain ⟨y2, rfl⟩ := hS; simp [go_sem, ↓IntWalk.iteOmega, hbc] <;> first | done | exact rfl | (rw [IntWalk.i64_in _ (by omega)]; exact rfl) | trace_state)
    refine wpPt_one rfl rfl (fun K hK => ?_)
    go_simp
    refine hK _ _ (fun hkn => (by repeat (first | exact More.refl _ | (with_reducible apply more_seq) | (with_reducible apply more_draw) | apply More.plus | apply More.alloc | apply More.drew))) ?_
    clear hK K
    refine wpPt_one rfl rfl (fun K hK => ?_)
    refine oper_append_new encP _ _ _ _ i0 _ 16 rfl Try.underlying25 hi hz0 hz1 hz2 rfl (ps.take b) a cap (by repeat (first | (with_reducible exact HR.out) | (with_reducible apply Rd.plus) | (with_reducible apply Rd.alloc) | (with_reducible apply Rd.drew))) (by rw [HL.out]; exact h0) _ rfl (by rw [HL.out]; rfl) (by rw [HL.out]; omega) (by rw [HL.out]; omega) ?_
    intro c cur hrow hc3 hc4 hsz
    rw [HL.out] at hc3 ⊢
    have HW := Lib.hid hrow
    have HZ := Lib.hid hsz
    clear hrow hsz
    refine hK _ _ (fun hkn => (by repeat (first | exact More.refl _ | (with_reducible apply more_seq) | (with_reducible apply more_draw) | apply More.plus | apply More.alloc | apply More.drew))) ?_
    clear hK K
    refine wpPt_val rfl rfl ?_
    apply Exists.intro
    refine ⟨fun w' hS => ?_, ?_⟩
    focus (obtain ⟨y2, rfl⟩ := hS; simp [go_sem, ↓IntWalk.iteOmega, hbc] <;> first | done | exact rfl | (rw [IntWalk.i64_in _ (by omega)]; exact rfl) | trace_state)
    refine wpPt_one rfl rfl (fun K hK => ?_)
    go_simp
    refine hK _ _ (fun hkn => absurd hkn (by decide)) ?_
    clear hK K
    refine NoPanic.normal ?_
    go_wp2
    refine bodyPost_ret (v := .agg #[.int .i64 o, .int .i64 l, .int .i64 m, .slice (some ⟨w.heap.size + 1 + 1 + 1, 0, none⟩) b c, .int .i64 b, .int .i64 (-1)]) (by simp [results, Try.results43, go_sem]) rfl ⟨some ⟨w.heap.size + 1 + 1 + 1, 0, none⟩, c, by rw [HL.out], ?_, (by repeat (first | exact More.refl _ | apply More.plus | apply More.alloc | apply More.drew | apply More.drewN))⟩
    exact Own.newAt (by simp) (by omega) HZ.out HW.out (by rw [HL.out]; exact hc3) hc4

end Go.Proofs.Ytkpmaifdeeecjaa

/- The walk of tree.forget: the pairs behind the base are gone. -/
namespace Go.Proofs.Ytkpmaifdeeecjaa
open Go.RowKit
set_option linter.unusedVariables false
set_option linter.unusedSimpArgs false

theorem row_pre {α : Type} {E : Enc α} {cur : Array Value} {xs : List α} (h : Row E cur xs) (k : Nat) : Row E cur (xs.take k) :=
  row_of E _ _ fun i x hx j hj => by
    rw [List.getElem?_take] at hx
    split at hx
    · have h1 : (E.enc x)[j]? = some ((E.enc x)[j]'(by rw [E.len]; exact hj)) := List.getElem?_eq_getElem _
      rw [h1]
      exact h _ _ (by rw [flat_get E xs i x hx j hj]; exact h1)
    · cases hx

theorem row_cell {α : Type} {E : Enc α} {cur : Array Value} {xs : List α} (h : Row E cur xs) {i : Nat} {x : α} (hx : xs[i]? = some x) {j : Nat} {u : Value} (hj : (E.enc x)[j]? = some u) : cur[i * E.sz + j]? = some u := by
  have hj2 : j < E.sz := by have := (List.getElem?_eq_some_iff.1 hj).1; rwa [E.len] at this
  exact h _ _ (by rw [flat_get E xs i x hx j hj2]; exact hj)

theorem own_take {α : Type} {E : Enc α} {e : TypeId} {w : World} {a : Option Addr} {cap : Nat} {xs : List α} {lo : Nat} (h : Own E e w a cap xs lo) (k : Nat) : Own E e w a cap (xs.take k) lo := by
  rcases h with ⟨h1, h2, h3⟩ | ⟨b, cur, h1, h2, h3, h4, h5, h6, h7⟩
  · exact .inl ⟨h1, h2, by rw [h3]; simp⟩
  · exact .inr ⟨b, cur, h1, h2, h3, h4, row_pre h5 k, by simp; omega, h7⟩

end Go.Proofs.Ytkpmaifdeeecjaa

/- The walk of tree.follow: what is known behind a code. -/
namespace Go.Proofs.Ytkpmaifdeeecjaa
open Go.RowKit
set_option linter.unusedVariables false
set_option linter.unusedSimpArgs false

theorem within_mono {a a' : Option Addr} {n m : Nat} (h : Within a a' n) (hm : m ≤ n) : Within a a' m := fun X hX => (h X hX).imp id fun e => by omega

theorem turned_seq {t : Nat} {pa na qa : Option Addr} {w w' : World} {x y : Ext} (h : Turned t pa na qa w (plus w' x)) : Turned t pa na qa w (plus w' (x.seq y)) := by
  rw [← plus_plus]; exact turned_plus h y

end Go.Proofs.Ytkpmaifdeeecjaa
