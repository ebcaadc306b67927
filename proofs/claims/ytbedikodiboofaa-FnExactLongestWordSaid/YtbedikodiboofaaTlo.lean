/- The walk of tree.longest: the longest word with which data begins, and its least code. -/
import Derived.Test.YtbedikodiboofaaTch
import Derived.Test.YtbedikodiboofaaTrl
namespace Go.Proofs.Ytbedikodiboofaa
open Go.RowKit
set_option linter.unusedVariables false
set_option linter.unusedSimpArgs false

theorem bytes_len (s : ByteArray) : s.data.toList.length = s.size := by simp

theorem bytes_get {s : ByteArray} {k : Nat} (h : k < s.size) : s.data.toList[k]'(by simpa using h) = s[k] := by simp; rfl




/-- what longest leaves -/
def RetLon (l m : Int) (ps : List Pr) (last : Int) (d : List UInt8) (w : World) (e : Ending) (w' : World) : Prop :=
  ∃ (c : Int) (n : Nat), e = .returned (.tuple #[.int .i64 c, .int .i64 n]) ∧ IsLon l m ps last d n ∧ IsFnd l m ps last (d.take n) c ∧ ∃ x, w' = plus w x

set_option maxRecDepth 100000 in
set_option maxHeartbeats 4000000 in
theorem longest_any {t : Nat} {pa : Option Addr} {pc : Nat} {na : Option Addr} {nc : Nat} {qa : Option Addr} {qc : Nat} {o l m : Int} {ps : List Pr} {base last : Int} {N : List Nd} {pn : List Int} (s : ByteArray) (w : World)
    (h : Tk w t pa pc na nc qa qc o l m ps base last N pn) (hlast : last = -1 ∨ hw l ps.length last = true) (hsz : 0 < s.size) (hs2 : s.size ≤ maxLen) (hlit : (s[0].toNat : Int) < two l) :
    Calls Try.prog 77 #[.pointer (some ⟨t, 0, none⟩), .string s] w (RetLon l m ps last s.data.toList w) := by
  unfold maxLen at hs2
  obtain ⟨l1, l2, l3, l4, t1, t2, t3, t4⟩ := h.lit
  obtain ⟨ht, c0, c1, c2, c3, c4, c5, c6, c7⟩ := h.at'.cells
  have hs := h.s
  have hlen := h.len
  have HD := Lib.hid h.di
  have HOK := Lib.hid h.ok
  obtain ⟨nl1, nl2⟩ := h.ti.bounds h.di
  have HT := Lib.hid h
  have HST := Lib.hid (Down.start (d := s.data.toList) h.di (by rw [bytes_len]; exact hsz) (by rw [bytes_get hsz]; exact hlit))
  clear h
  go_enter Try.func77, Try.ntmps77
  go_wp2
  go_loopw [6, 7] (fun q z wr => ∃ (i size : Nat) (c : Int), q = .int .i64 i ∧ z = .int .i64 size ∧ Down l ps (DD l ps ps.length) s.data.toList i size c ∧ ∃ x, wr = plus w x) (fun _ z _ => s.size - (intOf z).toNat)
  case atStart =>
    refine ⟨s[0].toNat, 1, (s[0].toNat : Int), ?_, rfl, ?_, _, (plus_self _).symm⟩
    · rfl
    · have := HST.out
      rw [bytes_get hsz] at this
      exact this
  case round =>
    obtain ⟨i, size, c, rfl, rfl, hdn, x, rfl⟩ := hrel
    have hb1 := hdn.s1
    have hb2 := hdn.s2
    rw [bytes_len] at hb2
    have HDN := Lib.hid hdn
    clear hdn
    have hil : i < N.length := by rw [HT.out.ti.tn.len]; exact (List.getElem?_eq_some_iff.1 HDN.out.at').1
    by_cases hlt : size < s.size
    · have hbt := s[size].toNat_lt
      have hcx := ix_cases (DD l ps ps.length) (s.data.toList.take size ++ [s[size]])
      have e9 : UInt8.ofNat ((s[size].toNat : Int)).toNat = s[size] := by simp
      rcases hcx with ⟨q1, q2⟩ | ⟨r, cr, q1, q2⟩
      · have HEND := Lib.hid (show size = s.data.toList.length ∨ s.data.toList.take (size + 1) ∉ (DD l ps ps.length).map (·.1) from .inr (by rw [take_one_snoc (by rw [bytes_len]; exact hlt), bytes_get hlt]; exact q2))
        have HQ1 := Lib.hid q1
        clear q1 q2
        go_wp2_with (go_at_call 104; refine (child_any i (s[size].toNat : Int) _ (HT.out.plus _) HDN.out.at' (by omega) (by omega)).mono ?_; rintro e w' ⟨rfl, x2, rfl⟩; rw [e9, HQ1.out])
        obtain ⟨d, hd⟩ : ∃ d, N[i]? = some d := ⟨_, List.getElem?_eq_getElem (by rw [HT.out.ti.tn.len]; exact (List.getElem?_eq_some_iff.1 HDN.out.at').1)⟩
        obtain ⟨nb, e1, e0, e2, e3, e4, e5, e6, n0, n1, n2, n3, n4, n5⟩ := HT.out.at'.node hd
        have hfc : d.first = (s[0].toNat : Int) ∧ d.code = c := by
          obtain ⟨w', c', q1, q2, q3, _⟩ := HT.out.ti.tn.nd i d hd
          rw [HDN.out.at'] at q1
          simp only [Option.some.injEq, Prod.mk.injEq] at q1
          obtain ⟨rfl, rfl⟩ := q1
          refine ⟨?_, q2⟩
          rw [q3]
          unfold Go.Proofs.Ytbedikodiboofaa.hd
          have h1 := HDN.out.s1
          have hz : 0 < s.data.toList.length := by rw [bytes_len]; omega
          cases hl : s.data.toList with
          | nil => rw [hl] at hz; simp at hz
          | cons x xs =>
            have h0 := bytes_get (s := s) (k := 0) (by omega)
            simp only [hl, List.getElem_cons_zero] at h0
            rw [← h0]
            cases size with
            | zero => omega
            | succ k => simp
        obtain ⟨hf1, hf2⟩ := hfc
        rw [hf1] at n4
        rw [hf2] at n5
        subst e1
        clear hd e6 n0 n1 n2 n3 hf1 hf2
        have b0 := s[0].toNat_lt
        have hil : (i : Int) < 9223372036854775807 := by omega
        have hlt3 : size < s.size := hlt
        have v1 : decide ((size : Int) < (s.size : Int)) = true := by simp; omega
        have bs := s[size].toNat_lt
        have hdl : size < s.data.toList.length := by rw [bytes_len]; exact hlt3
        have eds : s.data.toList[size]? = some s[size] := by rw [List.getElem?_eq_getElem hdl, bytes_get hlt3]
        have ed0 : s.data.toList[0]? = some s[0] := by rw [List.getElem?_eq_getElem (by omega), bytes_get hsz]
        have HES := Lib.hid eds
        have HE0 := Lib.hid ed0
        clear eds ed0
        cases hg : grB l m ps.length last
        · have HR := Lib.hid (HDN.out.here (m := m) (last := last) HD.out HOK.out HEND.out hlast (fun _ h => by rw [hg] at h; cases h))
          go_wp2
          (refine wp_region_calm (by kernel_rfl) (by kernel_rfl) ?_
           repeat (first | go_big_quiet_skip | (go_big_quiet_want; go_big_quiet_op; first | go_big_quiet_on | (apply Exists.intro; refine ⟨fun _ => ?_, ?_⟩; (focus ((first | (go_at_call 105; first | refine calm_is (by assumption) (grows_any _ _ _ _ _ _ _ _ _ hs (by omega)) | refine calm_is_seq (by assumption) (grows_any _ _ _ _ _ _ _ _ _ hs (by omega)))))); go_big_quiet_on)))
           refine wpQuiet_nil ?_
           intro _ hw'
           obtain ⟨xq, hw''⟩ := hw'
           subst hw'')
          go_wp2
          go_ret2
          exact ⟨c, size, rfl, HR.out.1, HR.out.2, (by repeat (first | exact More.refl _ | apply More.plus | apply More.alloc | apply More.drew | apply More.drewN))⟩
        · have hl : hw l ps.length last = true := by
            rcases hlast with rfl | h
            · exact absurd rfl (grB_iff.1 hg).1
            · exact h
          obtain ⟨j, hj1, hj2⟩ : ∃ (j : Nat), ix (DD l ps ps.length) (W l ps last) = j ∧ j < N.length := by
            obtain ⟨j, cj, hj, _⟩ := HD.out.cov last hl
            exact ⟨j, HD.out.ix hj, by rw [HT.out.ti.tn.len]; exact (List.getElem?_eq_some_iff.1 hj).1⟩
          have HNO : ∀ (W1 : World), Tk W1 t pa pc (some ⟨nb, 0, none⟩) nc qa qc o l m ps base last N pn → Calls Try.prog 106 #[.pointer (some ⟨t, 0, none⟩), .int .i64 last] W1 (Ret W1 (.int .i64 j)) := fun W1 h1 => by
            have := nodeOf_any last W1 h1 hl
            rwa [hj1] at this
          have HNH := Lib.hid HNO
          have HJ1 := Lib.hid hj1
          clear hj1 HNO hlast
          by_cases hij : i = j
          · subst hij
            by_cases hbb : s[size] = s[0]
            · have HR := Lib.hid (HDN.out.next (m := m) (last := last) HD.out HOK.out (by rw [bytes_len]; exact hlt3) (by rcases HEND.out with h | h; (exact absurd h (by rw [bytes_len]; omega)); exact h) hg HJ1.out hl (by rw [HES.out, HE0.out, hbb]))
              have v3 : ((s[size].toNat : Int) == (s[0].toNat : Int)) = true := by simp [hbb]
              clear hbb
              go_wp2
              (refine wp_region_calm (by kernel_rfl) (by kernel_rfl) ?_
               repeat (first | go_big_quiet_skip | (go_big_quiet_want; go_big_quiet_op; first | go_big_quiet_on | (apply Exists.intro; refine ⟨fun _ => ?_, ?_⟩; (focus ((first | (go_at_call 105; first | refine calm_is (by assumption) (grows_any _ _ _ _ _ _ _ _ _ hs (by omega)) | refine calm_is_seq (by assumption) (grows_any _ _ _ _ _ _ _ _ _ hs (by omega))) | (go_at_call 106; first | refine calm_of (HNH.out _ ?_) | refine calm_seq (HNH.out _ ?_); exact (by repeat (first | (with_reducible exact HT.out) | (with_reducible apply tk_seq) | (with_reducible apply Tk.plus) | (with_reducible apply Tk.alloc) | (with_reducible apply Tk.drew))))))); go_big_quiet_on)))
               refine wpQuiet_nil ?_
               intro _ hw'
               obtain ⟨xq, hw''⟩ := hw'
               subst hw'')
              go_wp2_with (go_at_call 107; refine (nextWord_any _ _ _ _ _ _ _ _ _ hs (by omega)).mono ?_; rintro e w' ⟨rfl, x3, rfl⟩)
              go_ret2
              exact ⟨nw l ps.length, size + 1, rfl, HR.out.1, HR.out.2, (by repeat (first | exact More.refl _ | apply More.plus | apply More.alloc | apply More.drew | apply More.drewN))⟩
            · have HR := Lib.hid (HDN.out.here (m := m) (last := last) HD.out HOK.out HEND.out (.inr hl) (fun _ _ _ e => by rw [HES.out, HE0.out] at e; exact hbb (by simpa using e)))
              have v3 : ((s[size].toNat : Int) == (s[0].toNat : Int)) = false := by
                rw [beq_eq_false_iff_ne]
                intro e
                exact hbb (UInt8.toNat_inj.1 (by omega))
              clear hbb
              go_wp2
              (refine wp_region_calm (by kernel_rfl) (by kernel_rfl) ?_
               repeat (first | go_big_quiet_skip | (go_big_quiet_want; go_big_quiet_op; first | go_big_quiet_on | (apply Exists.intro; refine ⟨fun _ => ?_, ?_⟩; (focus ((first | (go_at_call 105; first | refine calm_is (by assumption) (grows_any _ _ _ _ _ _ _ _ _ hs (by omega)) | refine calm_is_seq (by assumption) (grows_any _ _ _ _ _ _ _ _ _ hs (by omega))) | (go_at_call 106; first | refine calm_of (HNH.out _ ?_) | refine calm_seq (HNH.out _ ?_); exact (by repeat (first | (with_reducible exact HT.out) | (with_reducible apply tk_seq) | (with_reducible apply Tk.plus) | (with_reducible apply Tk.alloc) | (with_reducible apply Tk.drew))))))); go_big_quiet_on)))
               refine wpQuiet_nil ?_
               intro _ hw'
               obtain ⟨xq, hw''⟩ := hw'
               subst hw'')
              go_wp2
              go_ret2
              exact ⟨c, size, rfl, HR.out.1, HR.out.2, (by repeat (first | exact More.refl _ | apply More.plus | apply More.alloc | apply More.drew | apply More.drewN))⟩
          · have HR := Lib.hid (HDN.out.here (m := m) (last := last) HD.out HOK.out HEND.out (.inr hl) (fun _ _ h => absurd (show i = j by have := HJ1.out; omega) hij))
            have v3 : ((i : Int) == (j : Int)) = false := by simp; omega
            clear hij
            go_wp2
            (refine wp_region_calm (by kernel_rfl) (by kernel_rfl) ?_
             repeat (first | go_big_quiet_skip | (go_big_quiet_want; go_big_quiet_op; first | go_big_quiet_on | (apply Exists.intro; refine ⟨fun _ => ?_, ?_⟩; (focus ((first | (go_at_call 105; first | refine calm_is (by assumption) (grows_any _ _ _ _ _ _ _ _ _ hs (by omega)) | refine calm_is_seq (by assumption) (grows_any _ _ _ _ _ _ _ _ _ hs (by omega))) | (go_at_call 106; first | refine calm_of (HNH.out _ ?_) | refine calm_seq (HNH.out _ ?_); exact (by repeat (first | (with_reducible exact HT.out) | (with_reducible apply tk_seq) | (with_reducible apply Tk.plus) | (with_reducible apply Tk.alloc) | (with_reducible apply Tk.drew))))))); go_big_quiet_on)))
             refine wpQuiet_nil ?_
             intro _ hw'
             obtain ⟨xq, hw''⟩ := hw'
             subst hw'')
            go_wp2
            go_ret2
            exact ⟨c, size, rfl, HR.out.1, HR.out.2, (by repeat (first | exact More.refl _ | apply More.plus | apply More.alloc | apply More.drew | apply More.drewN))⟩
      · have HST2 := Lib.hid (HDN.out.step (by rw [bytes_len]; exact hlt) (r := r) (c' := cr) (by rw [bytes_get hlt]; exact q2))
        have HQ1 := Lib.hid q1
        have v2 : decide ((r : Int) < 0) = false := by simp
        clear q1 q2
        go_wp2_with (go_at_call 104; refine (child_any i (s[size].toNat : Int) _ (HT.out.plus _) HDN.out.at' (by omega) (by omega)).mono ?_; rintro e w' ⟨rfl, x2, rfl⟩; rw [e9, HQ1.out])
        go_roundw
        case rel => exact ⟨r, size + 1, cr, rfl, by go_num, HST2.out, (by repeat (first | exact More.refl _ | apply More.plus | apply More.alloc | apply More.drew | apply More.drewN))⟩
        case measure => simp [intOf]; omega
    · have HEND := Lib.hid (show size = s.data.toList.length ∨ s.data.toList.take (size + 1) ∉ (DD l ps ps.length).map (·.1) from .inl (by rw [bytes_len]; omega))
      obtain ⟨d, hd⟩ : ∃ d, N[i]? = some d := ⟨_, List.getElem?_eq_getElem (by rw [HT.out.ti.tn.len]; exact (List.getElem?_eq_some_iff.1 HDN.out.at').1)⟩
      obtain ⟨nb, e1, e0, e2, e3, e4, e5, e6, n0, n1, n2, n3, n4, n5⟩ := HT.out.at'.node hd
      have hfc : d.first = (s[0].toNat : Int) ∧ d.code = c := by
        obtain ⟨w', c', q1, q2, q3, _⟩ := HT.out.ti.tn.nd i d hd
        rw [HDN.out.at'] at q1
        simp only [Option.some.injEq, Prod.mk.injEq] at q1
        obtain ⟨rfl, rfl⟩ := q1
        refine ⟨?_, q2⟩
        rw [q3]
        unfold Go.Proofs.Ytbedikodiboofaa.hd
        have h1 := HDN.out.s1
        have hz : 0 < s.data.toList.length := by rw [bytes_len]; omega
        cases hl : s.data.toList with
        | nil => rw [hl] at hz; simp at hz
        | cons x xs =>
          have h0 := bytes_get (s := s) (k := 0) (by omega)
          simp only [hl, List.getElem_cons_zero] at h0
          rw [← h0]
          cases size with
          | zero => omega
          | succ k => simp
      obtain ⟨hf1, hf2⟩ := hfc
      rw [hf1] at n4
      rw [hf2] at n5
      subst e1
      clear hd e6 n0 n1 n2 n3 hf1 hf2
      have b0 := s[0].toNat_lt
      have hil : (i : Int) < 9223372036854775807 := by omega
      have hlt3 : ¬ size < s.size := hlt
      have v1 : decide ((size : Int) < (s.size : Int)) = false := by simp; omega
      have HR := Lib.hid (HDN.out.here (m := m) (last := last) HD.out HOK.out HEND.out hlast (fun h => absurd (by rw [bytes_len] at h; exact h) hlt3))
      go_wp2
      (refine wp_region_calm (by kernel_rfl) (by kernel_rfl) ?_
       repeat (first | go_big_quiet_skip | (go_big_quiet_want; go_big_quiet_op; first | go_big_quiet_on | (apply Exists.intro; refine ⟨fun _ => ?_, ?_⟩; (focus (fail)); go_big_quiet_on)))
       refine wpQuiet_nil ?_
       intro _ hw'
       obtain ⟨xq, hw''⟩ := hw'
       subst hw'')
      go_wp2
      go_ret2
      exact ⟨c, size, rfl, HR.out.1, HR.out.2, (by repeat (first | exact More.refl _ | apply More.plus | apply More.alloc | apply More.drew | apply More.drewN))⟩

end Go.Proofs.Ytbedikodiboofaa
