/- Lemmas and walks, part Gd. -/
import Derived.Test.YtlihhlihcjncoaaGc

/- The walk of tree.child: the child of a node with a byte. -/
namespace Go.Proofs.Ytlihhlihcjncoaa
open Go.RowKit
set_option linter.unusedVariables false
set_option linter.unusedSimpArgs false

theorem kid_ix {l : Int} {ps : List Pr} {D : List (List UInt8 × Int)} {n : Nat} {N : List Nd} (hD : DI l ps D n) (ht : TN l D N) {p : Nat} {b r : Int} (h : Kid N p b r) (hb0 : 0 ≤ b) (hb1 : b ≤ 255)
    {wp : List UInt8} {cp : Int} (hp : D[p]? = some (wp, cp)) : ix D (wp ++ [UInt8.ofNat b.toNat]) = r := by
  rcases h.word hD ht (by omega) hb0 hb1 (by simpa using hp) with ⟨h1, h2⟩ | ⟨h1, c, h2⟩
  · rw [ix_no h2, h1]
  · rw [hD.ix h2]; omega

set_option maxHeartbeats 2000000 in
theorem child_any {t : Nat} {pa : Option Addr} {pc : Nat} {na : Option Addr} {nc : Nat} {qa : Option Addr} {qc : Nat} {o l m : Int} {ps : List Pr} {base last : Int} {N : List Nd} {pn : List Int} (p : Nat) (b : Int) (w : World)
    (h : Tk w t pa pc na nc qa qc o l m ps base last N pn) {wp : List UInt8} {cp : Int} (hp : (DD l ps ps.length)[p]? = some (wp, cp)) (hb0 : 0 ≤ b) (hb1 : b ≤ 255) :
    Calls Try.prog 114 #[.pointer (some ⟨t, 0, none⟩), .int .i64 p, .int .u8 b] w (Ret w (.int .i64 (ix (DD l ps ps.length) (wp ++ [UInt8.ofNat b.toNat])))) := by
  obtain ⟨l1, l2, l3, l4, t1, t2, t3, t4⟩ := h.lit
  obtain ⟨ht, c0, c1, c2, c3, c4, c5, c6, c7⟩ := h.at'.cells
  have hD := h.di
  obtain ⟨nl1, nl2⟩ := h.ti.bounds hD
  have hlen := h.len
  have hpl : p < N.length := by rw [h.ti.tn.len]; exact (List.getElem?_eq_some_iff.1 hp).1
  have hex : ∃ d, N[p]? = some d := ⟨_, List.getElem?_eq_getElem hpl⟩
  obtain ⟨d, hd⟩ := hex
  obtain ⟨nb, e1, e0, e2, e3, e4, e5, e6, n0, n1, n2, n3, n4, n5⟩ := h.at'.node hd
  subst e1
  have HX := Lib.hid (fun r (hk : Kid N p b r) => kid_ix hD h.ti.tn hk hb0 hb1 hp)
  have HS := Lib.hid (Seek.start h.ti.tn hd b)
  have HN := Lib.hid (fun i d (hi : N[i]? = some d) => (h.at'.node hi))
  have HT := Lib.hid h.ti.tn
  clear hD hp h hd e6 n0 n2 n3 n4 n5
  go_enter Try.func114, Try.ntmps114
  go_wp2
  go_loop [7] (fun q => ∃ n : Int, q = .int .i64 n ∧ Seek N p b n) (fun q => (intOf q + 1).toNat)
  case atStart => exact ⟨d.child, rfl, HS.out⟩
  case round =>
    obtain ⟨n, rfl, hsk⟩ := hrel
    obtain ⟨b1, b2⟩ := hsk.bd
    rcases dec (0 ≤ n) with ⟨g1, v1⟩ | ⟨g1, v1⟩
    · obtain ⟨d2, hd2, hp2⟩ := hsk.at g1
      obtain ⟨nb2, f1, f0, f2, f3, f4, f5, f6, m0, m1, m2, m3, m4, m5⟩ := HN.out _ _ hd2
      simp only [Option.some.injEq, Addr.mk.injEq, and_true] at f1
      subst f1
      by_cases hb : d2.last = b
      · have HK := Lib.hid (hsk.found g1 hd2 hb)
        have v2 : (d2.last != b) = false := by simp [hb]
        clear hsk hd2 hp2 f6 hb
        go_wp2
        go_ret
        exact ret_of (int_val (HX.out _ HK.out).symm) (by repeat (first | exact More.refl _ | apply More.plus | apply More.alloc | apply More.drew | apply More.drewN))
      · have HK := Lib.hid (hsk.next HT.out (by omega) g1 hd2 hb)
        have hk2 := HK.out.2
        have v2 : (d2.last != b) = true := by simp [hb]
        clear hsk hd2 hp2 f6 hb
        go_wp2
        go_round
        case rel => exact ⟨_, rfl, HK.out.1⟩
        case measure => simp [intOf]; omega
    · obtain ⟨k1, k2⟩ := hsk.none (by omega)
      have HK := Lib.hid k1
      clear hsk k1
      go_wp2
      go_ret
      exact ret_of (int_val (HX.out _ HK.out).symm) (by repeat (first | exact More.refl _ | apply More.plus | apply More.alloc | apply More.drew | apply More.drewN))

end Go.Proofs.Ytlihhlihcjncoaa

/- The walk of tree.longest: the longest word with which data begins, and its least code. -/
namespace Go.Proofs.Ytlihhlihcjncoaa
open Go.RowKit
set_option linter.unusedVariables false
set_option linter.unusedSimpArgs false

theorem bytes_len (s : ByteArray) : s.data.toList.length = s.size := by simp

theorem bytes_get {s : ByteArray} {k : Nat} (h : k < s.size) : s.data.toList[k]'(by simpa using h) = s[k] := by simp; rfl




/-- what longest leaves -/
def RetLon (l m : Int) (ps : List Pr) (last : Int) (d : List UInt8) (w : World) (e : Ending) (w' : World) : Prop :=
  ∃ (c : Int) (n : Nat), e = .returned (.tuple #[.int .i64 c, .int .i64 n]) ∧ IsLon l m ps last d n ∧ IsFnd l m ps last (d.take n) c ∧ ∃ x, w' = plus w x

set_option maxRecDepth 100000 in
set_option maxHeartbeats 4000000 in
theorem longest_any {t : Nat} {pa : Option Addr} {pc : Nat} {na : Option Addr} {nc : Nat} {qa : Option Addr} {qc : Nat} {o l m : Int} {ps : List Pr} {base last : Int} {N : List Nd} {pn : List Int} (s : ByteArray) (w : World)
    (h : Tk w t pa pc na nc qa qc o l m ps base last N pn) (hlast : last = -1 ∨ hw l ps.length last = true) (hsz : 0 < s.size) (hs2 : s.size ≤ maxLen) (hlit : (s[0].toNat : Int) < two l) :
    Calls Try.prog 71 #[.pointer (some ⟨t, 0, none⟩), .string s] w (RetLon l m ps last s.data.toList w) := by
  unfold maxLen at hs2
  obtain ⟨l1, l2, l3, l4, t1, t2, t3, t4⟩ := h.lit
  obtain ⟨ht, c0, c1, c2, c3, c4, c5, c6, c7⟩ := h.at'.cells
  have hs := h.s
  have hlen := h.len
  have HD := Lib.hid h.di
  have HOK := Lib.hid h.ok
  obtain ⟨nl1, nl2⟩ := h.ti.bounds h.di
  have HT := Lib.hid h
  have HST := Lib.hid (Down.start (d := s.data.toList) h.di (by rw [bytes_len]; exact hsz) (by rw [bytes_get hsz]; exact hlit))
  clear h
  go_enter Try.func71, Try.ntmps71
  go_wp2
  go_loopw [6, 7] (fun q z wr => ∃ (i size : Nat) (c : Int), q = .int .i64 i ∧ z = .int .i64 size ∧ Down l ps (DD l ps ps.length) s.data.toList i size c ∧ ∃ x, wr = plus w x) (fun _ z _ => s.size - (intOf z).toNat)
  case atStart =>
    refine ⟨s[0].toNat, 1, (s[0].toNat : Int), ?_, rfl, ?_, _, (plus_self _).symm⟩
    · rfl
    · have := HST.out
      rw [bytes_get hsz] at this
      exact this
  case round =>
    obtain ⟨i, size, c, rfl, rfl, hdn, x, rfl⟩ := hrel
    have hb1 := hdn.s1
    have hb2 := hdn.s2
    rw [bytes_len] at hb2
    have HDN := Lib.hid hdn
    clear hdn
    have hil : i < N.length := by rw [HT.out.ti.tn.len]; exact (List.getElem?_eq_some_iff.1 HDN.out.at').1
    by_cases hlt : size < s.size
    · have hbt := s[size].toNat_lt
      have hcx := ix_cases (DD l ps ps.length) (s.data.toList.take size ++ [s[size]])
      have e9 : UInt8.ofNat ((s[size].toNat : Int)).toNat = s[size] := by simp
      rcases hcx with ⟨q1, q2⟩ | ⟨r, cr, q1, q2⟩
      · have HEND := Lib.hid (show size = s.data.toList.length ∨ s.data.toList.take (size + 1) ∉ (DD l ps ps.length).map (·.1) from .inr (by rw [take_one_snoc (by rw [bytes_len]; exact hlt), bytes_get hlt]; exact q2))
        have HQ1 := Lib.hid q1
        clear q1 q2
        go_wp2_with (go_at_call 114; refine (child_any i (s[size].toNat : Int) _ (HT.out.plus _) HDN.out.at' (by omega) (by omega)).mono ?_; rintro e w' ⟨rfl, x2, rfl⟩; rw [e9, HQ1.out])
        obtain ⟨d, hd⟩ : ∃ d, N[i]? = some d := ⟨_, List.getElem?_eq_getElem (by rw [HT.out.ti.tn.len]; exact (List.getElem?_eq_some_iff.1 HDN.out.at').1)⟩
        obtain ⟨nb, e1, e0, e2, e3, e4, e5, e6, n0, n1, n2, n3, n4, n5⟩ := HT.out.at'.node hd
        have hfc : d.first = (s[0].toNat : Int) ∧ d.code = c := by
          obtain ⟨w', c', q1, q2, q3, _⟩ := HT.out.ti.tn.nd i d hd
          rw [HDN.out.at'] at q1
          simp only [Option.some.injEq, Prod.mk.injEq] at q1
          obtain ⟨rfl, rfl⟩ := q1
          refine ⟨?_, q2⟩
          rw [q3]
          unfold Go.Proofs.Ytlihhlihcjncoaa.hd
          have h1 := HDN.out.s1
          have hz : 0 < s.data.toList.length := by rw [bytes_len]; omega
          cases hl : s.data.toList with
          | nil => rw [hl] at hz; simp at hz
          | cons x xs =>
            have h0 := bytes_get (s := s) (k := 0) (by omega)
            simp only [hl, List.getElem_cons_zero] at h0
            rw [← h0]
            cases size with
            | zero => omega
            | succ k => simp
        obtain ⟨hf1, hf2⟩ := hfc
        rw [hf1] at n4
        rw [hf2] at n5
        subst e1
        clear hd e6 n0 n1 n2 n3 hf1 hf2
        have b0 := s[0].toNat_lt
        have hil : (i : Int) < 9223372036854775807 := by omega
        have hlt3 : size < s.size := hlt
        have v1 : decide ((size : Int) < (s.size : Int)) = true := by simp; omega
        have bs := s[size].toNat_lt
        have hdl : size < s.data.toList.length := by rw [bytes_len]; exact hlt3
        have eds : s.data.toList[size]? = some s[size] := by rw [List.getElem?_eq_getElem hdl, bytes_get hlt3]
        have ed0 : s.data.toList[0]? = some s[0] := by rw [List.getElem?_eq_getElem (by omega), bytes_get hsz]
        have HES := Lib.hid eds
        have HE0 := Lib.hid ed0
        clear eds ed0
        cases hg : grB l m ps.length last
        · have HR := Lib.hid (HDN.out.here (m := m) (last := last) HD.out HOK.out HEND.out hlast (fun _ h => by rw [hg] at h; cases h))
          go_wp2
          (refine wp_region_calm (by kernel_rfl) (by kernel_rfl) ?_
           repeat (first | go_big_quiet_skip | (go_big_quiet_want; go_big_quiet_op; first | go_big_quiet_on | (apply Exists.intro; refine ⟨fun _ => ?_, ?_⟩; (focus ((first | (go_at_call 115; first | refine calm_is (by assumption) (grows_any _ _ _ _ _ _ _ _ _ hs (by omega)) | refine calm_is_seq (by assumption) (grows_any _ _ _ _ _ _ _ _ _ hs (by omega)))))); go_big_quiet_on)))
           refine wpQuiet_nil ?_
           intro _ hw'
           obtain ⟨xq, hw''⟩ := hw'
           subst hw'')
          go_wp2
          go_ret2
          exact ⟨c, size, rfl, HR.out.1, HR.out.2, (by repeat (first | exact More.refl _ | apply More.plus | apply More.alloc | apply More.drew | apply More.drewN))⟩
        · have hl : hw l ps.length last = true := by
            rcases hlast with rfl | h
            · exact absurd rfl (grB_iff.1 hg).1
            · exact h
          obtain ⟨j, hj1, hj2⟩ : ∃ (j : Nat), ix (DD l ps ps.length) (W l ps last) = j ∧ j < N.length := by
            obtain ⟨j, cj, hj, _⟩ := HD.out.cov last hl
            exact ⟨j, HD.out.ix hj, by rw [HT.out.ti.tn.len]; exact (List.getElem?_eq_some_iff.1 hj).1⟩
          have HNO : ∀ (W1 : World), Tk W1 t pa pc (some ⟨nb, 0, none⟩) nc qa qc o l m ps base last N pn → Calls Try.prog 116 #[.pointer (some ⟨t, 0, none⟩), .int .i64 last] W1 (Ret W1 (.int .i64 j)) := fun W1 h1 => by
            have := nodeOf_any last W1 h1 hl
            rwa [hj1] at this
          have HNH := Lib.hid HNO
          have HJ1 := Lib.hid hj1
          clear hj1 HNO hlast
          by_cases hij : i = j
          · subst hij
            by_cases hbb : s[size] = s[0]
            · have HR := Lib.hid (HDN.out.next (m := m) (last := last) HD.out HOK.out (by rw [bytes_len]; exact hlt3) (by rcases HEND.out with h | h; (exact absurd h (by rw [bytes_len]; omega)); exact h) hg HJ1.out hl (by rw [HES.out, HE0.out, hbb]))
              have v3 : ((s[size].toNat : Int) == (s[0].toNat : Int)) = true := by simp [hbb]
              clear hbb
              go_wp2
              (refine wp_region_calm (by kernel_rfl) (by kernel_rfl) ?_
               repeat (first | go_big_quiet_skip | (go_big_quiet_want; go_big_quiet_op; first | go_big_quiet_on | (apply Exists.intro; refine ⟨fun _ => ?_, ?_⟩; (focus ((first | (go_at_call 115; first | refine calm_is (by assumption) (grows_any _ _ _ _ _ _ _ _ _ hs (by omega)) | refine calm_is_seq (by assumption) (grows_any _ _ _ _ _ _ _ _ _ hs (by omega))) | (go_at_call 116; first | refine calm_of (HNH.out _ ?_) | refine calm_seq (HNH.out _ ?_); exact (by repeat (first | (with_reducible exact HT.out) | (with_reducible apply tk_seq) | (with_reducible apply Tk.plus) | (with_reducible apply Tk.alloc) | (with_reducible apply Tk.drew))))))); go_big_quiet_on)))
               refine wpQuiet_nil ?_
               intro _ hw'
               obtain ⟨xq, hw''⟩ := hw'
               subst hw'')
              go_wp2_with (go_at_call 92; refine (nextWord_any _ _ _ _ _ _ _ _ _ hs (by omega)).mono ?_; rintro e w' ⟨rfl, x3, rfl⟩)
              go_ret2
              exact ⟨nw l ps.length, size + 1, rfl, HR.out.1, HR.out.2, (by repeat (first | exact More.refl _ | apply More.plus | apply More.alloc | apply More.drew | apply More.drewN))⟩
            · have HR := Lib.hid (HDN.out.here (m := m) (last := last) HD.out HOK.out HEND.out (.inr hl) (fun _ _ _ e => by rw [HES.out, HE0.out] at e; exact hbb (by simpa using e)))
              have v3 : ((s[size].toNat : Int) == (s[0].toNat : Int)) = false := by
                rw [beq_eq_false_iff_ne]
                intro e
                exact hbb (UInt8.toNat_inj.1 (by omega))
              clear hbb
              go_wp2
              (refine wp_region_calm (by kernel_rfl) (by kernel_rfl) ?_
               repeat (first | go_big_quiet_skip | (go_big_quiet_want; go_big_quiet_op; first | go_big_quiet_on | (apply Exists.intro; refine ⟨fun _ => ?_, ?_⟩; (focus ((first | (go_at_call 115; first | refine calm_is (by assumption) (grows_any _ _ _ _ _ _ _ _ _ hs (by omega)) | refine calm_is_seq (by assumption) (grows_any _ _ _ _ _ _ _ _ _ hs (by omega))) | (go_at_call 116; first | refine calm_of (HNH.out _ ?_) | refine calm_seq (HNH.out _ ?_); exact (by repeat (first | (with_reducible exact HT.out) | (with_reducible apply tk_seq) | (with_reducible apply Tk.plus) | (with_reducible apply Tk.alloc) | (with_reducible apply Tk.drew))))))); go_big_quiet_on)))
               refine wpQuiet_nil ?_
               intro _ hw'
               obtain ⟨xq, hw''⟩ := hw'
               subst hw'')
              go_wp2
              go_ret2
              exact ⟨c, size, rfl, HR.out.1, HR.out.2, (by repeat (first | exact More.refl _ | apply More.plus | apply More.alloc | apply More.drew | apply More.drewN))⟩
          · have HR := Lib.hid (HDN.out.here (m := m) (last := last) HD.out HOK.out HEND.out (.inr hl) (fun _ _ h => absurd (show i = j by have := HJ1.out; omega) hij))
            have v3 : ((i : Int) == (j : Int)) = false := by simp; omega
            clear hij
            go_wp2
            (refine wp_region_calm (by kernel_rfl) (by kernel_rfl) ?_
             repeat (first | go_big_quiet_skip | (go_big_quiet_want; go_big_quiet_op; first | go_big_quiet_on | (apply Exists.intro; refine ⟨fun _ => ?_, ?_⟩; (focus ((first | (go_at_call 115; first | refine calm_is (by assumption) (grows_any _ _ _ _ _ _ _ _ _ hs (by omega)) | refine calm_is_seq (by assumption) (grows_any _ _ _ _ _ _ _ _ _ hs (by omega))) | (go_at_call 116; first | refine calm_of (HNH.out _ ?_) | refine calm_seq (HNH.out _ ?_); exact (by repeat (first | (with_reducible exact HT.out) | (with_reducible apply tk_seq) | (with_reducible apply Tk.plus) | (with_reducible apply Tk.alloc) | (with_reducible apply Tk.drew))))))); go_big_quiet_on)))
             refine wpQuiet_nil ?_
             intro _ hw'
             obtain ⟨xq, hw''⟩ := hw'
             subst hw'')
            go_wp2
            go_ret2
            exact ⟨c, size, rfl, HR.out.1, HR.out.2, (by repeat (first | exact More.refl _ | apply More.plus | apply More.alloc | apply More.drew | apply More.drewN))⟩
      · have HST2 := Lib.hid (HDN.out.step (by rw [bytes_len]; exact hlt) (r := r) (c' := cr) (by rw [bytes_get hlt]; exact q2))
        have HQ1 := Lib.hid q1
        have v2 : decide ((r : Int) < 0) = false := by simp
        clear q1 q2
        go_wp2_with (go_at_call 114; refine (child_any i (s[size].toNat : Int) _ (HT.out.plus _) HDN.out.at' (by omega) (by omega)).mono ?_; rintro e w' ⟨rfl, x2, rfl⟩; rw [e9, HQ1.out])
        go_roundw
        case rel => exact ⟨r, size + 1, cr, rfl, by go_num, HST2.out, (by repeat (first | exact More.refl _ | apply More.plus | apply More.alloc | apply More.drew | apply More.drewN))⟩
        case measure => simp [intOf]; omega
    · have HEND := Lib.hid (show size = s.data.toList.length ∨ s.data.toList.take (size + 1) ∉ (DD l ps ps.length).map (·.1) from .inl (by rw [bytes_len]; omega))
      obtain ⟨d, hd⟩ : ∃ d, N[i]? = some d := ⟨_, List.getElem?_eq_getElem (by rw [HT.out.ti.tn.len]; exact (List.getElem?_eq_some_iff.1 HDN.out.at').1)⟩
      obtain ⟨nb, e1, e0, e2, e3, e4, e5, e6, n0, n1, n2, n3, n4, n5⟩ := HT.out.at'.node hd
      have hfc : d.first = (s[0].toNat : Int) ∧ d.code = c := by
        obtain ⟨w', c', q1, q2, q3, _⟩ := HT.out.ti.tn.nd i d hd
        rw [HDN.out.at'] at q1
        simp only [Option.some.injEq, Prod.mk.injEq] at q1
        obtain ⟨rfl, rfl⟩ := q1
        refine ⟨?_, q2⟩
        rw [q3]
        unfold Go.Proofs.Ytlihhlihcjncoaa.hd
        have h1 := HDN.out.s1
        have hz : 0 < s.data.toList.length := by rw [bytes_len]; omega
        cases hl : s.data.toList with
        | nil => rw [hl] at hz; simp at hz
        | cons x xs =>
          have h0 := bytes_get (s := s) (k := 0) (by omega)
          simp only [hl, List.getElem_cons_zero] at h0
          rw [← h0]
          cases size with
          | zero => omega
          | succ k => simp
      obtain ⟨hf1, hf2⟩ := hfc
      rw [hf1] at n4
      rw [hf2] at n5
      subst e1
      clear hd e6 n0 n1 n2 n3 hf1 hf2
      have b0 := s[0].toNat_lt
      have hil : (i : Int) < 9223372036854775807 := by omega
      have hlt3 : ¬ size < s.size := hlt
      have v1 : decide ((size : Int) < (s.size : Int)) = false := by simp; omega
      have HR := Lib.hid (HDN.out.here (m := m) (last := last) HD.out HOK.out HEND.out hlast (fun h => absurd (by rw [bytes_len] at h; exact h) hlt3))
      go_wp2
      (refine wp_region_calm (by kernel_rfl) (by kernel_rfl) ?_
       repeat (first | go_big_quiet_skip | (go_big_quiet_want; go_big_quiet_op; first | go_big_quiet_on | (apply Exists.intro; refine ⟨fun _ => ?_, ?_⟩; (focus (fail)); go_big_quiet_on)))
       refine wpQuiet_nil ?_
       intro _ hw'
       obtain ⟨xq, hw''⟩ := hw'
       subst hw'')
      go_wp2
      go_ret2
      exact ⟨c, size, rfl, HR.out.1, HR.out.2, (by repeat (first | exact More.refl _ | apply More.plus | apply More.alloc | apply More.drew | apply More.drewN))⟩

end Go.Proofs.Ytlihhlihcjncoaa

/- The walk of tree.learn: a pair more. -/
namespace Go.Proofs.Ytlihhlihcjncoaa
open Go.RowKit
set_option linter.unusedVariables false
set_option linter.unusedSimpArgs false

theorem infoNode : (Try.prog.info? 121).map (fun i => (i.zero, i.size, i.bytes)) = some (some (.agg #[.int .i64 0, .int .i64 0, .int .i64 0, .int .u8 0, .int .u8 0, .int .i64 0]), 6, 40) := by kernel_rfl

theorem infoInt : (Try.prog.info? 3).map (fun i => (i.zero, i.size, i.bytes)) = some (some (.int .i64 0), 1, 8) := by kernel_rfl

theorem own_grew {α : Type} {E : Enc α} {e : TypeId} {w w' : World} {a A : Option Addr} {cap : Nat} {xs : List α} {lo : Nat} (h : Own E e w a cap xs lo) (hg : Grew A w w') (ho : ∀ X, a = some X → Off A X.block) : Own E e w' a cap xs lo :=
  h.of_block fun X hX hl => hg.block _ hl fun Y hY => ho X hX Y hY

theorem own_patch {α : Type} {E : Enc α} {e : TypeId} {w : World} {a : Option Addr} {cap : Nat} {xs : List α} {lo b : Nat} {ob : Obj} (h : Own E e w a cap xs lo) (ho : Off a b) : Own E e (patch w b ob) a cap xs lo :=
  h.of_block fun X hX hl => patch_other w b ob (ho X hX)

theorem blk_grew {A : Option Addr} {w w' : World} {k : Nat} {ob : Obj} (hg : Grew A w w') (h : w.heap[k]? = some ob) (ho : Off A k) : w'.heap[k]? = some ob := by
  rw [hg.block k (Array.getElem?_eq_some_iff.1 h).1 (fun X hX => ho X hX)]; exact h

theorem off_flip {a : Option Addr} {k : Nat} {A : Option Addr} (h : ∀ X, a = some X → Off A X.block) {Y : Addr} (hY : A = some Y) : Off a Y.block := fun X hX e => h X hX Y hY e.symm

/-- the world has turned in the tree's blocks alone -/
structure Turned (t : Nat) (pa na qa : Option Addr) (w w' : World) : Prop where
  os : w'.os = w.os
  tape : w'.tape = w.tape
  output : w'.output = w.output
  size : w.heap.size ≤ w'.heap.size
  block : ∀ k, k < w.heap.size → k ≠ t → Off pa k → Off na k → Off qa k → w'.heap[k]? = w.heap[k]?

/-- the tree's blocks: as before, or new -/
def Within (a a' : Option Addr) (n : Nat) : Prop := ∀ X, a' = some X → (∃ Y, a = some Y ∧ Y.block = X.block) ∨ n ≤ X.block

theorem Nxt.within {A A' : Option Addr} {n m : Nat} (h : Nxt A A' n) (hm : m ≤ n) : Within A A' m := fun X hX => (h X hX).imp id fun e => by omega

theorem within_refl (a : Option Addr) (n : Nat) : Within a a n := fun X hX => .inl ⟨X, hX, rfl⟩

/-- what learn leaves -/
def Learned (t : Nat) (pa na qa : Option Addr) (o l m : Int) (ps : List Pr) (base last : Int) (w : World) (e : Ending) (w' : World) : Prop :=
  e = .returned (.tuple #[]) ∧ ∃ pa' pc' na' nc' qa' qc' N' pn', Tk w' t pa' pc' na' nc' qa' qc' o l m ps base last N' pn' ∧ Turned t pa na qa w w' ∧ Within pa pa' w.heap.size ∧ Within na na' w.heap.size ∧ Within qa qa' w.heap.size

theorem nxt_off {A A' B : Option Addr} {n : Nat} (h : Nxt A A' n) (h1 : ∀ X, A = some X → Off B X.block) (h2 : ∀ Y, B = some Y → Y.block ≠ n) : ∀ X, A' = some X → Off B X.block := fun X hX Y hY e => by
  rcases h X hX with ⟨Z, hZ, he⟩ | he
  · exact h1 Z hZ Y hY (by omega)
  · exact h2 Y hY (by omega)

theorem own_alloc_drew {α : Type} {E : Enc α} {e : TypeId} {w : World} {a : Option Addr} {cap : Nat} {xs : List α} {lo : Nat} (h : Own E e w a cap xs lo) (o : Obj) : Own E e (w.drew.alloc o) a cap xs lo := h.drew.alloc o

theorem off_comm {A B : Option Addr} (h : ∀ X, A = some X → Off B X.block) : ∀ Y, B = some Y → Off A Y.block := fun Y hY X hX e => h X hX Y hY e.symm

theorem own_off {α : Type} {E : Enc α} {e : TypeId} {w : World} {a : Option Addr} {cap : Nat} {xs : List α} {lo k : Nat} (h : Own E e w a cap xs lo) (hk : w.heap.size ≤ k) : Off a k := fun A hA he => by
  have := (own_lt h A hA).2; omega

/-- what a learning leaves of the world, in one step more -/
theorem turned_trans {t : Nat} {pa na qa : Option Addr} {w w' w'' : World} {pa' na' qa' : Option Addr} (h : Turned t pa na qa w w') (k : Turned t pa' na' qa' w' w'')
    (hp : Within pa pa' w.heap.size) (hn : Within na na' w.heap.size) (hq : Within qa qa' w.heap.size) : Turned t pa na qa w w'' :=
  ⟨k.os.trans h.os, k.tape.trans h.tape, k.output.trans h.output, by have := h.size; have := k.size; omega, fun j hj h1 h2 h3 h4 => by
    have out : ∀ {a a' : Option Addr}, Within a a' w.heap.size → Off a j → Off a' j := fun {a a'} hw ho X hX e => by
      rcases hw X hX with ⟨Y, hY, he⟩ | he
      · exact ho Y hY (by omega)
      · omega
    rw [k.block j (by have := h.size; omega) h1 (out hp h2) (out hn h3) (out hq h4)]
    exact h.block j hj h1 h2 h3 h4⟩

theorem turned_plus {t : Nat} {pa na qa : Option Addr} {w w' : World} (h : Turned t pa na qa w w') (x : Ext) : Turned t pa na qa w (plus w' x) :=
  ⟨h.os, h.tape, h.output, by have := h.size; simp; omega, fun j hj h1 h2 h3 h4 => by rw [plus_block _ _ (by have := h.size; omega)]; exact h.block j hj h1 h2 h3 h4⟩

theorem turned_refl (t : Nat) (pa na qa : Option Addr) (w : World) : Turned t pa na qa w w := ⟨rfl, rfl, rfl, Nat.le_refl _, fun _ _ _ _ _ _ => rfl⟩

theorem turned_alloc {t : Nat} {pa na qa : Option Addr} {w w' : World} (h : Turned t pa na qa w w') (o : Obj) : Turned t pa na qa w (w'.alloc o) := by rw [alloc_plus]; exact turned_plus h _

theorem turned_drew {t : Nat} {pa na qa : Option Addr} {w w' : World} (h : Turned t pa na qa w w') : Turned t pa na qa w w'.drew := by rw [drew_is_plus]; exact turned_plus h _

theorem turned_patch {t : Nat} {pa na qa : Option Addr} {w w' : World} (h : Turned t pa na qa w w') (o : Obj) : Turned t pa na qa w (patch w' t o) :=
  ⟨h.os, h.tape, h.output, by have := h.size; simp; omega, fun j hj h1 h2 h3 h4 => by rw [patch_other _ _ _ h1]; exact h.block j hj h1 h2 h3 h4⟩

theorem turned_grew {t : Nat} {pa na qa A : Option Addr} {w w' w'' : World} (h : Turned t pa na qa w w') (k : Grew A w' w'') (hA : ∀ X, A = some X → (∃ Y, pa = some Y ∧ Y.block = X.block) ∨ (∃ Y, na = some Y ∧ Y.block = X.block) ∨ (∃ Y, qa = some Y ∧ Y.block = X.block) ∨ w.heap.size ≤ X.block) : Turned t pa na qa w w'' :=
  ⟨k.os.trans h.os, k.tape.trans h.tape, k.output.trans h.output, by have := h.size; have := k.size; omega, fun j hj h1 h2 h3 h4 => by
    rw [k.block j (by have := h.size; omega) fun X hX e => by
      rcases hA X hX with ⟨Y, hY, he⟩ | ⟨Y, hY, he⟩ | ⟨Y, hY, he⟩ | he
      · exact h2 Y hY (by omega)
      · exact h3 Y hY (by omega)
      · exact h4 Y hY (by omega)
      · omega]
    exact h.block j hj h1 h2 h3 h4⟩

theorem grew_patch (w : World) (b : Nat) (o : Obj) : Grew (some ⟨b, 0, none⟩) w (patch w b o) :=
  ⟨rfl, rfl, rfl, by simp, fun k hk ha => patch_other w b o (fun e => ha _ rfl e.symm)⟩

theorem row_set {α : Type} {E : Enc α} {cur : Array Value} {xs : List α} (h : Row E cur xs) {i j : Nat} {x y : α} {v : Value} (hx : xs[i]? = some x) (hj : j < E.sz) (hy : E.enc y = (E.enc x).set j v) : Row E (cur.setIfInBounds (i * E.sz + j) v) (xs.set i y) := by
  have hsz : i * E.sz + j < cur.size := by
    have h1 : (E.enc x)[j]? = some ((E.enc x)[j]'(by rw [E.len]; exact hj)) := List.getElem?_eq_getElem _
    have h2 := h (i * E.sz + j) _ (by rw [flat_get E xs i x hx j hj]; exact h1)
    exact (Array.getElem?_eq_some_iff.1 h2).1
  refine row_of E _ _ fun k z hz j' hj' => ?_
  rw [Array.getElem?_setIfInBounds]
  rw [List.getElem?_set] at hz
  have hdiv : ∀ a b : Nat, b < E.sz → (a * E.sz + b) / E.sz = a := fun a b hb => by
    rw [Nat.mul_comm, Nat.mul_add_div (by omega), Nat.div_eq_of_lt hb, Nat.add_zero]
  by_cases hik : i = k
  · subst hik
    rw [if_pos rfl, if_pos (List.getElem?_eq_some_iff.1 hx).1] at hz
    cases hz
    by_cases hjj : j = j'
    · subst hjj
      rw [if_pos rfl, if_pos hsz, hy, List.getElem?_set, if_pos rfl, if_pos (by rw [E.len]; exact hj)]
    · rw [if_neg (by omega), hy, List.getElem?_set, if_neg hjj]
      have h1 : (E.enc x)[j']? = some ((E.enc x)[j']'(by rw [E.len]; exact hj')) := List.getElem?_eq_getElem _
      rw [h1]
      exact h _ _ (by rw [flat_get E xs i x hx j' hj']; exact h1)
  · rw [if_neg hik] at hz
    have hne : i * E.sz + j ≠ k * E.sz + j' := fun e => hik (by have := congrArg (· / E.sz) e; simp only [hdiv i j hj, hdiv k j' hj'] at this; exact this)
    rw [if_neg hne]
    have h1 : (E.enc z)[j']? = some ((E.enc z)[j']'(by rw [E.len]; exact hj')) := List.getElem?_eq_getElem _
    rw [h1]
    exact h _ _ (by rw [flat_get E xs k z hz j' hj']; exact h1)


set_option maxRecDepth 100000 in
set_option maxHeartbeats 4000000 in
theorem learn_any {t : Nat} {pa : Option Addr} {pc : Nat} {na : Option Addr} {nc : Nat} {qa : Option Addr} {qc : Nat} {o l m : Int} {ps : List Pr} {base last : Int} {N : List Nd} {pn : List Int} (p : Pr) (w : World)
    (h : Tk w t pa pc na nc qa qc o l m ps base last N pn) (hp : okP l ps.length p) (hlen : ps.length < 2000) :
    Calls Try.prog 113 #[.pointer (some ⟨t, 0, none⟩), .agg #[.int .i64 p.p, .int .i64 p.b]] w (Learned t pa na qa o l m (ps ++ [p]) base last w) := by
  obtain ⟨l1, l2, l3, l4, t1, t2, t3, t4⟩ := h.lit
  obtain ⟨ht, c0, c1, c2, c3, c4, c5, c6, c7⟩ := h.at'.cells
  have hD := h.di
  have hs := h.s
  obtain ⟨nl1, nl2⟩ := h.ti.bounds hD
  obtain ⟨hpw, hb0, hb1⟩ := hp
  have HOK := Lib.hid (h.ok.snoc (p := p) ⟨hpw, hb0, hb1⟩)
  have hpw2 := hw_iff.1 hpw
  have hb2 : p.b ≤ 255 := by omega
  have hpl : pn.length ≤ 2000 := by have := h.ti.len; omega
  have hex : ∃ (q : Nat) (cq : Int), (DD l ps ps.length)[q]? = some (W l ps p.p, cq) := by
    obtain ⟨i, c', hi, _⟩ := hD.cov _ hpw
    exact ⟨i, c', hi⟩
  obtain ⟨q, cq, hq⟩ := hex
  have hqx := hD.ix hq
  have hql : q < N.length := by rw [h.ti.tn.len]; exact (List.getElem?_eq_some_iff.1 hq).1
  have hcx := ix_cases (DD l ps ps.length) (W l ps p.p ++ [UInt8.ofNat p.b.toNat])
  have HQ := Lib.hid h.at'.oq
  have HOQ := Lib.hid (own_off h.at'.oq (Nat.le_refl _))
  have HOP := Lib.hid (own_off h.at'.op (Nat.le_refl _))
  have HB := Lib.hid h.at'.blk
  have HV := Lib.hid (push_at w (.cells #[.int .i64 p.p, .int .i64 p.b] 44) w.heap.size)
  rw [if_neg (Nat.lt_irrefl _), if_pos rfl] at HV
  have HTQ := Lib.hid h.at'.tq
  have HTP := Lib.hid h.at'.tp
  have HTN := Lib.hid h.at'.tn
  have HPQ := Lib.hid h.at'.pq'
  have HNQ := Lib.hid h.at'.nq'
  have HPN := Lib.hid h.at'.pn'
  have HN := Lib.hid h.at'.on
  have HP := Lib.hid h.at'.op
  have H := Lib.hid h
  have HQW := Lib.hid hq
  have HPW := Lib.hid hpw
  have HQX := Lib.hid hqx
  clear h hpw hqx hq hD
  rcases hcx with ⟨hc1, hc2⟩ | ⟨r, cr, hc1, hc2⟩
  · have HC1 := Lib.hid hc1
    have HC2 := Lib.hid hc2
    clear hc1 hc2
    obtain ⟨i0, hi, iz0, iz1, iz2⟩ := info_parts infoNode
    have hexu : ∃ up, N[q]? = some up := ⟨_, List.getElem?_eq_getElem hql⟩
    obtain ⟨up, hup⟩ := hexu
    obtain ⟨nb, e1, e0, e2, e3, e4, e5, e6, n0, n1, n2, n3, n4, n5⟩ := H.out.at'.node hup
    have HUP := Lib.hid hup
    have HFB := Lib.hid e6
    subst e1
    have hnt : nb ≠ t := e0
    clear hup e6
    have hwr : IntKind.u8.wrap p.b = p.b := IntWalk.u8_in p.b (by omega)
    go_enter Try.func113, Try.ntmps113
    go_wp2_with fail
    refine (nodeOf_any _ _ (H.out.alloc _) HPW.out).mono ?_
    rintro e w' ⟨rfl, x1, rfl⟩
    rw [HQX.out]
    go_wp2_with fail
    refine (child_any q p.b _ ((H.out.alloc _).plus _) HQW.out hb0 hb2).mono ?_
    rintro e w' ⟨rfl, x2, rfl⟩
    rw [HC1.out]
    go_wp2
    refine wp_region_pt 21 (fun w' => Grew (some ⟨nb, 0, none⟩) _ w') (Plan.quiet 0 (Plan.quiet 1 (Plan.quiet 2 (Plan.quiet 3 (Plan.quiet 4 (Plan.quiet 5 (Plan.quiet 6 (Plan.quiet 7 (Plan.quiet 8 (Plan.quiet 9 (Plan.quiet 10 (Plan.quiet 11 (Plan.quiet 12 (Plan.quiet 13 (Plan.quiet 14 (Plan.quiet 15 (Plan.quiet 16 (Plan.one 17 (Plan.quiet 18 (Plan.one 19 (Plan.one 20 (Plan.one 21 (Plan.one 22 (Plan.one 23 Plan.done)))))))))))))))))))))))) (by kernel_rfl) (by kernel_rfl) (grew_drew (grew_refl _ _)) ?_
    refine wpPt_val rfl rfl ?_
    apply Exists.intro
    refine ⟨fun w' hS => ?_, ?_⟩
    focus (have r1 := fun i => grew_rule_off hS (n := t) (by simp; omega) HTN.out i; have r2 := fun i => grew_rule_off hS (n := w.heap.size) (by simp; omega) (own_off HN.out (Nat.le_refl _)) i; have r3 := fun i => grew_rule_off hS (n := w.heap.size + 1 + (x1.seq x2).n) (by simp) (own_off HN.out (by omega)) i; have hne : w.heap.size ≠ t := (by omega); simp [go_sem, ↓IntWalk.iteOmega, hwr, r1, r2, r3, c0, c1, c2, c3, c4, c5, c6] <;> first | done | exact rfl | (rw [IntWalk.i64_in _ (by omega)]; exact rfl) | trace_state)
    refine wpPt_val rfl rfl ?_
    apply Exists.intro
    refine ⟨fun w' hS => ?_, ?_⟩
    focus (have r1 := fun i => grew_rule_off hS (n := t) (by simp; omega) HTN.out i; have r2 := fun i => grew_rule_off hS (n := w.heap.size) (by simp; omega) (own_off HN.out (Nat.le_refl _)) i; have r3 := fun i => grew_rule_off hS (n := w.heap.size + 1 + (x1.seq x2).n) (by simp) (own_off HN.out (by omega)) i; have hne : w.heap.size ≠ t := (by omega); simp [go_sem, ↓IntWalk.iteOmega, hwr, r1, r2, r3, c0, c1, c2, c3, c4, c5, c6] <;> first | done | exact rfl | (rw [IntWalk.i64_in _ (by omega)]; exact rfl) | trace_state)
    refine wpPt_val rfl rfl ?_
    apply Exists.intro
    refine ⟨fun w' hS => ?_, ?_⟩
    focus (have r1 := fun i => grew_rule_off hS (n := t) (by simp; omega) HTN.out i; have r2 := fun i => grew_rule_off hS (n := w.heap.size) (by simp; omega) (own_off HN.out (Nat.le_refl _)) i; have r3 := fun i => grew_rule_off hS (n := w.heap.size + 1 + (x1.seq x2).n) (by simp) (own_off HN.out (by omega)) i; have hne : w.heap.size ≠ t := (by omega); simp [go_sem, ↓IntWalk.iteOmega, hwr, r1, r2, r3, c0, c1, c2, c3, c4, c5, c6] <;> first | done | exact rfl | (rw [IntWalk.i64_in _ (by omega)]; exact rfl) | trace_state)
    refine wpPt_val rfl rfl ?_
    apply Exists.intro
    refine ⟨fun w' hS => ?_, ?_⟩
    focus (have r1 := fun i => grew_rule_off hS (n := t) (by simp; omega) HTN.out i; have r2 := fun i => grew_rule_off hS (n := w.heap.size) (by simp; omega) (own_off HN.out (Nat.le_refl _)) i; have r3 := fun i => grew_rule_off hS (n := w.heap.size + 1 + (x1.seq x2).n) (by simp) (own_off HN.out (by omega)) i; have hne : w.heap.size ≠ t := (by omega); simp [go_sem, ↓IntWalk.iteOmega, hwr, r1, r2, r3, c0, c1, c2, c3, c4, c5, c6] <;> first | done | exact rfl | (rw [IntWalk.i64_in _ (by omega)]; exact rfl) | trace_state)
    refine wpPt_val rfl rfl ?_
    apply Exists.intro
    refine ⟨fun w' hS => ?_, ?_⟩
    focus (have r1 := fun i => grew_rule_off hS (n := t) (by simp; omega) HTN.out i; have r2 := fun i => grew_rule_off hS (n := w.heap.size) (by simp; omega) (own_off HN.out (Nat.le_refl _)) i; have r3 := fun i => grew_rule_off hS (n := w.heap.size + 1 + (x1.seq x2).n) (by simp) (own_off HN.out (by omega)) i; have hne : w.heap.size ≠ t := (by omega); simp [go_sem, ↓IntWalk.iteOmega, hwr, r1, r2, r3, c0, c1, c2, c3, c4, c5, c6] <;> first | done | exact rfl | (rw [IntWalk.i64_in _ (by omega)]; exact rfl) | trace_state)
    refine wpPt_val rfl rfl ?_
    apply Exists.intro
    refine ⟨fun w' hS => ?_, ?_⟩
    focus (have r1 := fun i => grew_rule_off hS (n := t) (by simp; omega) HTN.out i; have r2 := fun i => grew_rule_off hS (n := w.heap.size) (by simp; omega) (own_off HN.out (Nat.le_refl _)) i; have r3 := fun i => grew_rule_off hS (n := w.heap.size + 1 + (x1.seq x2).n) (by simp) (own_off HN.out (by omega)) i; have hne : w.heap.size ≠ t := (by omega); simp [go_sem, ↓IntWalk.iteOmega, hwr, r1, r2, r3, c0, c1, c2, c3, c4, c5, c6] <;> first | done | exact rfl | (rw [IntWalk.i64_in _ (by omega)]; exact rfl) | trace_state)
    refine wpPt_val rfl rfl ?_
    apply Exists.intro
    refine ⟨fun w' hS => ?_, ?_⟩
    focus (have r1 := fun i => grew_rule_off hS (n := t) (by simp; omega) HTN.out i; have r2 := fun i => grew_rule_off hS (n := w.heap.size) (by simp; omega) (own_off HN.out (Nat.le_refl _)) i; have r3 := fun i => grew_rule_off hS (n := w.heap.size + 1 + (x1.seq x2).n) (by simp) (own_off HN.out (by omega)) i; have hne : w.heap.size ≠ t := (by omega); simp [go_sem, ↓IntWalk.iteOmega, hwr, r1, r2, r3, c0, c1, c2, c3, c4, c5, c6] <;> first | done | exact rfl | (rw [IntWalk.i64_in _ (by omega)]; exact rfl) | trace_state)
    refine wpPt_val rfl rfl ?_
    apply Exists.intro
    refine ⟨fun w' hS => ?_, ?_⟩
    focus (have r1 := fun i => grew_rule_off hS (n := t) (by simp; omega) HTN.out i; have r2 := fun i => grew_rule_off hS (n := w.heap.size) (by simp; omega) (own_off HN.out (Nat.le_refl _)) i; have r3 := fun i => grew_rule_off hS (n := w.heap.size + 1 + (x1.seq x2).n) (by simp) (own_off HN.out (by omega)) i; have hne : w.heap.size ≠ t := (by omega); simp [go_sem, ↓IntWalk.iteOmega, hwr, r1, r2, r3, c0, c1, c2, c3, c4, c5, c6] <;> first | done | exact rfl | (rw [IntWalk.i64_in _ (by omega)]; exact rfl) | trace_state)
    refine wpPt_val rfl rfl ?_
    apply Exists.intro
    refine ⟨fun w' hS => ?_, ?_⟩
    focus (have r1 := fun i => grew_rule_off hS (n := t) (by simp; omega) HTN.out i; have r2 := fun i => grew_rule_off hS (n := w.heap.size) (by simp; omega) (own_off HN.out (Nat.le_refl _)) i; have r3 := fun i => grew_rule_off hS (n := w.heap.size + 1 + (x1.seq x2).n) (by simp) (own_off HN.out (by omega)) i; have hne : w.heap.size ≠ t := (by omega); simp [go_sem, ↓IntWalk.iteOmega, hwr, r1, r2, r3, c0, c1, c2, c3, c4, c5, c6] <;> first | done | exact rfl | (rw [IntWalk.i64_in _ (by omega)]; exact rfl) | trace_state)
    refine wpPt_val rfl rfl ?_
    apply Exists.intro
    refine ⟨fun w' hS => ?_, ?_⟩
    focus (have r1 := fun i => grew_rule_off hS (n := t) (by simp; omega) HTN.out i; have r2 := fun i => grew_rule_off hS (n := w.heap.size) (by simp; omega) (own_off HN.out (Nat.le_refl _)) i; have r3 := fun i => grew_rule_off hS (n := w.heap.size + 1 + (x1.seq x2).n) (by simp) (own_off HN.out (by omega)) i; have hne : w.heap.size ≠ t := (by omega); simp [go_sem, ↓IntWalk.iteOmega, hwr, r1, r2, r3, c0, c1, c2, c3, c4, c5, c6] <;> first | done | exact rfl | (rw [IntWalk.i64_in _ (by omega)]; exact rfl) | trace_state)
    refine wpPt_val rfl rfl ?_
    apply Exists.intro
    refine ⟨fun w' hS => ?_, ?_⟩
    focus (have r1 := fun i => grew_rule_off hS (n := t) (by simp; omega) HTN.out i; have r2 := fun i => grew_rule_off hS (n := w.heap.size) (by simp; omega) (own_off HN.out (Nat.le_refl _)) i; have r3 := fun i => grew_rule_off hS (n := w.heap.size + 1 + (x1.seq x2).n) (by simp) (own_off HN.out (by omega)) i; have hne : w.heap.size ≠ t := (by omega); simp [go_sem, ↓IntWalk.iteOmega, hwr, r1, r2, r3, c0, c1, c2, c3, c4, c5, c6] <;> first | done | exact rfl | (rw [IntWalk.i64_in _ (by omega)]; exact rfl) | trace_state)
    refine wpPt_val rfl rfl ?_
    apply Exists.intro
    refine ⟨fun w' hS => ?_, ?_⟩
    focus (have r1 := fun i => grew_rule_off hS (n := t) (by simp; omega) HTN.out i; have r2 := fun i => grew_rule_off hS (n := w.heap.size) (by simp; omega) (own_off HN.out (Nat.le_refl _)) i; have r3 := fun i => grew_rule_off hS (n := w.heap.size + 1 + (x1.seq x2).n) (by simp) (own_off HN.out (by omega)) i; have hne : w.heap.size ≠ t := (by omega); simp [go_sem, ↓IntWalk.iteOmega, hwr, r1, r2, r3, c0, c1, c2, c3, c4, c5, c6] <;> first | done | exact rfl | (rw [IntWalk.i64_in _ (by omega)]; exact rfl) | trace_state)
    refine wpPt_val rfl rfl ?_
    apply Exists.intro
    refine ⟨fun w' hS => ?_, ?_⟩
    focus (have r1 := fun i => grew_rule_off hS (n := t) (by simp; omega) HTN.out i; have r2 := fun i => grew_rule_off hS (n := w.heap.size) (by simp; omega) (own_off HN.out (Nat.le_refl _)) i; have r3 := fun i => grew_rule_off hS (n := w.heap.size + 1 + (x1.seq x2).n) (by simp) (own_off HN.out (by omega)) i; have hne : w.heap.size ≠ t := (by omega); simp [go_sem, ↓IntWalk.iteOmega, hwr, r1, r2, r3, c0, c1, c2, c3, c4, c5, c6] <;> first | done | exact rfl | (rw [IntWalk.i64_in _ (by omega)]; exact rfl) | trace_state)
    refine wpPt_val rfl rfl ?_
    apply Exists.intro
    refine ⟨fun w' hS => ?_, ?_⟩
    focus (have r1 := fun i => grew_rule_off hS (n := t) (by simp; omega) HTN.out i; have r2 := fun i => grew_rule_off hS (n := w.heap.size) (by simp; omega) (own_off HN.out (Nat.le_refl _)) i; have r3 := fun i => grew_rule_off hS (n := w.heap.size + 1 + (x1.seq x2).n) (by simp) (own_off HN.out (by omega)) i; have hne : w.heap.size ≠ t := (by omega); simp [go_sem, ↓IntWalk.iteOmega, hwr, r1, r2, r3, c0, c1, c2, c3, c4, c5, c6] <;> first | done | exact rfl | (rw [IntWalk.i64_in _ (by omega)]; exact rfl) | trace_state)
    refine wpPt_val rfl rfl ?_
    apply Exists.intro
    refine ⟨fun w' hS => ?_, ?_⟩
    focus (have r1 := fun i => grew_rule_off hS (n := t) (by simp; omega) HTN.out i; have r2 := fun i => grew_rule_off hS (n := w.heap.size) (by simp; omega) (own_off HN.out (Nat.le_refl _)) i; have r3 := fun i => grew_rule_off hS (n := w.heap.size + 1 + (x1.seq x2).n) (by simp) (own_off HN.out (by omega)) i; have hne : w.heap.size ≠ t := (by omega); simp [go_sem, ↓IntWalk.iteOmega, hwr, r1, r2, r3, c0, c1, c2, c3, c4, c5, c6] <;> first | done | exact rfl | (rw [IntWalk.i64_in _ (by omega)]; exact rfl) | trace_state)
    refine wpPt_val rfl rfl ?_
    apply Exists.intro
    refine ⟨fun w' hS => ?_, ?_⟩
    focus (have r1 := fun i => grew_rule_off hS (n := t) (by simp; omega) HTN.out i; have r2 := fun i => grew_rule_off hS (n := w.heap.size) (by simp; omega) (own_off HN.out (Nat.le_refl _)) i; have r3 := fun i => grew_rule_off hS (n := w.heap.size + 1 + (x1.seq x2).n) (by simp) (own_off HN.out (by omega)) i; have hne : w.heap.size ≠ t := (by omega); simp [go_sem, ↓IntWalk.iteOmega, hwr, r1, r2, r3, c0, c1, c2, c3, c4, c5, c6] <;> first | done | exact rfl | (rw [IntWalk.i64_in _ (by omega)]; exact rfl) | trace_state)
    refine wpPt_val rfl rfl ?_
    apply Exists.intro
    refine ⟨fun w' hS => ?_, ?_⟩
    focus (have r1 := fun i => grew_rule_off hS (n := t) (by simp; omega) HTN.out i; have r2 := fun i => grew_rule_off hS (n := w.heap.size) (by simp; omega) (own_off HN.out (Nat.le_refl _)) i; have r3 := fun i => grew_rule_off hS (n := w.heap.size + 1 + (x1.seq x2).n) (by simp) (own_off HN.out (by omega)) i; have hne : w.heap.size ≠ t := (by omega); simp [go_sem, ↓IntWalk.iteOmega, hwr, r1, r2, r3, c0, c1, c2, c3, c4, c5, c6] <;> first | done | exact rfl | (rw [IntWalk.i64_in _ (by omega)]; exact rfl) | trace_state)
    refine wpPt_one rfl rfl (fun K hK => ?_)
    go_simp
    refine (nextWord_any _ _ _ _ _ _ _ _ _ hs (by omega)).mono ?_
    rintro e w' ⟨rfl, x3, rfl⟩
    refine hK _ _ (fun hkn => (by repeat (first | assumption | exact grew_refl _ _ | apply grew_alloc | apply grew_drew | apply grew_plus))) ?_
    clear hK K
    refine wpPt_val rfl rfl ?_
    apply Exists.intro
    refine ⟨fun w' hS => ?_, ?_⟩
    focus (have r1 := fun i => grew_rule_off hS (n := t) (by simp; omega) HTN.out i; have r2 := fun i => grew_rule_off hS (n := w.heap.size) (by simp; omega) (own_off HN.out (Nat.le_refl _)) i; have r3 := fun i => grew_rule_off hS (n := w.heap.size + 1 + (x1.seq x2).n) (by simp) (own_off HN.out (by omega)) i; have hne : w.heap.size ≠ t := (by omega); simp [go_sem, ↓IntWalk.iteOmega, hwr, r1, r2, r3, c0, c1, c2, c3, c4, c5, c6] <;> first | done | exact rfl | (rw [IntWalk.i64_in _ (by omega)]; exact rfl) | trace_state)
    refine wpPt_one rfl rfl (fun K hK => ?_)
    go_simp
    refine hK _ _ (fun hkn => (by repeat (first | assumption | exact grew_refl _ _ | apply grew_alloc | apply grew_drew | apply grew_plus))) ?_
    clear hK K
    refine wpPt_one rfl rfl (fun K hK => ?_)
    refine oper_append_at encN _ _ _ _ i0 _ 40 rfl Try.underlying117 hi iz0 iz1 iz2 rfl (by decide) N (some ⟨nb, 0, none⟩) nc 0 (by repeat (first | (with_reducible exact HN.out) | (with_reducible apply Own.plus) | (with_reducible apply Own.alloc) | (with_reducible apply Own.drew))) rfl [Nd.mk q (-1) up.child p.b up.first (nw l ps.length)] _ 0 1 (new_cells encN (Nd.mk q (-1) up.child p.b up.first (nw l ps.length)) _ _ (by first | omega | rfl | (simp <;> omega) | (simp only [List.length_cons, List.length_nil, plus_size, World.size_alloc]; omega))) rfl (by first | omega | rfl | (simp <;> omega) | (simp only [List.length_cons, List.length_nil, plus_size, World.size_alloc]; omega)) (by first | omega | rfl | (simp <;> omega) | (simp only [List.length_cons, List.length_nil, plus_size, World.size_alloc]; omega)) (by first | omega | rfl | (simp <;> omega) | (simp only [List.length_cons, List.length_nil, plus_size, World.size_alloc]; omega)) ?_
    intro na4 nc4 w4 hn4 hg4 hx4
    have HN4 := Lib.hid hn4
    have HG4 := Lib.hid hg4
    have HX4 := Lib.hid hx4
    have hz4 := hg4.size
    simp at hz4
    have HB4 := Lib.hid (blk_grew hg4 (by repeat (first | (with_reducible exact HB.out) | (with_reducible apply blk_seq) | (with_reducible apply blk_draw) | (with_reducible apply blk_plus) | (with_reducible apply blk_alloc) | (with_reducible apply blk_drew) | (with_reducible refine blk_patch ?_ (by omega)) | exact HB.out)) HTN.out)
    have s4 := fun v => setCell_patch HB4.out 6 v
    have f4 := free_of HB4.out
    have r4 := cell_of HB4.out
    clear hn4 hx4
    refine hK _ _ (fun hkn => by refine grew_trans ?_ hg4; (repeat (first | assumption | exact grew_refl _ _ | apply grew_alloc | apply grew_drew | apply grew_plus))) ?_
    clear hK K
    refine wpPt_one rfl rfl (fun K hK => ?_)
    go_simp
    refine hK _ _ (fun hkn => absurd hkn (by decide)) ?_
    clear hK K
    refine wpPt_one rfl rfl (fun K hK => ?_)
    go_simp
    refine hK _ _ (fun hkn => absurd hkn (by decide)) ?_
    clear hK K
    refine wpPt_one rfl rfl (fun K hK => ?_)
    go_simp
    refine hK _ _ (fun hkn => absurd hkn (by decide)) ?_
    clear hK K
    refine NoPanic.normal ?_
    obtain ⟨nb4, curN, rfl, _, g1, g2, g3, g4, g5, g6⟩ := own_some HN4.out (by simp)
    have hnt4 : nb4 ≠ t := HX4.out.off HTN.out (by simp; omega) _ rfl
    have HG2 := Lib.hid g2
    have HG3 := Lib.hid g3
    have HG4r := Lib.hid g4
    have hupc : curN[q * 6 + 1]? = some (.int .i64 up.child) := by
      have := g4 (q * 6 + 1) (.int .i64 up.child) (flat_get encN _ q up (by rw [List.getElem?_append_left hql]; exact HUP.out) 1 (by decide))
      exact this
    have rN := cell_of HG2.out
    have fN := free_of HG2.out
    have sN := fun v => setCell_patch HG2.out (q * 6 + 1) v
    have ht4 : t < w4.heap.size := by omega
    clear g2 g3 g4
    simp only [List.length_append, List.length_cons, List.length_nil] at g5
    have HTI := Lib.hid (H.out.ti.new (p := p) HOK.out H.out.di t2 (q := (q : Int)) (cq := cq) (up := up) (by omega) (by simpa using HUP.out) (by simpa using HQW.out) HC2.out)
    have HB0 := Lib.hid (patch_at (patch w4 nb4 (.cells (curN.setIfInBounds (q * 6 + 1) (.int .i64 (N.length : Int))) 121)) t (.cells #[.int .i64 o, .int .i64 l, .int .i64 m, .slice pa ps.length pc, .int .i64 base, .int .i64 last, .slice (some ⟨nb4, 0, none⟩) (N.length + 1) nc4, .slice qa pn.length qc] 119) (by simp; omega))
    have HV0 := Lib.hid (blk_patch (b := t) (o' := (.cells #[.int .i64 o, .int .i64 l, .int .i64 m, .slice pa ps.length pc, .int .i64 base, .int .i64 last, .slice (some ⟨nb4, 0, none⟩) (N.length + 1) nc4, .slice qa pn.length qc] 119)) (blk_patch (b := nb4) (o' := (.cells (curN.setIfInBounds (q * 6 + 1) (.int .i64 (N.length : Int))) 121)) (blk_grew HG4.out (by repeat (first | (with_reducible exact HV.out) | (with_reducible apply blk_seq) | (with_reducible apply blk_draw) | (with_reducible apply blk_plus) | (with_reducible apply blk_alloc) | (with_reducible apply blk_drew) | (with_reducible refine blk_patch ?_ (by omega)) | exact HV.out)) (own_off HN.out (Nat.le_refl _))) (HX4.out.off (own_off HN.out (Nat.le_refl _)) (by simp; omega) _ rfl).symm) (by omega))
    have hrow := row_set HG4r.out (i := q) (x := up) (y := { up with child := (N.length : Int) }) (j := 1) (v := .int .i64 (N.length : Int)) (by rw [List.getElem?_append_left hql]; exact HUP.out) (by decide) rfl
    have HN0 := Lib.hid (own_patch (b := t) (ob := (.cells #[.int .i64 o, .int .i64 l, .int .i64 m, .slice pa ps.length pc, .int .i64 base, .int .i64 last, .slice (some ⟨nb4, 0, none⟩) (N.length + 1) nc4, .slice qa pn.length qc] 119)) (show Own encN 121 (patch w4 nb4 (.cells (curN.setIfInBounds (q * 6 + 1) (.int .i64 (N.length : Int))) 121)) (some ⟨nb4, 0, none⟩) nc4 (pushN N q p.b (nw l ps.length) up) 0 from .inr ⟨nb4, _, rfl, Nat.zero_le _, patch_at _ _ _ g1, by rw [Array.size_setIfInBounds]; exact HG3.out, hrow, by simp [pushN]; omega, g6⟩) (HX4.out.off HTN.out (by simp; omega)))
    clear hrow
    have qn4 := nxt_off HX4.out HNQ.out (fun Y hY => by have := (own_lt HQ.out Y hY).2; simp; omega)
    have pn4 := off_comm (nxt_off HX4.out (off_comm HPN.out) (fun Y hY => by have := (own_lt HP.out Y hY).2; simp; omega))
    have HQ0 := Lib.hid (own_patch (b := t) (ob := (.cells #[.int .i64 o, .int .i64 l, .int .i64 m, .slice pa ps.length pc, .int .i64 base, .int .i64 last, .slice (some ⟨nb4, 0, none⟩) (N.length + 1) nc4, .slice qa pn.length qc] 119)) (own_patch (b := nb4) (ob := (.cells (curN.setIfInBounds (q * 6 + 1) (.int .i64 (N.length : Int))) 121)) (own_grew (w := _) (by repeat (first | (with_reducible exact HQ.out) | (with_reducible apply Own.plus) | (with_reducible apply Own.alloc) | (with_reducible apply Own.drew))) HG4.out (off_comm HNQ.out)) (qn4 _ rfl)) HTQ.out)
    have HP0 := Lib.hid (own_patch (b := t) (ob := (.cells #[.int .i64 o, .int .i64 l, .int .i64 m, .slice pa ps.length pc, .int .i64 base, .int .i64 last, .slice (some ⟨nb4, 0, none⟩) (N.length + 1) nc4, .slice qa pn.length qc] 119)) (own_patch (b := nb4) (ob := (.cells (curN.setIfInBounds (q * 6 + 1) (.int .i64 (N.length : Int))) 121)) (own_grew (w := _) (by repeat (first | (with_reducible exact HP.out) | (with_reducible apply Own.plus) | (with_reducible apply Own.alloc) | (with_reducible apply Own.drew))) HG4.out HPN.out) (fun A hA e => pn4 A hA _ rfl e.symm)) HTP.out)
    have HTW := Lib.hid (turned_patch (turned_grew (turned_grew (show Turned t pa (some ⟨nb, 0, none⟩) qa w _ from (by repeat (first | exact turned_refl _ _ _ _ _ | (with_reducible apply turned_plus) | (with_reducible apply turned_alloc) | (with_reducible apply turned_drew)))) HG4.out (fun X hX => .inr (.inl ⟨X, hX, rfl⟩))) (grew_patch w4 nb4 (.cells (curN.setIfInBounds (q * 6 + 1) (.int .i64 (N.length : Int))) 121)) (fun X hX => by cases hX; rcases HX4.out _ rfl with ⟨Y, hY, he⟩ | he; exact .inr (.inl ⟨Y, hY, he⟩); exact .inr (.inr (.inr (by simp at he ⊢; omega))))) (.cells #[.int .i64 o, .int .i64 l, .int .i64 m, .slice pa ps.length pc, .int .i64 base, .int .i64 last, .slice (some ⟨nb4, 0, none⟩) (N.length + 1) nc4, .slice qa pn.length qc] 119))
    have HWN := Lib.hid (HX4.out.within (m := w.heap.size) (by simp; omega))
    have HTN0 := Lib.hid (HX4.out.off HTN.out (k := t) (by simp; omega))
    have HNQ0 := Lib.hid qn4
    have HPN0 := Lib.hid pn4
    clear HB HV HN HQ HP HTN HNQ HPN qn4 pn4
    have HB := HB0
    have HV := HV0
    have HN := HN0
    have HQ := HQ0
    have HP := HP0
    have HTN := HTN0
    have HNQ := HNQ0
    have HPN := HPN0
    clear HB0 HV0 HN0 HQ0 HP0 HTN0 HNQ0 HPN0
    obtain ⟨j0, hj, jz0, jz1, jz2⟩ := info_parts infoInt
    obtain ⟨k0, hk, kz0, kz1, kz2⟩ := info_parts infoPair
    go_wp2_with (at_builtin; refine wpList_append_at encI _ _ _ _ j0 _ 8 rfl rfl Try.underlying55 hj jz0 jz1 jz2 rfl (by decide) pn qa qc 0 (by repeat (first | (with_reducible exact HQ.out) | (with_reducible apply Own.plus) | (with_reducible apply Own.alloc) | (with_reducible apply Own.drew))) rfl [(N.length : Int)] _ 0 1 (new_cells encI (N.length : Int) _ _ (by first | omega | rfl | (simp <;> omega) | (simp only [List.length_cons, List.length_nil, plus_size, World.size_alloc]; omega))) rfl (by first | omega | rfl | (simp <;> omega) | (simp only [List.length_cons, List.length_nil, plus_size, World.size_alloc]; omega)) (by first | omega | rfl | (simp <;> omega) | (simp only [List.length_cons, List.length_nil, plus_size, World.size_alloc]; omega)) (by first | omega | rfl | (simp <;> omega) | (simp only [List.length_cons, List.length_nil, plus_size, World.size_alloc]; omega)) ?_; intro qa' qc' w5 hq5 hg5 hx5; have HQ5 := Lib.hid hq5; have HG5 := Lib.hid hg5; have HX5 := Lib.hid hx5; have hz5 := hg5.size; simp at hz5; have HB5 := Lib.hid (blk_grew hg5 (by repeat (first | (with_reducible exact HB.out) | (with_reducible apply blk_seq) | (with_reducible apply blk_draw) | (with_reducible apply blk_plus) | (with_reducible apply blk_alloc) | (with_reducible apply blk_drew) | (with_reducible refine blk_patch ?_ (by omega)) | exact HB.out)) HTQ.out); have HV5 := Lib.hid (blk_grew hg5 (by repeat (first | (with_reducible exact HV.out) | (with_reducible apply blk_seq) | (with_reducible apply blk_draw) | (with_reducible apply blk_plus) | (with_reducible apply blk_alloc) | (with_reducible apply blk_drew) | (with_reducible refine blk_patch ?_ (by omega)) | exact HV.out)) HOQ.out); have HP5 := Lib.hid (own_grew (w := _) (by repeat (first | (with_reducible exact HP.out) | (with_reducible apply Own.plus) | (with_reducible apply Own.alloc) | (with_reducible apply Own.drew))) hg5 HPQ.out); have HN5 := Lib.hid (own_grew (w := _) (by repeat (first | (with_reducible exact HN.out) | (with_reducible apply Own.plus) | (with_reducible apply Own.alloc) | (with_reducible apply Own.drew))) hg5 HNQ.out); have r5 := cell_of HB5.out; have f5 := free_of HB5.out; have s5 := fun v => setCell_patch HB5.out 7 v; clear hq5 hg5 hx5)
    have hv5 := cell_of HV5.out
    have ht5 : t < w5.heap.size := by omega
    refine wp_region_pt 9 (fun w' => Grew pa _ w') (Plan.quiet 0 (Plan.quiet 1 (Plan.quiet 2 (Plan.quiet 3 (Plan.quiet 4 (Plan.quiet 5 (Plan.quiet 6 (Plan.one 7 (Plan.one 8 (Plan.one 9 (Plan.one 10 (Plan.one 11 (Plan.one 12 Plan.done))))))))))))) (by kernel_rfl) (by kernel_rfl) (grew_drew (grew_refl _ _)) ?_
    refine wpPt_val rfl rfl ?_
    apply Exists.intro
    refine ⟨fun w' hS => ?_, ?_⟩
    focus (have r1 := fun i => grew_rule_off hS (n := t) (by simp; omega) HTP.out i; have r2 := fun i => grew_rule_off hS (n := w.heap.size) (by simp; omega) HOP.out i; have hne : w.heap.size ≠ t := (by omega); simp [go_sem, ↓IntWalk.iteOmega, r1, r2, hv5] <;> first | done | exact rfl | (rw [IntWalk.i64_in _ (by omega)]; exact rfl) | trace_state)
    refine wpPt_val rfl rfl ?_
    apply Exists.intro
    refine ⟨fun w' hS => ?_, ?_⟩
    focus (have r1 := fun i => grew_rule_off hS (n := t) (by simp; omega) HTP.out i; have r2 := fun i => grew_rule_off hS (n := w.heap.size) (by simp; omega) HOP.out i; have hne : w.heap.size ≠ t := (by omega); simp [go_sem, ↓IntWalk.iteOmega, r1, r2, hv5] <;> first | done | exact rfl | (rw [IntWalk.i64_in _ (by omega)]; exact rfl) | trace_state)
    refine wpPt_val rfl rfl ?_
    apply Exists.intro
    refine ⟨fun w' hS => ?_, ?_⟩
    focus (have r1 := fun i => grew_rule_off hS (n := t) (by simp; omega) HTP.out i; have r2 := fun i => grew_rule_off hS (n := w.heap.size) (by simp; omega) HOP.out i; have hne : w.heap.size ≠ t := (by omega); simp [go_sem, ↓IntWalk.iteOmega, r1, r2, hv5] <;> first | done | exact rfl | (rw [IntWalk.i64_in _ (by omega)]; exact rfl) | trace_state)
    refine wpPt_val rfl rfl ?_
    apply Exists.intro
    refine ⟨fun w' hS => ?_, ?_⟩
    focus (have r1 := fun i => grew_rule_off hS (n := t) (by simp; omega) HTP.out i; have r2 := fun i => grew_rule_off hS (n := w.heap.size) (by simp; omega) HOP.out i; have hne : w.heap.size ≠ t := (by omega); simp [go_sem, ↓IntWalk.iteOmega, r1, r2, hv5] <;> first | done | exact rfl | (rw [IntWalk.i64_in _ (by omega)]; exact rfl) | trace_state)
    refine wpPt_val rfl rfl ?_
    apply Exists.intro
    refine ⟨fun w' hS => ?_, ?_⟩
    focus (have r1 := fun i => grew_rule_off hS (n := t) (by simp; omega) HTP.out i; have r2 := fun i => grew_rule_off hS (n := w.heap.size) (by simp; omega) HOP.out i; have hne : w.heap.size ≠ t := (by omega); simp [go_sem, ↓IntWalk.iteOmega, r1, r2, hv5] <;> first | done | exact rfl | (rw [IntWalk.i64_in _ (by omega)]; exact rfl) | trace_state)
    refine wpPt_val rfl rfl ?_
    apply Exists.intro
    refine ⟨fun w' hS => ?_, ?_⟩
    focus (have r1 := fun i => grew_rule_off hS (n := t) (by simp; omega) HTP.out i; have r2 := fun i => grew_rule_off hS (n := w.heap.size) (by simp; omega) HOP.out i; have hne : w.heap.size ≠ t := (by omega); simp [go_sem, ↓IntWalk.iteOmega, r1, r2, hv5] <;> first | done | exact rfl | (rw [IntWalk.i64_in _ (by omega)]; exact rfl) | trace_state)
    refine wpPt_val rfl rfl ?_
    apply Exists.intro
    refine ⟨fun w' hS => ?_, ?_⟩
    focus (have r1 := fun i => grew_rule_off hS (n := t) (by simp; omega) HTP.out i; have r2 := fun i => grew_rule_off hS (n := w.heap.size) (by simp; omega) HOP.out i; have hne : w.heap.size ≠ t := (by omega); simp [go_sem, ↓IntWalk.iteOmega, r1, r2, hv5] <;> first | done | exact rfl | (rw [IntWalk.i64_in _ (by omega)]; exact rfl) | trace_state)
    refine wpPt_one rfl rfl (fun K hK => ?_)
    go_simp
    refine hK _ _ (fun hkn => (by repeat (first | assumption | exact grew_refl _ _ | apply grew_alloc | apply grew_drew))) ?_
    clear hK K
    refine wpPt_one rfl rfl (fun K hK => ?_)
    refine oper_append_at encP _ _ _ _ k0 _ 16 rfl Try.underlying25 hk kz0 kz1 kz2 rfl (by decide) ps pa pc 0 (by repeat (first | (with_reducible exact HP5.out) | (with_reducible apply Own.plus) | (with_reducible apply Own.alloc) | (with_reducible apply Own.drew) | (with_reducible refine own_patch ?_ HTP.out))) rfl [p] _ 0 1 (new_cells encP p _ _ (by first | omega | rfl | (simp <;> omega) | (simp only [List.length_cons, List.length_nil, plus_size, World.size_alloc]; omega))) rfl (by first | omega | rfl | (simp <;> omega) | (simp only [List.length_cons, List.length_nil, plus_size, World.size_alloc]; omega)) (by first | omega | rfl | (simp <;> omega) | (simp only [List.length_cons, List.length_nil, plus_size, World.size_alloc]; omega)) (by first | omega | rfl | (simp <;> omega) | (simp only [List.length_cons, List.length_nil, plus_size, World.size_alloc]; omega)) ?_
    intro pa' pc' w6 hp6 hg6 hx6
    have HP6 := Lib.hid hp6
    have HG6 := Lib.hid hg6
    have HX6 := Lib.hid hx6
    have hz6 := hg6.size
    simp at hz6
    have HB6 := Lib.hid (blk_grew hg6 (blk_alloc (blk_drew (patch_at w5 t _ ht5)) _) HTP.out)
    have s6 := fun v => setCell_patch HB6.out 3 v
    have f6 := free_of HB6.out
    have r6 := cell_of HB6.out
    clear hp6 hx6
    refine hK _ _ (fun hkn => by refine grew_trans ?_ hg6; exact grew_alloc (grew_drew (grew_refl _ _)) _) ?_
    clear hK K
    refine wpPt_one rfl rfl (fun K hK => ?_)
    go_simp
    refine hK _ _ (fun hkn => absurd hkn (by decide)) ?_
    clear hK K
    refine wpPt_one rfl rfl (fun K hK => ?_)
    go_simp
    refine hK _ _ (fun hkn => absurd hkn (by decide)) ?_
    clear hK K
    refine wpPt_one rfl rfl (fun K hK => ?_)
    go_simp
    refine hK _ _ (fun hkn => absurd hkn (by decide)) ?_
    clear hK K
    refine wpPt_one rfl rfl (fun K hK => ?_)
    go_simp
    refine hK _ _ (fun hkn => absurd hkn (by decide)) ?_
    clear hK K
    refine NoPanic.normal ?_
    have tp' := HX6.out.off HTP.out (k := t) (by simp; omega)
    have tq' := HX5.out.off HTQ.out (k := t) (by simp; omega)
    have qp' := nxt_off HX5.out (off_comm HPQ.out) (fun Y hY => by have := (own_lt HP.out Y hY).2; (try simp at this); simp; omega)
    have qn' := nxt_off HX5.out (off_comm HNQ.out) (fun Y hY => by have := (own_lt HN.out Y hY).2; (try simp at this); simp; omega)
    have on6 := own_grew (own_alloc_drew (own_patch (b := t) (ob := _) HN5.out HTN.out) _) HG6.out (off_comm HPN.out)
    have oq6 := own_grew (own_alloc_drew (own_patch (b := t) (ob := _) HQ5.out tq') _) HG6.out qp'
    refine bodyPost_end (v := .tuple #[]) (by simp [results, Try.results113, go_sem]) rfl ⟨rfl, pa', pc', _, _, qa', qc', _, _, ⟨hs, HOK.out, by simp; omega, ⟨by rw [show (ps ++ [p]).length = ps.length + 1 by simp, show (pn ++ [(N.length : Int)]).length = pn.length + 1 by simp]; first | exact patch_at _ _ _ (by omega) | (rw [show (pushN N q p.b (nw l ps.length) up).length = N.length + 1 by simp [pushN]]; exact patch_at _ _ _ (by omega)), own_patch HP6.out tp', own_patch on6 HTN.out, own_patch oq6 tq', tp', HTN.out, tq', nxt_off HX6.out HPN.out (fun Y hY => by have := (own_lt HN.out Y hY).2; (try simp at this); simp; omega), nxt_off HX6.out (off_comm qp') (fun Y hY => by have := (own_lt HQ5.out Y hY).2; (try simp at this); simp; omega), off_comm qn'⟩, HTI.out⟩, ?_, HX6.out.within (by simp; omega), HWN.out, HX5.out.within (by simp; omega)⟩
    refine turned_patch (turned_grew (turned_alloc (turned_drew (turned_patch (turned_grew ?_ HG5.out (fun X hX => .inr (.inr (.inl ⟨X, hX, rfl⟩)))) _)) _) HG6.out (fun X hX => .inl ⟨X, hX, rfl⟩)) _
    exact (by repeat (first | (with_reducible exact HTW.out) | (with_reducible apply turned_plus) | (with_reducible apply turned_alloc) | (with_reducible apply turned_drew)))
  · have HC1 := Lib.hid hc1
    have HC2 := Lib.hid hc2
    clear hc1 hc2
    go_enter Try.func113, Try.ntmps113
    go_wp2_with fail
    refine (nodeOf_any _ _ (H.out.alloc _) HPW.out).mono ?_
    rintro e w' ⟨rfl, x1, rfl⟩
    rw [HQX.out]
    go_wp2_with fail
    refine (child_any q p.b _ ((H.out.alloc _).plus _) HQW.out hb0 hb2).mono ?_
    rintro e w' ⟨rfl, x2, rfl⟩
    rw [HC1.out]
    have v0 : decide ((r : Int) < 0) = false := by simp
    have hrl := (List.getElem?_eq_some_iff.1 HC2.out).1
    rw [← H.out.ti.tn.len] at hrl
    have hr0 : (r : Int) ≤ 3000 := by omega
    have HTI := Lib.hid (H.out.ti.old (p := p) HOK.out (r := (r : Int)) (c := cr) (by omega) (by simpa using HC2.out))
    have HTW := Lib.hid (turned_refl t pa na qa w)
    have HWN := Lib.hid (within_refl na w.heap.size)
    obtain ⟨j0, hj, jz0, jz1, jz2⟩ := info_parts infoInt
    obtain ⟨k0, hk, kz0, kz1, kz2⟩ := info_parts infoPair
    go_wp2_with (at_builtin; refine wpList_append_at encI _ _ _ _ j0 _ 8 rfl rfl Try.underlying55 hj jz0 jz1 jz2 rfl (by decide) pn qa qc 0 (by repeat (first | (with_reducible exact HQ.out) | (with_reducible apply Own.plus) | (with_reducible apply Own.alloc) | (with_reducible apply Own.drew))) rfl [(r : Int)] _ 0 1 (new_cells encI (r : Int) _ _ (by first | omega | rfl | (simp <;> omega) | (simp only [List.length_cons, List.length_nil, plus_size, World.size_alloc]; omega))) rfl (by first | omega | rfl | (simp <;> omega) | (simp only [List.length_cons, List.length_nil, plus_size, World.size_alloc]; omega)) (by first | omega | rfl | (simp <;> omega) | (simp only [List.length_cons, List.length_nil, plus_size, World.size_alloc]; omega)) (by first | omega | rfl | (simp <;> omega) | (simp only [List.length_cons, List.length_nil, plus_size, World.size_alloc]; omega)) ?_; intro qa' qc' w5 hq5 hg5 hx5; have HQ5 := Lib.hid hq5; have HG5 := Lib.hid hg5; have HX5 := Lib.hid hx5; have hz5 := hg5.size; simp at hz5; have HB5 := Lib.hid (blk_grew hg5 (by repeat (first | (with_reducible exact HB.out) | (with_reducible apply blk_seq) | (with_reducible apply blk_draw) | (with_reducible apply blk_plus) | (with_reducible apply blk_alloc) | (with_reducible apply blk_drew) | (with_reducible refine blk_patch ?_ (by omega)) | exact HB.out)) HTQ.out); have HV5 := Lib.hid (blk_grew hg5 (by repeat (first | (with_reducible exact HV.out) | (with_reducible apply blk_seq) | (with_reducible apply blk_draw) | (with_reducible apply blk_plus) | (with_reducible apply blk_alloc) | (with_reducible apply blk_drew) | (with_reducible refine blk_patch ?_ (by omega)) | exact HV.out)) HOQ.out); have HP5 := Lib.hid (own_grew (w := _) (by repeat (first | (with_reducible exact HP.out) | (with_reducible apply Own.plus) | (with_reducible apply Own.alloc) | (with_reducible apply Own.drew))) hg5 HPQ.out); have HN5 := Lib.hid (own_grew (w := _) (by repeat (first | (with_reducible exact HN.out) | (with_reducible apply Own.plus) | (with_reducible apply Own.alloc) | (with_reducible apply Own.drew))) hg5 HNQ.out); have r5 := cell_of HB5.out; have f5 := free_of HB5.out; have s5 := fun v => setCell_patch HB5.out 7 v; clear hq5 hg5 hx5)
    have hv5 := cell_of HV5.out
    have ht5 : t < w5.heap.size := by omega
    refine wp_region_pt 9 (fun w' => Grew pa _ w') (Plan.quiet 0 (Plan.quiet 1 (Plan.quiet 2 (Plan.quiet 3 (Plan.quiet 4 (Plan.quiet 5 (Plan.quiet 6 (Plan.one 7 (Plan.one 8 (Plan.one 9 (Plan.one 10 (Plan.one 11 (Plan.one 12 Plan.done))))))))))))) (by kernel_rfl) (by kernel_rfl) (grew_drew (grew_refl _ _)) ?_
    refine wpPt_val rfl rfl ?_
    apply Exists.intro
    refine ⟨fun w' hS => ?_, ?_⟩
    focus (have r1 := fun i => grew_rule_off hS (n := t) (by simp; omega) HTP.out i; have r2 := fun i => grew_rule_off hS (n := w.heap.size) (by simp; omega) HOP.out i; have hne : w.heap.size ≠ t := (by omega); simp [go_sem, ↓IntWalk.iteOmega, r1, r2, hv5] <;> first | done | exact rfl | (rw [IntWalk.i64_in _ (by omega)]; exact rfl) | trace_state)
    refine wpPt_val rfl rfl ?_
    apply Exists.intro
    refine ⟨fun w' hS => ?_, ?_⟩
    focus (have r1 := fun i => grew_rule_off hS (n := t) (by simp; omega) HTP.out i; have r2 := fun i => grew_rule_off hS (n := w.heap.size) (by simp; omega) HOP.out i; have hne : w.heap.size ≠ t := (by omega); simp [go_sem, ↓IntWalk.iteOmega, r1, r2, hv5] <;> first | done | exact rfl | (rw [IntWalk.i64_in _ (by omega)]; exact rfl) | trace_state)
    refine wpPt_val rfl rfl ?_
    apply Exists.intro
    refine ⟨fun w' hS => ?_, ?_⟩
    focus (have r1 := fun i => grew_rule_off hS (n := t) (by simp; omega) HTP.out i; have r2 := fun i => grew_rule_off hS (n := w.heap.size) (by simp; omega) HOP.out i; have hne : w.heap.size ≠ t := (by omega); simp [go_sem, ↓IntWalk.iteOmega, r1, r2, hv5] <;> first | done | exact rfl | (rw [IntWalk.i64_in _ (by omega)]; exact rfl) | trace_state)
    refine wpPt_val rfl rfl ?_
    apply Exists.intro
    refine ⟨fun w' hS => ?_, ?_⟩
    focus (have r1 := fun i => grew_rule_off hS (n := t) (by simp; omega) HTP.out i; have r2 := fun i => grew_rule_off hS (n := w.heap.size) (by simp; omega) HOP.out i; have hne : w.heap.size ≠ t := (by omega); simp [go_sem, ↓IntWalk.iteOmega, r1, r2, hv5] <;> first | done | exact rfl | (rw [IntWalk.i64_in _ (by omega)]; exact rfl) | trace_state)
    refine wpPt_val rfl rfl ?_
    apply Exists.intro
    refine ⟨fun w' hS => ?_, ?_⟩
    focus (have r1 := fun i => grew_rule_off hS (n := t) (by simp; omega) HTP.out i; have r2 := fun i => grew_rule_off hS (n := w.heap.size) (by simp; omega) HOP.out i; have hne : w.heap.size ≠ t := (by omega); simp [go_sem, ↓IntWalk.iteOmega, r1, r2, hv5] <;> first | done | exact rfl | (rw [IntWalk.i64_in _ (by omega)]; exact rfl) | trace_state)
    refine wpPt_val rfl rfl ?_
    apply Exists.intro
    refine ⟨fun w' hS => ?_, ?_⟩
    focus (have r1 := fun i => grew_rule_off hS (n := t) (by simp; omega) HTP.out i; have r2 := fun i => grew_rule_off hS (n := w.heap.size) (by simp; omega) HOP.out i; have hne : w.heap.size ≠ t := (by omega); simp [go_sem, ↓IntWalk.iteOmega, r1, r2, hv5] <;> first | done | exact rfl | (rw [IntWalk.i64_in _ (by omega)]; exact rfl) | trace_state)
    refine wpPt_val rfl rfl ?_
    apply Exists.intro
    refine ⟨fun w' hS => ?_, ?_⟩
    focus (have r1 := fun i => grew_rule_off hS (n := t) (by simp; omega) HTP.out i; have r2 := fun i => grew_rule_off hS (n := w.heap.size) (by simp; omega) HOP.out i; have hne : w.heap.size ≠ t := (by omega); simp [go_sem, ↓IntWalk.iteOmega, r1, r2, hv5] <;> first | done | exact rfl | (rw [IntWalk.i64_in _ (by omega)]; exact rfl) | trace_state)
    refine wpPt_one rfl rfl (fun K hK => ?_)
    go_simp
    refine hK _ _ (fun hkn => (by repeat (first | assumption | exact grew_refl _ _ | apply grew_alloc | apply grew_drew))) ?_
    clear hK K
    refine wpPt_one rfl rfl (fun K hK => ?_)
    refine oper_append_at encP _ _ _ _ k0 _ 16 rfl Try.underlying25 hk kz0 kz1 kz2 rfl (by decide) ps pa pc 0 (by repeat (first | (with_reducible exact HP5.out) | (with_reducible apply Own.plus) | (with_reducible apply Own.alloc) | (with_reducible apply Own.drew) | (with_reducible refine own_patch ?_ HTP.out))) rfl [p] _ 0 1 (new_cells encP p _ _ (by first | omega | rfl | (simp <;> omega) | (simp only [List.length_cons, List.length_nil, plus_size, World.size_alloc]; omega))) rfl (by first | omega | rfl | (simp <;> omega) | (simp only [List.length_cons, List.length_nil, plus_size, World.size_alloc]; omega)) (by first | omega | rfl | (simp <;> omega) | (simp only [List.length_cons, List.length_nil, plus_size, World.size_alloc]; omega)) (by first | omega | rfl | (simp <;> omega) | (simp only [List.length_cons, List.length_nil, plus_size, World.size_alloc]; omega)) ?_
    intro pa' pc' w6 hp6 hg6 hx6
    have HP6 := Lib.hid hp6
    have HG6 := Lib.hid hg6
    have HX6 := Lib.hid hx6
    have hz6 := hg6.size
    simp at hz6
    have HB6 := Lib.hid (blk_grew hg6 (blk_alloc (blk_drew (patch_at w5 t _ ht5)) _) HTP.out)
    have s6 := fun v => setCell_patch HB6.out 3 v
    have f6 := free_of HB6.out
    have r6 := cell_of HB6.out
    clear hp6 hx6
    refine hK _ _ (fun hkn => by refine grew_trans ?_ hg6; exact grew_alloc (grew_drew (grew_refl _ _)) _) ?_
    clear hK K
    refine wpPt_one rfl rfl (fun K hK => ?_)
    go_simp
    refine hK _ _ (fun hkn => absurd hkn (by decide)) ?_
    clear hK K
    refine wpPt_one rfl rfl (fun K hK => ?_)
    go_simp
    refine hK _ _ (fun hkn => absurd hkn (by decide)) ?_
    clear hK K
    refine wpPt_one rfl rfl (fun K hK => ?_)
    go_simp
    refine hK _ _ (fun hkn => absurd hkn (by decide)) ?_
    clear hK K
    refine wpPt_one rfl rfl (fun K hK => ?_)
    go_simp
    refine hK _ _ (fun hkn => absurd hkn (by decide)) ?_
    clear hK K
    refine NoPanic.normal ?_
    have tp' := HX6.out.off HTP.out (k := t) (by simp; omega)
    have tq' := HX5.out.off HTQ.out (k := t) (by simp; omega)
    have qp' := nxt_off HX5.out (off_comm HPQ.out) (fun Y hY => by have := (own_lt HP.out Y hY).2; (try simp at this); simp; omega)
    have qn' := nxt_off HX5.out (off_comm HNQ.out) (fun Y hY => by have := (own_lt HN.out Y hY).2; (try simp at this); simp; omega)
    have on6 := own_grew (own_alloc_drew (own_patch (b := t) (ob := _) HN5.out HTN.out) _) HG6.out (off_comm HPN.out)
    have oq6 := own_grew (own_alloc_drew (own_patch (b := t) (ob := _) HQ5.out tq') _) HG6.out qp'
    refine bodyPost_end (v := .tuple #[]) (by simp [results, Try.results113, go_sem]) rfl ⟨rfl, pa', pc', _, _, qa', qc', _, _, ⟨hs, HOK.out, by simp; omega, ⟨by rw [show (ps ++ [p]).length = ps.length + 1 by simp, show (pn ++ [(r : Int)]).length = pn.length + 1 by simp]; first | exact patch_at _ _ _ (by omega) | (rw [show (pushN N q p.b (nw l ps.length) up).length = N.length + 1 by simp [pushN]]; exact patch_at _ _ _ (by omega)), own_patch HP6.out tp', own_patch on6 HTN.out, own_patch oq6 tq', tp', HTN.out, tq', nxt_off HX6.out HPN.out (fun Y hY => by have := (own_lt HN.out Y hY).2; (try simp at this); simp; omega), nxt_off HX6.out (off_comm qp') (fun Y hY => by have := (own_lt HQ5.out Y hY).2; (try simp at this); simp; omega), off_comm qn'⟩, HTI.out⟩, ?_, HX6.out.within (by simp; omega), HWN.out, HX5.out.within (by simp; omega)⟩
    refine turned_patch (turned_grew (turned_alloc (turned_drew (turned_patch (turned_grew ?_ HG5.out (fun X hX => .inr (.inr (.inl ⟨X, hX, rfl⟩)))) _)) _) HG6.out (fun X hX => .inl ⟨X, hX, rfl⟩)) _
    exact (by repeat (first | (with_reducible exact HTW.out) | (with_reducible apply turned_plus) | (with_reducible apply turned_alloc) | (with_reducible apply turned_drew)))

end Go.Proofs.Ytlihhlihcjncoaa

/- The walk of newTree: the tree of what is known. -/
namespace Go.Proofs.Ytlihhlihcjncoaa
open Go.RowKit
set_option linter.unusedVariables false
set_option linter.unusedSimpArgs false

def rootsN (n : Nat) : List Nd := (List.range n).map fun (b : Nat) => Nd.mk (-1) (-1) (-1) (b : Int) (b : Int) (b : Int)

theorem rootsN_len (n : Nat) : (rootsN n).length = n := by simp [rootsN]

theorem rootsN_succ (n : Nat) : rootsN (n + 1) = rootsN n ++ [Nd.mk (-1) (-1) (-1) n n n] := by simp [rootsN, List.range_succ]

theorem rootsN_get {n i : Nat} {d : Nd} (h : (rootsN n)[i]? = some d) : i < n ∧ d = Nd.mk (-1) (-1) (-1) i i i := by
  have hl := (List.getElem?_eq_some_iff.1 h).1
  rw [rootsN_len] at hl
  refine ⟨hl, ?_⟩
  simp [rootsN, hl] at h
  exact h.symm

theorem TI_roots {l : Int} (h0 : 2 ≤ two l) (h1 : two l ≤ 256) : TI l [] (rootsN (two l).toNat) [] := by
  refine ⟨⟨?_, fun i d hd => ?_⟩, rfl, fun j i h => by simp at h⟩
  · show _ = (lits l).length
    rw [rootsN_len, lits_len]
  · obtain ⟨hi, rfl⟩ := rootsN_get hd
    refine ⟨[UInt8.ofNat i], i, lits_get (by omega), rfl, ?_, ?_, ⟨by show (0 : Int) ≤ (i : Int); omega, by show (i : Int) ≤ 255; omega⟩, .inl ⟨by omega, rfl, rfl⟩⟩
    · unfold Go.Proofs.Ytlihhlihcjncoaa.hd
      simp only [List.head?_cons, Option.getD_some, UInt8.toNat_ofNat']
      have : i % 256 = i := Nat.mod_eq_of_lt (by omega)
      exact congrArg Nat.cast this.symm
    · show (-1 : Int) = _
      rcases lastKid_spec (par (rootsN (two l).toNat)) (i : Int) (rootsN (two l).toNat).length with ⟨h, _⟩ | ⟨k, _, _, h3, _⟩
      · exact h.symm
      · exfalso
        obtain ⟨d, hd, hp⟩ := par_inv h3
        obtain ⟨_, rfl⟩ := rootsN_get hd
        simp at hp

theorem push_new (w : World) (o : Obj) (n : Nat) (h : n = w.heap.size) : (w.alloc o).heap[n]? = some o := by
  subst h
  rw [push_at, if_neg (Nat.lt_irrefl _), if_pos rfl]

/-- a lies from block B on -/
def Lo (a : Option Addr) (B : Nat) : Prop := ∀ A, a = some A → B ≤ A.block

theorem off_none (k : Nat) : Off none k := fun A h => by cases h

theorem lo_none (k : Nat) : Lo none k := fun A h => by cases h

theorem Lo.within {a a' : Option Addr} {B n : Nat} (h : Lo a B) (hw : Within a a' n) (hn : B ≤ n) : Lo a' B := fun X hX => by
  rcases hw X hX with ⟨Y, hY, he⟩ | he
  · have := h Y hY; omega
  · omega

theorem own_lo {α : Type} {E : Enc α} {e : TypeId} {w : World} {a : Option Addr} {cap : Nat} {xs : List α} {lo : Nat} (h : Own E e w a cap xs lo) : Lo a lo := fun A hA => (own_lt h A hA).1

theorem Turned.below {t : Nat} {pa na qa : Option Addr} {w w' : World} (h : Turned t pa na qa w w') {B : Nat} (hB : B ≤ w.heap.size) (ht : B ≤ t) (hp : Lo pa B) (hn : Lo na B) (hq : Lo qa B) : Below B w w' :=
  ⟨h.os, h.tape, h.output, h.size, fun k hk => h.block k (by omega) (by omega) (fun A hA => by have := hp A hA; omega) (fun A hA => by have := hn A hA; omega) (fun A hA => by have := hq A hA; omega)⟩

/-- what newTree leaves -/
def RetTree (o l m : Int) (ps : List Pr) (base last : Int) (w : World) (e : Ending) (w' : World) : Prop :=
  ∃ t pa pc na nc qa qc N pn, e = .returned (.pointer (some ⟨t, 0, none⟩)) ∧ Tk w' t pa pc na nc qa qc o l m ps base last N pn ∧ w.heap.size ≤ t ∧ Lo pa w.heap.size ∧ Lo na w.heap.size ∧ Lo qa w.heap.size ∧ ∃ x, w' = plus w x

theorem blk_below {B : Nat} {w w' : World} {k : Nat} {ob : Obj} (hb : Below B w w') (h : w.heap[k]? = some ob) (hk : k < B) : w'.heap[k]? = some ob := by
  rw [hb.block k hk]; exact h

set_option maxRecDepth 100000 in
set_option maxHeartbeats 4000000 in
theorem newTree_any (o l m : Int) (a : Option Addr) (cap : Nat) (ps : List Pr) (base last : Int) (w : World) (hr : RdP w a cap ps) (hs : sv o l m = true) (hok : OKs l ps) (hlen : ps.length ≤ 2000) :
    Calls Try.prog 70 #[.agg #[.int .i64 o, .int .i64 l, .int .i64 m, .slice a ps.length cap, .int .i64 base, .int .i64 last]] w (RetTree o l m ps base last w) := by
  obtain ⟨_, l1, l2, _, _⟩ := sv_iff.1 hs
  obtain ⟨t1, t2⟩ := two_lit l1 l2
  obtain ⟨i0, hi, iz0, iz1, iz2⟩ := info_parts infoNode
  obtain ⟨r1, r2, r3⟩ := hr.open
  have HOK := Lib.hid hok
  clear hok
  go_enter Try.func70, Try.ntmps70
  go_wp2_with (go_at_call 38; refine (ClearCode_yes _ _ _ hs _).mono ?_; rintro e w' ⟨rfl, xc, rfl⟩)
  go_loopw [17] (fun q wr => ∃ (k : Nat) (na : Option Addr) (nc : Nat), (k : Int) ≤ two l ∧ q = .int .i64 k ∧ Own encN 121 wr na nc (rootsN k) (w.heap.size + 2) ∧
      wr.heap[w.heap.size + 1]? = some (.cells #[.int .i64 o, .int .i64 l, .int .i64 m, .slice none 0 0, .int .i64 base, .int .i64 last, .slice na k nc, .slice none 0 0] 119 (0, 0)) ∧
      Below (w.heap.size + 1) (w.alloc (.cells #[.int .i64 o, .int .i64 l, .int .i64 m, .slice a ps.length cap, .int .i64 base, .int .i64 last] 27)) wr ∧ w.heap.size + 2 ≤ wr.heap.size) (fun q _ => (two l - intOf q).toNat)
  case atStart =>
    refine ⟨0, none, 0, by omega, rfl, .inl ⟨rfl, rfl, rfl⟩, ?_, ?_, ?_⟩
    · exact blk_plus (push_new _ _ _ (by simp)) _
    · exact (by repeat (first | exact Below.refl _ _ | refine below_plus ?_ (by first | omega | (simp <;> omega)) _ | refine Below.alloc ?_ (by first | omega | (simp <;> omega)) _ | refine below_patch ?_ (by omega) _ | refine Below.drew ?_))
    · simp
  case round =>
    obtain ⟨k, na, nc, hk, rfl, hown, hblk, hbl, hsz⟩ := hrel
    have HO := Lib.hid hown
    have HB := Lib.hid hblk
    have HL := Lib.hid hbl
    have rb := cell_of hblk
    have fb := free_of hblk
    have hrl := rootsN_len k
    have hrule := below_rule hbl
    have htl := (Array.getElem?_eq_some_iff.1 hblk).1
    rcases dec ((k : Int) < two l) with ⟨hlt, v1⟩ | ⟨hlt, v1⟩
    · clear hown hblk hbl
      go_wp2_with (at_builtin; refine wpList_append_at encN _ _ _ _ i0 _ 40 rfl rfl Try.underlying117 hi iz0 iz1 iz2 rfl (by decide) (rootsN k) na nc (w.heap.size + 2) (by repeat (first | (with_reducible exact HO.out) | (with_reducible apply Own.plus) | (with_reducible apply Own.alloc) | (with_reducible apply Own.drew))) (by rw [rootsN_len]; rfl) [Nd.mk (-1) (-1) (-1) k k k] _ 0 1 (new_cells encN (Nd.mk (-1) (-1) (-1) k k k) _ _ (by first | omega | rfl | (simp <;> omega) | (simp only [List.length_cons, List.length_nil, plus_size, World.size_alloc]; omega))) rfl (by rw [rootsN_len]; simp; omega) (by rw [rootsN_len]; simp; omega) (by simp; omega) ?_; intro na' nc' w3 hn3 hg3 hx3; have HN3 := Lib.hid hn3; have HG3 := Lib.hid hg3; have hz3 := hg3.size; simp at hz3; have HB3 := Lib.hid (blk_grew hg3 (by repeat (first | (with_reducible exact HB.out) | (with_reducible apply blk_seq) | (with_reducible apply blk_draw) | (with_reducible apply blk_plus) | (with_reducible apply blk_alloc) | (with_reducible apply blk_drew) | (with_reducible refine blk_patch ?_ (by omega)) | exact HB.out)) (fun A hA e => by have := own_lo HO.out A hA; omega)); have s3 := fun v => setCell_patch HB3.out 6 v; have f3 := free_of HB3.out; have r3 := cell_of HB3.out; clear hn3 hg3 hx3)
      go_roundw
      case rel =>
        refine ⟨k + 1, na', nc', by omega, by go_num, ?_, patch_at _ _ _ (by omega), HL.out.trans (below_patch ((Below.alloc (Below.refl _ _) (by omega) _).trans (HG3.out.below (by simp; omega) (fun A hA => by have := own_lo HO.out A hA; omega))) (by omega) _), by simp; omega⟩
        rw [rootsN_succ]
        exact own_patch HN3.out (fun A hA e => by have := own_lo HN3.out A hA; omega)
      case measure => simp [intOf]; omega
    · obtain rfl : k = (two l).toNat := by omega
      clear hown hblk hbl
      go_wp2
      go_loopw [39] (fun q wr => ∃ (j : Nat) (pa : Option Addr) (pc : Nat) (na : Option Addr) (nc : Nat) (qa : Option Addr) (qc : Nat) (N : List Nd) (pn : List Int), j ≤ ps.length ∧ q = .int .i64 j ∧
          Tk wr (w.heap.size + 1) pa pc na nc qa qc o l m (ps.take j) base last N pn ∧ (Lo pa (w.heap.size + 1) ∧ Lo na (w.heap.size + 1) ∧ Lo qa (w.heap.size + 1)) ∧
          Below (w.heap.size + 1) (w.alloc (.cells #[.int .i64 o, .int .i64 l, .int .i64 m, .slice a ps.length cap, .int .i64 base, .int .i64 last] 27)) wr ∧ w.heap.size + 2 ≤ wr.heap.size) (fun q _ => ps.length - (intOf q).toNat)
      case atStart =>
        refine ⟨0, none, 0, na, nc, none, 0, rootsN (two l).toNat, [], by omega, rfl, ⟨hs, nil_ok, by simp, ⟨?_, .inl ⟨rfl, rfl, rfl⟩, HO.out.lower (by omega), .inl ⟨rfl, rfl, rfl⟩, off_none _, fun A hA e => (by have := own_lo HO.out A hA; omega), off_none _, fun A hA => absurd hA (by simp), fun A hA => absurd hA (by simp), fun A _ => off_none _⟩, TI_roots t1 t2⟩, ⟨lo_none _, fun A hA => (by have := own_lo HO.out A hA; omega), lo_none _⟩, HL.out, hsz⟩
        rw [rootsN_len]
        exact HB.out
      case round =>
        obtain ⟨j, pa, pc, na2, nc2, qa, qc, N, pn, hj, rfl, htk, ⟨lp, ln, lq⟩, hbl2, hsz2⟩ := hrel
        have HT := Lib.hid htk
        have HL2 := Lib.hid hbl2
        have HLP := Lib.hid lp
        have HLN := Lib.hid ln
        have HLQ := Lib.hid lq
        have hrule2 := below_rule hbl2
        have hblk2 := blk_below hbl2 (push_new w _ _ rfl) (Nat.lt_succ_self _)
        have rk2 := cell_of hblk2
        have htj : (ps.take j).length ≤ 2000 := by simp; omega
        clear htk hbl2 lp ln lq hblk2 hrule rb fb
        rcases dec (j < ps.length) with ⟨hlt2, v2⟩ | ⟨hlt2, v2⟩
        · have hex : ∃ p, ps[j]? = some p := ⟨_, List.getElem?_eq_getElem hlt2⟩
          obtain ⟨p, hp⟩ := hex
          rcases r3 with rfl | ⟨b, off, rfl, hb, hc⟩
          · exact absurd hlt2 (by omega)
          obtain ⟨c1, c2⟩ := hc j p hp
          have HPO := Lib.hid (show okP l (ps.take j).length p by rw [List.length_take, Nat.min_eq_left (by omega)]; exact HOK.out j p hp)
          have HPJ := Lib.hid (take_snoc_some hp).symm
          have htj2 : (ps.take j).length < 2000 := by simp; omega
          clear hp hc
          go_wp2_with fail
          refine (learn_any p _ (by repeat (first | (with_reducible exact HT.out) | (with_reducible apply Tk.plus) | (with_reducible apply Tk.alloc) | (with_reducible apply Tk.drew))) HPO.out htj2).mono ?_
          rintro e w4 ⟨rfl, pa', pc', na', nc', qa', qc', N', pn', htk', htu, hwp, hwn, hwq⟩
          simp only [World.size_alloc, plus_size] at hwp hwn hwq
          have HTK := Lib.hid htk'
          have HTU := Lib.hid htu
          have HWP := Lib.hid (HLP.out.within hwp (by omega))
          have HWN := Lib.hid (HLN.out.within hwn (by omega))
          have HWQ := Lib.hid (HLQ.out.within hwq (by omega))
          have hz4 := htu.size
          simp at hz4
          clear htk' htu hwp hwn hwq
          rw [HPJ.out] at HTK
          go_wp2
          go_roundw
          case rel =>
            exact ⟨j + 1, pa', pc', na', nc', qa', qc', N', pn', by omega, by go_num, HTK.out, ⟨HWP.out, HWN.out, HWQ.out⟩, HL2.out.trans ((show Below (w.heap.size + 1) wr _ from (by repeat (first | exact Below.refl _ _ | refine below_plus ?_ (by first | omega | (simp <;> omega)) _ | refine Below.alloc ?_ (by first | omega | (simp <;> omega)) _ | refine below_patch ?_ (by omega) _ | refine Below.drew ?_))).trans (HTU.out.below (by simp; omega) (by omega) HLP.out HLN.out HLQ.out)), by omega⟩
          case measure => simp [intOf]; omega
        · have hjj : j = ps.length := by omega
          go_wp2
          go_ret
          refine ⟨w.heap.size + 1, pa, pc, na2, nc2, qa, qc, N, pn, rfl, ?_, by omega, fun A hA => by have := HLP.out A hA; omega, fun A hA => by have := HLN.out A hA; omega, fun A hA => by have := HLQ.out A hA; omega, below_more (Below.trans (Below.alloc (Below.refl _ _) (Nat.le_refl _) _) (HL2.out.mono (by omega)))⟩
          have := HT.out
          rw [hjj, List.take_length] at this
          exact this

end Go.Proofs.Ytlihhlihcjncoaa

/- The walks of tree.codeOf, CodeOfWord, LongestWord and what they need of data. -/
namespace Go.Proofs.Ytlihhlihcjncoaa
open Go.RowKit
set_option linter.unusedVariables false
set_option linter.unusedSimpArgs false

theorem IsFnd.pos {l m : Int} {ps : List Pr} {last : Int} {d : List UInt8} {n : Nat} {c : Int} (h : IsLon l m ps last d n) (hc : IsFnd l m ps last (d.take n) c) (h0 : 2 ≤ two l) : 0 ≤ c := by
  rcases hc with ⟨_, h2⟩ | ⟨h2, _⟩
  · obtain ⟨c', h3, h4⟩ := h.2.2.1
    exact absurd h4 (h2 c' h3)
  · exact h2.nonneg h0

/-- a code, and whether there is one -/
def codeV (c : Int) : Value := .tuple #[.int .i64 (if c < 0 then 0 else c), .bool (decide (0 ≤ c))]

theorem codeV_no : codeV (-1) = .tuple #[.int .i64 0, .bool false] := rfl

theorem codeV_yes {c : Int} (h : 0 ≤ c) : codeV c = .tuple #[.int .i64 c, .bool true] := by
  unfold codeV
  rw [if_neg (by omega), decide_eq_true h]

set_option maxRecDepth 100000 in
set_option maxHeartbeats 1000000 in
theorem codeOf_any {t : Nat} {pa : Option Addr} {pc : Nat} {na : Option Addr} {nc : Nat} {qa : Option Addr} {qc : Nat} {o l m : Int} {ps : List Pr} {base last : Int} {N : List Nd} {pn : List Int} (s : ByteArray) (w : World)
    (h : Tk w t pa pc na nc qa qc o l m ps base last N pn) (hlast : last = -1 ∨ hw l ps.length last = true) (hs2 : s.size ≤ maxLen) (c : Int) (hc : IsFnd l m ps last s.data.toList c) :
    Calls Try.prog 77 #[.pointer (some ⟨t, 0, none⟩), .string s] w (Ret w (codeV c)) := by
  obtain ⟨l1, l2, l3, l4, t1, t2, t3, t4⟩ := h.lit
  obtain ⟨ht, c0, c1, c2, c3, c4, c5, c6, c7⟩ := h.at'.cells
  have hs := h.s
  have HT := Lib.hid h
  have HC := Lib.hid hc
  have HM := Lib.hid hs2
  have HOK := Lib.hid h.ok
  unfold maxLen at hs2
  have he1 := isEmpty_size s
  clear h hc
  by_cases hz : s.size = 0
  · have HN := Lib.hid (fnd_none (m := m) (ps := ps) (last := last) (w := s.data.toList) HOK.out t1 t2 hlast (fun x hx => by
      have : s.data.toList = [] := List.eq_nil_of_length_eq_zero (by rw [bytes_len]; exact hz)
      rw [this] at hx; simp at hx))
    obtain rfl := HC.out.eq HN.out
    rw [decide_eq_true hz] at he1
    clear hz
    go_enter Try.func77, Try.ntmps77
    go_wp2
    (refine wp_region_calm (by kernel_rfl) (by kernel_rfl) ?_
     repeat (first | go_big_quiet_skip | (go_big_quiet_want; go_big_quiet_op; first | go_big_quiet_on | (apply Exists.intro; refine ⟨fun _ => ?_, ?_⟩; (focus (fail)); go_big_quiet_on)))
     refine wpQuiet_nil ?_
     intro _ hw'
     obtain ⟨xq, hw''⟩ := hw'
     subst hw'')
    go_wp2
    go_ret2
    exact ret_of codeV_no.symm (by repeat (first | exact More.refl _ | apply More.plus | apply More.alloc | apply More.drew | apply More.drewN))
  · have hpos : 0 < s.size := by omega
    rw [decide_eq_false hz] at he1
    have b0 := s[0].toNat_lt
    clear hz
    rcases dec (two l ≤ (s[0].toNat : Int)) with ⟨g1, v1⟩ | ⟨g1, v1⟩
    · have HN := Lib.hid (fnd_none (m := m) (ps := ps) (last := last) (w := s.data.toList) HOK.out t1 t2 hlast (fun x hx => by
        have h0 := bytes_get hpos
        rw [List.head?_eq_getElem?, List.getElem?_eq_getElem (by rw [bytes_len]; exact hpos), h0] at hx
        cases hx; omega))
      obtain rfl := HC.out.eq HN.out
      go_enter Try.func77, Try.ntmps77
      go_wp2
      (refine wp_region_calm (by kernel_rfl) (by kernel_rfl) ?_
       repeat (first | go_big_quiet_skip | (go_big_quiet_want; go_big_quiet_op; first | go_big_quiet_on | (apply Exists.intro; refine ⟨fun _ => ?_, ?_⟩; (focus ((first | (go_at_call 38; first | refine calm_of (ClearCode_yes _ _ _ hs _) | refine calm_seq (ClearCode_yes _ _ _ hs _))))); go_big_quiet_on)))
       refine wpQuiet_nil ?_
       intro _ hw'
       obtain ⟨xq, hw''⟩ := hw'
       subst hw'')
      go_wp2
      go_ret2
      exact ret_of codeV_no.symm (by repeat (first | exact More.refl _ | apply More.plus | apply More.alloc | apply More.drew | apply More.drewN))
    · go_enter Try.func77, Try.ntmps77
      go_wp2
      (refine wp_region_calm (by kernel_rfl) (by kernel_rfl) ?_
       repeat (first | go_big_quiet_skip | (go_big_quiet_want; go_big_quiet_op; first | go_big_quiet_on | (apply Exists.intro; refine ⟨fun _ => ?_, ?_⟩; (focus ((first | (go_at_call 38; first | refine calm_of (ClearCode_yes _ _ _ hs _) | refine calm_seq (ClearCode_yes _ _ _ hs _))))); go_big_quiet_on)))
       refine wpQuiet_nil ?_
       intro _ hw'
       obtain ⟨xq, hw''⟩ := hw'
       subst hw'')
      go_wp2_with fail
      refine (longest_any s _ (by repeat (first | (with_reducible exact HT.out) | (with_reducible apply tk_seq) | (with_reducible apply Tk.plus) | (with_reducible apply Tk.alloc) | (with_reducible apply Tk.drew))) hlast hpos HM.out (by omega)).mono ?_
      rintro e w' ⟨cc, n, rfl, hl1, hl2, x, rfl⟩
      have hn2 := hl1.2.1
      rw [bytes_len] at hn2
      have hn1 := hl1.1
      rcases dec ((n : Int) < (s.size : Int)) with ⟨g2, v2⟩ | ⟨g2, v2⟩
      · obtain rfl := HC.out.eq (fnd_longer hl1 (by rw [bytes_len]; omega))
        clear hl1 hl2
        go_wp2
        go_ret2
        exact ret_of codeV_no.symm (by repeat (first | exact More.refl _ | apply More.plus | apply More.alloc | apply More.drew | apply More.drewN))
      · have hcp := hl2.pos hl1 t1
        rw [List.take_of_length_le (by rw [bytes_len]; omega)] at hl2
        obtain rfl := HC.out.eq hl2
        have HCP := Lib.hid (codeV_yes hcp)
        clear hl1 hl2
        go_wp2
        go_ret2
        exact ret_of (by rw [HCP.out]; rfl) (by repeat (first | exact More.refl _ | apply More.plus | apply More.alloc | apply More.drew | apply More.drewN))

set_option maxHeartbeats 1000000 in
theorem implCodeOfWord_yes (o l m : Int) (a : Option Addr) (cap : Nat) (ps : List Pr) (base last : Int) (s : ByteArray) (w : World) (hr : RdP w a cap ps) (hk : kvb o l m ps base last = true) (hs2 : s.size ≤ maxLen) (c : Int) (hc : IsFnd l m ps last s.data.toList c) :
    Calls Try.prog 19 #[.agg #[.int .i64 o, .int .i64 l, .int .i64 m, .slice a ps.length cap, .int .i64 base, .int .i64 last], .string s] w (Ret w (codeV c)) := by
  have hkv := kvb_iff.1 hk
  have hlen := kv_len hk
  have hlast : last = -1 ∨ hw l ps.length last = true := hkv.last.imp (fun h => h.1) id
  go_enter Try.func19, Try.ntmps19
  go_wp2_with fail
  refine (KnownValid_any _ _ _ _ _ _ _ _ _ (by repeat (first | exact hr | apply rd_seq | apply Rd.plus | apply Rd.alloc | apply Rd.drew | apply Rd.drewN | refine rd_patch ?_ _ _ (by intro A hA; first | (cases hA; show _ ≠ _; omega) | (have := hal A hA; omega))))).mono ?_
  rintro e w' ⟨rfl, x1, rfl⟩
  go_wp2_with fail
  refine (newTree_any _ _ _ _ _ _ _ _ _ (by repeat (first | exact hr | apply rd_seq | apply Rd.plus | apply Rd.alloc | apply Rd.drew | apply Rd.drewN | refine rd_patch ?_ _ _ (by intro A hA; first | (cases hA; show _ ≠ _; omega) | (have := hal A hA; omega)))) hkv.s hkv.ok hlen).mono ?_
  rintro e w' ⟨t, pa, pc, na, nc, qa, qc, N, pn, rfl, htk, g1, g2, g3, g4, x2, rfl⟩
  simp only [plus_plus] at htk
  have HT := Lib.hid htk
  clear htk g2 g3 g4
  go_wp2_with fail
  refine (codeOf_any s _ (by repeat (first | (with_reducible exact HT.out) | (with_reducible apply tk_seq) | (with_reducible apply Tk.plus) | (with_reducible apply Tk.alloc) | (with_reducible apply Tk.drew))) hlast hs2 c hc).mono ?_
  rintro e w' ⟨rfl, x3, rfl⟩
  have hcc : c = -1 ∨ 0 ≤ c := by
    obtain ⟨_, q1, q2, _, _⟩ := sv_iff.1 hkv.s
    rcases hc with ⟨h, _⟩ | ⟨h, _⟩
    · exact .inl h
    · exact .inr (h.nonneg (two_lit q1 q2).1)
  have HK := Lib.hid hkv
  clear hc hk hkv
  rcases hcc with rfl | hcp
  · rw [codeV_no]
    go_wp2
    go_ret2
    exact ret_of codeV_no.symm (by repeat (first | exact More.refl _ | apply More.plus | apply More.alloc | apply More.drew | apply More.drewN))
  · have HCP := Lib.hid (codeV_yes hcp)
    rw [HCP.out]
    go_wp2
    go_ret2
    exact ret_of (by rw [HCP.out]; rfl) (by repeat (first | exact More.refl _ | apply More.plus | apply More.alloc | apply More.drew | apply More.drewN))

theorem implCodeOfWord_no (o l m : Int) (a : Option Addr) (cap : Nat) (ps : List Pr) (base last : Int) (s : ByteArray) (w : World) (hr : RdP w a cap ps) (hk : kvb o l m ps base last = false) :
    Calls Try.prog 19 #[.agg #[.int .i64 o, .int .i64 l, .int .i64 m, .slice a ps.length cap, .int .i64 base, .int .i64 last], .string s] w (Ret w (codeV (-1))) := by
  go_enter Try.func19, Try.ntmps19
  go_wp2_with (go_at_call 17; refine (KnownValid_any _ _ _ _ _ _ _ _ _ (by repeat (first | exact hr | apply rd_seq | apply Rd.plus | apply Rd.alloc | apply Rd.drew | apply Rd.drewN | refine rd_patch ?_ _ _ (by intro A hA; first | (cases hA; show _ ≠ _; omega) | (have := hal A hA; omega))))).mono ?_; rintro e w' ⟨rfl, xc, rfl⟩)
  go_ret2
  exact ret_of codeV_no.symm (by repeat (first | exact More.refl _ | apply More.plus | apply More.alloc | apply More.drew | apply More.drewN))

end Go.Proofs.Ytlihhlihcjncoaa
