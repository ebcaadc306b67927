/- The walks of spec.l2Longest, CodeOfWord and of DataFits. -/
import Derived.Test.YtbedikodiboofaaSfn
import Derived.Test.YtbedikodiboofaaKvs
namespace Go.Proofs.Ytbedikodiboofaa
open Go.RowKit
set_option linter.unusedVariables false
set_option linter.unusedSimpArgs false

/-- among the codes below k the longest word with which d begins has n bytes -/
def LonTo (l m : Int) (ps : List Pr) (last : Int) (d : List UInt8) (n : Nat) (k : Int) : Prop :=
  1 ≤ n ∧ n ≤ d.length ∧ (∃ c, Okc l m ps.length last c ∧ anyW l ps last c = d.take n) ∧ ∀ c j, Okc l m ps.length last c → c < k → j ≤ d.length → anyW l ps last c = d.take j → j ≤ n

theorem LonTo.start {l m : Int} {ps : List Pr} {last : Int} {d : List UInt8} (h1 : two l ≤ 256) (hd : 0 < d.length) (hlit : ((d[0]).toNat : Int) < two l) : LonTo l m ps last d 1 (two l + 2) := by
  have hw0 : hw l ps.length ((d[0]).toNat : Int) = true := hw_iff.2 (by omega)
  refine ⟨by omega, by omega, ⟨_, .inl hw0, ?_⟩, fun c j hc hk hj he => ?_⟩
  · rw [any_hw hw0, W_lit (by omega), take_one_snoc (size := 0) hd]
    simp
  · obtain ⟨_, _, q⟩ := okc_low hc hk
    rw [any_hw q, W_lit (by omega)] at he
    have := congrArg List.length he
    rw [List.length_take] at this
    simp at this; omega

theorem LonTo.keep {l m : Int} {ps : List Pr} {last : Int} {d : List UInt8} {n : Nat} {k : Int} (h : LonTo l m ps last d n k) (hno : ∀ j, j ≤ d.length → anyW l ps last k = d.take j → j ≤ n) : LonTo l m ps last d n (k + 1) :=
  ⟨h.1, h.2.1, h.2.2.1, fun c j hc hk hj he => by
    by_cases e : c = k
    · subst e; exact hno j hj he
    · exact h.2.2.2 c j hc (by omega) hj he⟩

theorem LonTo.take {l m : Int} {ps : List Pr} {last : Int} {d : List UInt8} {n : Nat} {k : Int} (h : LonTo l m ps last d n k) (hc : Okc l m ps.length last k) {n' : Nat} (hn : n < n') (hn2 : n' ≤ d.length) (he : anyW l ps last k = d.take n') : LonTo l m ps last d n' (k + 1) :=
  ⟨by omega, hn2, ⟨k, hc, he⟩, fun c j hc' hk hj he' => by
    by_cases e : c = k
    · subst e
      rw [he] at he'
      have := congrArg List.length he'
      rw [List.length_take, List.length_take] at this
      omega
    · have := h.2.2.2 c j hc' (by omega) hj he'
      omega⟩

theorem LonTo.done {l m : Int} {ps : List Pr} {last : Int} {d : List UInt8} {n : Nat} {k : Int} (h : LonTo l m ps last d n k) (h0 : 2 ≤ two l) (hk : gt l m ps.length last < k) : IsLon l m ps last d n :=
  ⟨h.1, h.2.1, h.2.2.1, fun c j hc hj he => h.2.2.2 c j hc (by have := okc_le hc h0; omega) hj he⟩

set_option maxRecDepth 100000 in
set_option maxHeartbeats 2000000 in
theorem l2Longest_any (o l m : Int) (a : Option Addr) (cap : Nat) (ps : List Pr) (base last : Int) (s : ByteArray) (w : World) (hr : RdP w a cap ps) (hkv : KV o l m ps base last) (hs2 : s.size ≤ maxLen) (hsz : 0 < s.size) (hlit : (s[0].toNat : Int) < two l) (n : Nat) (hn : IsLon l m ps last s.data.toList n) :
    Calls Try.prog 75 #[.agg #[.int .i64 o, .int .i64 l, .int .i64 m, .slice a ps.length cap, .int .i64 base, .int .i64 last], .string s] w (Ret w (.string (bstr (s.data.toList.take n)))) := by
  unfold maxLen at hs2
  have hlen := kv_len (kvb_iff.2 hkv)
  have hs := hkv.s
  have hlim := hkv.lim
  obtain ⟨l1, l2, m2, lm, t1, t2, t4, t3⟩ := hlim.bds
  have la : 0 ≤ l := by omega
  have lb : l ≤ 10 := by omega
  have hlast := hlim.last
  have HV := Lib.hid hkv
  have HN := Lib.hid hn
  have HST := Lib.hid (LonTo.start (m := m) (ps := ps) (last := last) (d := s.data.toList) t2 (by rw [bytes_len]; exact hsz) (by rw [bytes_get hsz]; exact hlit))
  have hg1 : gt l m ps.length last ≤ 1023 := (gt_bd hlim).2.2
  have hex1 : s.extract 0 1 = bstr (s.data.toList.take 1) := by rw [← bstr_pre, bstr_bytes]
  have HE1 := Lib.hid hex1
  clear hkv hn hlim hlit hex1
  go_enter Try.func75, Try.ntmps75
  go_wp2_with (go_at_call 90; refine (l1End_any _ _ _ la lb _).mono ?_; rintro e w' ⟨rfl, xc, rfl⟩)
  go_loopw [5, 6] (fun b q wr => ∃ (k : Int) (x : ByteArray) (z : Nat), b = .string x ∧ q = .int .i64 k ∧ two l + 2 ≤ k ∧ k ≤ gt l m ps.length last + 1 ∧ x = bstr (s.data.toList.take z) ∧ LonTo l m ps last s.data.toList z k ∧ ∃ x, wr = plus (w.alloc (.cells #[.int .i64 o, .int .i64 l, .int .i64 m, .slice a ps.length cap, .int .i64 base, .int .i64 last] 31)) x) (fun _ q _ => (gt l m ps.length last + 1 - intOf q).toNat)
  case atStart => exact ⟨two l + 2, s.extract 0 1, 1, rfl, by go_num, by omega, by unfold gt nw; split <;> omega, HE1.out, HST.out, (by repeat (first | exact More.refl _ | apply More.plus | apply More.alloc | apply More.drew | apply More.drewN))⟩
  case round =>
    obtain ⟨k, x, z, rfl, rfl, hk1, hk2, hx, hlt, y, rfl⟩ := hrel
    have hz1 := hlt.1
    have hz2 := hlt.2.1
    rw [bytes_len] at hz2
    have hxs : x.size = z := by rw [hx, bstr_size, List.length_take, bytes_len]; omega
    have HX := Lib.hid hx
    have HL := Lib.hid hlt
    have HXS := Lib.hid hxs
    clear hx hlt hxs
    rcases dec (k ≤ gt l m ps.length last) with ⟨g1, v5⟩ | ⟨g1, v5⟩
    · have HOK := Lib.hid (okc_range hk1 g1)
      obtain ⟨y2, hy2⟩ : ∃ y2, bstr (anyW l ps last k) = y2 := ⟨_, rfl⟩
      have hys : y2.data.toList = anyW l ps last k := by rw [← hy2, bytes_bstr]
      have hyl : y2.size = (anyW l ps last k).length := by rw [← hy2, bstr_size]
      have HY2 := Lib.hid hy2
      have hany : ∀ j, j ≤ s.data.toList.length → anyW l ps last k = s.data.toList.take j → j = y2.size := fun j hj he => by
        rw [hyl, he, List.length_take]; omega
      have hpre : (s.extract 0 y2.size).data.toList = s.data.toList.take y2.size := by
        have := bstr_pre s.data.toList y2.size
        rw [bstr_bytes] at this
        rw [this, bytes_bstr]
      have hbig : y2.size ≤ 3000 := by
        rw [hyl]
        rcases HOK.out with h | ⟨hg, h⟩
        · rw [any_hw h]; have := W_len h; omega
        · rw [h, any_nw, List.length_append, List.length_take]
          have hl : hw l ps.length last = true := by
            rcases HV.out.last with ⟨h, _⟩ | h
            · exact absurd h (grB_iff.1 hg).1
            · exact h
          have := W_len hl; omega
      have HAN := Lib.hid hany
      have HYS := Lib.hid hys
      have HPR := Lib.hid hpre
      clear hy2 hys hyl hany hpre
      by_cases q1 : x.size < y2.size
      · by_cases q2 : y2.size ≤ s.size
        · by_cases q3 : s.data.toList.take y2.size = anyW l ps last k
          · have v7 : ((s.extract 0 y2.size).toList == y2.toList) = true := by rw [ByteArray.toList_eq, ByteArray.toList_eq, HPR.out, HYS.out, q3]; simp
            have HF := Lib.hid (HL.out.take HOK.out (n' := y2.size) (by have := HXS.out; omega) (by rw [bytes_len]; exact q2) q3.symm)
            have HB := Lib.hid (show y2 = bstr (s.data.toList.take y2.size) by rw [q3, HY2.out])
            clear q3
            go_wp2_with (first | (go_at_call 100; refine (l2Greatest_any _ _ _ _ _ _ _ _ _ hs (by omega) hlast).mono ?_; rintro e w' ⟨rfl, xc, rfl⟩) | (go_at_call 101; refine (l2Any_any _ _ _ _ _ _ _ _ _ _ (by repeat (first | exact hr | apply rd_seq | apply Rd.plus | apply Rd.alloc | apply Rd.drew | apply Rd.drewN | refine rd_patch ?_ _ _ (by intro A hA; first | (cases hA; show _ ≠ _; omega) | (have := hal A hA; omega)))) HV.out HOK.out).mono ?_; rintro e w' ⟨rfl, x9, rfl⟩; rw [HY2.out]))
            go_roundw
            case rel => exact ⟨k + 1, y2, y2.size, rfl, by go_num, by omega, by omega, HB.out, HF.out, (by repeat (first | exact More.refl _ | apply More.plus | apply More.alloc | apply More.drew | apply More.drewN))⟩
            case measure => simp [intOf]; omega
          · have v7 : ((s.extract 0 y2.size).toList == y2.toList) = false := by rw [ByteArray.toList_eq, ByteArray.toList_eq, HPR.out, HYS.out, beq_eq_false_iff_ne]; exact q3
            have HF := Lib.hid (HL.out.keep (fun j hj he => absurd (by rw [← HAN.out j hj he]; exact he.symm) q3))
            clear q3
            go_wp2_with (first | (go_at_call 100; refine (l2Greatest_any _ _ _ _ _ _ _ _ _ hs (by omega) hlast).mono ?_; rintro e w' ⟨rfl, xc, rfl⟩) | (go_at_call 101; refine (l2Any_any _ _ _ _ _ _ _ _ _ _ (by repeat (first | exact hr | apply rd_seq | apply Rd.plus | apply Rd.alloc | apply Rd.drew | apply Rd.drewN | refine rd_patch ?_ _ _ (by intro A hA; first | (cases hA; show _ ≠ _; omega) | (have := hal A hA; omega)))) HV.out HOK.out).mono ?_; rintro e w' ⟨rfl, x9, rfl⟩; rw [HY2.out]))
            go_roundw
            case rel => exact ⟨k + 1, x, z, rfl, by go_num, by omega, by omega, HX.out, HF.out, (by repeat (first | exact More.refl _ | apply More.plus | apply More.alloc | apply More.drew | apply More.drewN))⟩
            case measure => simp [intOf]; omega
        · have HF := Lib.hid (HL.out.keep (fun j hj he => by have := HAN.out j hj he; rw [bytes_len] at hj; omega))
          go_wp2_with (first | (go_at_call 100; refine (l2Greatest_any _ _ _ _ _ _ _ _ _ hs (by omega) hlast).mono ?_; rintro e w' ⟨rfl, xc, rfl⟩) | (go_at_call 101; refine (l2Any_any _ _ _ _ _ _ _ _ _ _ (by repeat (first | exact hr | apply rd_seq | apply Rd.plus | apply Rd.alloc | apply Rd.drew | apply Rd.drewN | refine rd_patch ?_ _ _ (by intro A hA; first | (cases hA; show _ ≠ _; omega) | (have := hal A hA; omega)))) HV.out HOK.out).mono ?_; rintro e w' ⟨rfl, x9, rfl⟩; rw [HY2.out]))
          go_roundw
          case rel => exact ⟨k + 1, x, z, rfl, by go_num, by omega, by omega, HX.out, HF.out, (by repeat (first | exact More.refl _ | apply More.plus | apply More.alloc | apply More.drew | apply More.drewN))⟩
          case measure => simp [intOf]; omega
      · have HF := Lib.hid (HL.out.keep (fun j hj he => by have := HAN.out j hj he; have := HXS.out; omega))
        go_wp2_with (first | (go_at_call 100; refine (l2Greatest_any _ _ _ _ _ _ _ _ _ hs (by omega) hlast).mono ?_; rintro e w' ⟨rfl, xc, rfl⟩) | (go_at_call 101; refine (l2Any_any _ _ _ _ _ _ _ _ _ _ (by repeat (first | exact hr | apply rd_seq | apply Rd.plus | apply Rd.alloc | apply Rd.drew | apply Rd.drewN | refine rd_patch ?_ _ _ (by intro A hA; first | (cases hA; show _ ≠ _; omega) | (have := hal A hA; omega)))) HV.out HOK.out).mono ?_; rintro e w' ⟨rfl, x9, rfl⟩; rw [HY2.out]))
        go_roundw
        case rel => exact ⟨k + 1, x, z, rfl, by go_num, by omega, by omega, HX.out, HF.out, (by repeat (first | exact More.refl _ | apply More.plus | apply More.alloc | apply More.drew | apply More.drewN))⟩
        case measure => simp [intOf]; omega
    · have HF := Lib.hid (show z = n from (HL.out.done t1 (by omega)).eq HN.out)
      go_wp2_with (go_at_call 100; refine (l2Greatest_any _ _ _ _ _ _ _ _ _ hs (by omega) hlast).mono ?_; rintro e w' ⟨rfl, xc, rfl⟩)
      go_ret
      exact ret_of (by rw [← HF.out, ← HX.out]; rfl) (by repeat (first | exact More.refl _ | apply More.plus | apply More.alloc | apply More.drew | apply More.drewN))

theorem specCodeOfWord_no (o l m : Int) (a : Option Addr) (cap : Nat) (ps : List Pr) (base last : Int) (s : ByteArray) (w : World) (hr : RdP w a cap ps) (hk : kvb o l m ps base last = false) :
    Calls Try.prog 34 #[.agg #[.int .i64 o, .int .i64 l, .int .i64 m, .slice a ps.length cap, .int .i64 base, .int .i64 last], .string s] w (Ret w (codeV (-1))) := by
  go_enter Try.func34, Try.ntmps34
  go_wp2_with (go_at_call 59; refine (specKnownValid_any _ _ _ _ _ _ _ _ _ (by repeat (first | exact hr | apply rd_seq | apply Rd.plus | apply Rd.alloc | apply Rd.drew | apply Rd.drewN | refine rd_patch ?_ _ _ (by intro A hA; first | (cases hA; show _ ≠ _; omega) | (have := hal A hA; omega))))).mono ?_; rintro e w' ⟨rfl, xc, rfl⟩)
  go_ret2
  exact ret_of codeV_no.symm (by repeat (first | exact More.refl _ | apply More.plus | apply More.alloc | apply More.drew | apply More.drewN))

set_option maxHeartbeats 1000000 in
theorem specCodeOfWord_yes (o l m : Int) (a : Option Addr) (cap : Nat) (ps : List Pr) (base last : Int) (s : ByteArray) (w : World) (hr : RdP w a cap ps) (hk : kvb o l m ps base last = true) (hs2 : s.size ≤ maxLen) (c : Int) (hc : IsFnd l m ps last s.data.toList c) :
    Calls Try.prog 34 #[.agg #[.int .i64 o, .int .i64 l, .int .i64 m, .slice a ps.length cap, .int .i64 base, .int .i64 last], .string s] w (Ret w (codeV c)) := by
  have hkv := kvb_iff.1 hk
  have HV := Lib.hid hkv
  have HC := Lib.hid hc
  have HM := Lib.hid hs2
  have he1 := isEmpty_size s
  obtain ⟨l1, l2, m2, lm, t1, t2, t4, t3⟩ := hkv.lim.bds
  have hlast : last = -1 ∨ hw l ps.length last = true := hkv.last.imp (fun h => h.1) id
  by_cases hz : s.size = 0
  · have HN := Lib.hid (fnd_none (m := m) (ps := ps) (last := last) (w := s.data.toList) hkv.ok t1 t2 hlast (fun x hx => by
      have : s.data.toList = [] := List.eq_nil_of_length_eq_zero (by rw [bytes_len]; exact hz)
      rw [this] at hx; simp at hx))
    obtain rfl := HC.out.eq HN.out
    rw [decide_eq_true hz] at he1
    clear hz hkv hc hs2 hlast
    go_enter Try.func34, Try.ntmps34
    go_wp2_with (go_at_call 59; refine (specKnownValid_any _ _ _ _ _ _ _ _ _ (by repeat (first | exact hr | apply rd_seq | apply Rd.plus | apply Rd.alloc | apply Rd.drew | apply Rd.drewN | refine rd_patch ?_ _ _ (by intro A hA; first | (cases hA; show _ ≠ _; omega) | (have := hal A hA; omega))))).mono ?_; rintro e w' ⟨rfl, xc, rfl⟩)
    go_ret2
    exact ret_of codeV_no.symm (by repeat (first | exact More.refl _ | apply More.plus | apply More.alloc | apply More.drew | apply More.drewN))
  · rw [decide_eq_false hz] at he1
    have hcc : c = -1 ∨ 0 ≤ c := by
      rcases hc with ⟨h, _⟩ | ⟨h, _⟩
      · exact .inl h
      · exact .inr (h.nonneg t1)
    clear hz hkv hc hs2 hlast
    rcases hcc with rfl | hcp
    · go_enter Try.func34, Try.ntmps34
      go_wp2_with (first | (go_at_call 59; refine (specKnownValid_any _ _ _ _ _ _ _ _ _ (by repeat (first | exact hr | apply rd_seq | apply Rd.plus | apply Rd.alloc | apply Rd.drew | apply Rd.drewN | refine rd_patch ?_ _ _ (by intro A hA; first | (cases hA; show _ ≠ _; omega) | (have := hal A hA; omega))))).mono ?_; rintro e w' ⟨rfl, xc, rfl⟩) | (go_at_call 70; refine (l2Find_any _ _ _ _ _ _ _ _ _ _ (by repeat (first | exact hr | apply rd_seq | apply Rd.plus | apply Rd.alloc | apply Rd.drew | apply Rd.drewN | refine rd_patch ?_ _ _ (by intro A hA; first | (cases hA; show _ ≠ _; omega) | (have := hal A hA; omega)))) HV.out HM.out _ HC.out).mono ?_; rintro e w' ⟨rfl, xc, rfl⟩))
      go_ret2
      exact ret_of codeV_no.symm (by repeat (first | exact More.refl _ | apply More.plus | apply More.alloc | apply More.drew | apply More.drewN))
    · have HCP := Lib.hid (codeV_yes hcp)
      have v1 : decide (c < 0) = false := by simp; omega
      go_enter Try.func34, Try.ntmps34
      go_wp2_with (first | (go_at_call 59; refine (specKnownValid_any _ _ _ _ _ _ _ _ _ (by repeat (first | exact hr | apply rd_seq | apply Rd.plus | apply Rd.alloc | apply Rd.drew | apply Rd.drewN | refine rd_patch ?_ _ _ (by intro A hA; first | (cases hA; show _ ≠ _; omega) | (have := hal A hA; omega))))).mono ?_; rintro e w' ⟨rfl, xc, rfl⟩) | (go_at_call 70; refine (l2Find_any _ _ _ _ _ _ _ _ _ _ (by repeat (first | exact hr | apply rd_seq | apply Rd.plus | apply Rd.alloc | apply Rd.drew | apply Rd.drewN | refine rd_patch ?_ _ _ (by intro A hA; first | (cases hA; show _ ≠ _; omega) | (have := hal A hA; omega)))) HV.out HM.out _ HC.out).mono ?_; rintro e w' ⟨rfl, xc, rfl⟩))
      go_ret2
      exact ret_of (by rw [HCP.out]; rfl) (by repeat (first | exact More.refl _ | apply More.plus | apply More.alloc | apply More.drew | apply More.drewN))

end Go.Proofs.Ytbedikodiboofaa
