/- Draws: l9Many, l1Wild. -/
import Derived.Test.YtlihhlihcjncoaaDrc
namespace Go.Proofs.Ytlihhlihcjncoaa
open Go.RowKit
set_option linter.unusedVariables false
set_option linter.unusedSimpArgs false

set_option maxRecDepth 100000 in
set_option maxHeartbeats 1000000 in
theorem l9Many_d (s : ByteArray) (n : Nat) (w : World) (hs : s.size ≤ 4) (hn : n ≤ 5000) : Calls Try.prog 111 #[.string s, .int .i64 n] w (fun e w' => ∃ r : ByteArray, e = .returned (.string r) ∧ r.size = s.size * n ∧ ∃ x, w' = plus w x) := by
  obtain ⟨N, hN⟩ : ∃ N, s.size * n = N := ⟨_, rfl⟩
  have hN2 : N ≤ 20000 := by rw [← hN]; calc s.size * n ≤ 4 * 5000 := Nat.mul_le_mul hs hn
    _ = 20000 := rfl
  have HN0 := Lib.hid hN
  clear hN
  go_enter Try.func111, Try.ntmps111
  go_wp2
  go_loopw [0, 1, 5] (fun s q t wr => ∃ (m : Nat) (T S : ByteArray), q = .int .i64 m ∧ s = .string S ∧ t = .string T ∧ T.size + S.size * m = N ∧ S.size ≤ 40000 ∧ m ≤ 5000 ∧ More w wr) (fun _ q _ _ => (intOf q).toNat)
  case atStart => exact ⟨n, ⟨#[]⟩, s, rfl, rfl, rfl, by rw [← HN0.out]; exact Nat.zero_add _, by omega, hn, More.refl _⟩
  case round =>
    obtain ⟨m, T, S, rfl, rfl, rfl, hab, hb, hm7, x, rfl⟩ := hrel
    have z1 : (T ++ S).size = T.size + S.size := ByteArray.size_append
    have z2 : (S ++ S).size = S.size + S.size := ByteArray.size_append
    have HAB := Lib.hid hab
    have ha : T.size ≤ N := by rw [← hab]; exact Nat.le_add_right _ _
    have hbm : 1 ≤ m → S.size ≤ N := fun h => by have : S.size * 1 ≤ S.size * m := Nat.mul_le_mul_left _ h; omega
    clear hab
    rcases dec (0 < m) with ⟨hlt, v1⟩ | ⟨hlt, v1⟩
    · have hb7 := hbm hlt
      have v2 : decide ((0 : Int) < (m : Int)) = true := by simp; omega
      have E3 := Lib.hid (show wrap64 ((m : Int) / 2) = (m : Int) / 2 from wrap64_of (by omega) (by omega))
      rcases Nat.mod_two_eq_zero_or_one m with h2 | h2
      · have e2 : (m : Int) % 2 = 0 := by omega
        have HN := Lib.hid (show T.size + (S.size + S.size) * (m / 2) = N by rw [Nat.add_mul, ← Nat.mul_two, Nat.mul_assoc, show m / 2 * 2 = m by omega]; exact HAB.out)
        clear z1
        go_wp2
        go_roundw
        case rel => exact ⟨m / 2, T, S ++ S, int_val (by first | omega | (rw [E3.out]; omega)), rfl, rfl, by rw [z2]; exact HN.out, by omega, by omega, (by repeat (first | exact More.refl _ | apply More.plus | apply More.alloc | apply More.drew | apply More.drewN))⟩
        case measure => simp [intOf, E3.out]; omega
      · have e2 : (m : Int) % 2 = 1 := by omega
        have HN := Lib.hid (show (T.size + S.size) + (S.size + S.size) * (m / 2) = N by
          have h3 : S.size * m = S.size + (S.size + S.size) * (m / 2) := by
            have h4 : m = m / 2 * 2 + 1 := by omega
            rw [Nat.add_mul, ← Nat.mul_two, Nat.mul_assoc]
            have h5 : S.size * m = S.size * (m / 2 * 2) + S.size := by rw [← Nat.mul_succ]; congr 1
            omega
          have := HAB.out
          omega)
        go_wp2
        go_roundw
        case rel => exact ⟨m / 2, T ++ S, S ++ S, int_val (by first | omega | (rw [E3.out]; omega)), rfl, rfl, by rw [z1, z2]; exact HN.out, by omega, by omega, (by repeat (first | exact More.refl _ | apply More.plus | apply More.alloc | apply More.drew | apply More.drewN))⟩
        case measure => simp [intOf, E3.out]; omega
    · obtain rfl : m = 0 := by omega
      have v2 : decide ((0 : Int) < ((0 : Nat) : Int)) = false := by simp
      go_wp2
      go_ret
      exact ⟨T, rfl, by rw [HN0.out]; have := HAB.out; omega, (by repeat (first | exact More.refl _ | apply More.plus | apply More.alloc | apply More.drew | apply More.drewN))⟩

/-- string of one byte that lies in memory: one operation -/
theorem oper_str1 {P : Program} {op : Oper} {a : Act} {w : World} {K : Act → World → Prop} {Q : Exit → Act → World → Prop} (src dst e : TypeId) (x : Operand) (ho : op.op = .convert src dst x) (hs : P.underlying src = some (.slice e)) (he : P.underlying e = some (.int .u8)) (hd : P.underlying dst = some .string)
    (b : Nat) (z : UInt8) (hx : a.eval x = .slice (some ⟨b, 0, none⟩) 1 1) (hb : b < w.heap.size) (hc : w.cell? ⟨b, 0, none⟩ = some (.int .u8 (z.toNat : Int))) (h : K (a.put op.dst (.string (bstr [z]))) w) : op.wp P a w K Q := by
  have hrd : Rd encB w (some ⟨b, 0, none⟩) 1 [z] := ⟨by simp, by omega, .inr ⟨b, 0, rfl, hb, fun j u hj => by
    have hl := (List.getElem?_eq_some_iff.1 hj).1
    rw [flat_len] at hl
    obtain rfl : j = 0 := by have : j < 1 * 1 := hl; omega
    have e1 : (flat encB [z])[0]? = some (.int .u8 (z.toNat : Int)) := rfl
    rw [e1] at hj
    cases hj
    exact hc⟩⟩
  have hrun := run_str_some (P := P) hs he hd hrd
  unfold Oper.wp execOp
  simp only [ho, Sem.run_bind, Sem.run_pure, Result.andThen_ok, hx]
  have hl : ([z] : List UInt8).length = 1 := rfl
  rw [hl] at hrun
  simp only [hrun, Result.andThen_ok]
  exact h

set_option maxRecDepth 100000 in
set_option maxHeartbeats 4000000 in
theorem l1Wild_d (B n : Nat) (s : ByteArray) (w : World) (hd : Dsrc w B n) (hn : n ≤ 900000) (hs : s.size ≤ 3000) :
    Calls Try.prog 68 #[.pointer (some ⟨B, 0, none⟩), .string s] w (RetT w B (n + 2) 3001) := by
  have hB := hd.B_lt
  have HD := Lib.hid hd
  clear hd
  have hcv := fun (W : World) (b : Nat) (hb : b = W.heap.size) => run_one (P := Try.prog) (W := W) (e := 5) Try.underlying22 Try.underlying5 Try.underlying9 b 255 (by decide) (by decide) hb
  obtain ⟨o5, ho5⟩ : ∃ o, one 255 = o := ⟨_, rfl⟩
  rw [ho5] at hcv
  have z5 : o5.size = 1 := by rw [← ho5]; rfl
  have z6 : (s ++ o5).size = s.size + o5.size := ByteArray.size_append
  clear ho5
  go_enter Try.func68, Try.ntmps68
  go_wp2_with fail
  refine (pick_d B n _ _ (by repeat (first | (with_reducible exact HD.out) | (with_reducible apply dsrc_seq) | (with_reducible apply dsrc_draw) | (with_reducible apply Dsrc.plus) | (with_reducible apply Dsrc.alloc) | (with_reducible apply Dsrc.drew))) (by omega)).mono ?_
  rintro e w' ⟨v, rfl, hv, hdn⟩
  obtain ⟨hd1, cur1, x1, rfl⟩ := hdn
  have HD1 := Lib.hid hd1
  clear hd1
  rcases (by omega : v = 0 ∨ v = 1 ∨ 1 < v) with rfl | rfl | hv2
  · go_wp2_with fail
    go_ret
    exact ⟨s ++ o5, rfl, by omega, drn_of ((HD1.out.mono (by omega)).alloc _) (by repeat (first | (with_reducible exact grew_refl _ _) | (with_reducible apply grew_plus) | (with_reducible apply grew_alloc) | (with_reducible apply grew_drew) | (with_reducible apply grew_pat))) hB⟩
  · go_wp2_with fail
    refine wp_region_pt 6 (fun _ => True) (Plan.quiet 2 (Plan.two 0 (Plan.two 1 (Plan.one 3 (Plan.one 4 (Plan.one 5 (Plan.one 6 Plan.done)))) 3 (Plan.two 1 (Plan.one 4 (Plan.one 5 (Plan.one 6 Plan.done))) 4 (Plan.one 1 (Plan.one 5 (Plan.one 6 Plan.done))))) 3 (Plan.two 0 (Plan.two 1 (Plan.one 4 (Plan.one 5 (Plan.one 6 Plan.done))) 4 (Plan.one 1 (Plan.one 5 (Plan.one 6 Plan.done)))) 4 (Plan.one 0 (Plan.one 1 (Plan.one 5 (Plan.one 6 Plan.done))))))) (by kernel_rfl) (by kernel_rfl) (trivial) ?_
    refine wpPt_val rfl rfl ?_
    apply Exists.intro
    refine ⟨fun w' hS => ?_, ?_⟩
    focus (skip; simp [go_sem, ↓IntWalk.iteOmega] <;> first | done | exact rfl | (rw [IntWalk.i64_in _ (by omega)]; exact rfl) | trace_state)
    refine wpPt_two rfl rfl rfl rfl (fun K hK => ?_) (fun K hK => ?_)
    go_simp
    refine hK _ _ (fun hkn => trivial) ?_
    clear hK K
    refine wpPt_two rfl rfl rfl rfl (fun K hK => ?_) (fun K hK => ?_)
    refine oper_str1 _ _ 5 _ rfl Try.underlying22 Try.underlying5 Try.underlying9 _ 0 rfl (by simp <;> omega) (by simp [go_sem, ↓IntWalk.iteOmega]) ?_
    refine hK _ _ (fun hkn => trivial) ?_
    clear hK K
    refine wpPt_one rfl rfl (fun K hK => ?_)
    go_simp
    refine hK _ _ (fun hkn => trivial) ?_
    clear hK K
    refine wpPt_one rfl rfl (fun K hK => ?_)
    go_simp
    refine (num_d B (n + 1) _ (by repeat (first | (with_reducible exact HD1.out) | (with_reducible apply dsrc_seq) | (with_reducible apply dsrc_draw) | (with_reducible apply Dsrc.plus) | (with_reducible apply Dsrc.alloc) | (with_reducible apply Dsrc.drew))) (by omega) _ _ [2000, 2001] (by first | exact rd_lit _ _ _ _ _ (by simp <;> omega) rfl (by decide) | exact Rd.alloc (rd_lit _ _ _ _ _ (by simp <;> omega) rfl (by decide)) _) (fun X hX => by cases hX; simp <;> omega) (by decide)).mono ?_
    rintro e w' ⟨z, rfl, hz, hdn⟩
    have hz2 : z = 2000 ∨ z = 2001 := by simpa using hz
    obtain ⟨z, rfl⟩ : ∃ k : Nat, z = k := ⟨z.toNat, by omega⟩
    obtain ⟨hd2, cur2, x2, rfl⟩ := hdn
    have HD2 := Lib.hid hd2
    clear hd2 hz
    refine hK _ _ (fun hkn => trivial) ?_
    clear hK K
    refine wpPt_one rfl rfl (fun K hK => ?_)
    go_simp
    refine (l9Many_d _ z _ (by simp [bstr_size]) (by omega)).mono ?_
    rintro e w' ⟨r, rfl, hr, x3, rfl⟩
    rw [bstr_size] at hr
    refine hK _ _ (fun hkn => trivial) ?_
    clear hK K
    refine wpPt_one rfl rfl (fun K hK => ?_)
    go_simp
    refine hK _ _ (fun hkn => absurd hkn (by decide)) ?_
    clear hK K
    refine NoPanic.normal ?_
    rotate_left
    go_simp
    refine hK _ _ (fun hkn => trivial) ?_
    clear hK K
    refine wpPt_two rfl rfl rfl rfl (fun K hK => ?_) (fun K hK => ?_)
    refine oper_str1 _ _ 5 _ rfl Try.underlying22 Try.underlying5 Try.underlying9 _ 0 rfl (by simp <;> omega) (by simp [go_sem, ↓IntWalk.iteOmega]) ?_
    refine hK _ _ (fun hkn => trivial) ?_
    clear hK K
    refine wpPt_one rfl rfl (fun K hK => ?_)
    go_simp
    refine (num_d B (n + 1) _ (by repeat (first | (with_reducible exact HD1.out) | (with_reducible apply dsrc_seq) | (with_reducible apply dsrc_draw) | (with_reducible apply Dsrc.plus) | (with_reducible apply Dsrc.alloc) | (with_reducible apply Dsrc.drew))) (by omega) _ _ [2000, 2001] (by first | exact rd_lit _ _ _ _ _ (by simp <;> omega) rfl (by decide) | exact Rd.alloc (rd_lit _ _ _ _ _ (by simp <;> omega) rfl (by decide)) _) (fun X hX => by cases hX; simp <;> omega) (by decide)).mono ?_
    rintro e w' ⟨z, rfl, hz, hdn⟩
    have hz2 : z = 2000 ∨ z = 2001 := by simpa using hz
    obtain ⟨z, rfl⟩ : ∃ k : Nat, z = k := ⟨z.toNat, by omega⟩
    obtain ⟨hd2, cur2, x2, rfl⟩ := hdn
    have HD2 := Lib.hid hd2
    clear hd2 hz
    refine hK _ _ (fun hkn => trivial) ?_
    clear hK K
    refine wpPt_one rfl rfl (fun K hK => ?_)
    go_simp
    refine (l9Many_d _ z _ (by simp [bstr_size]) (by omega)).mono ?_
    rintro e w' ⟨r, rfl, hr, x3, rfl⟩
    rw [bstr_size] at hr
    refine hK _ _ (fun hkn => trivial) ?_
    clear hK K
    refine wpPt_one rfl rfl (fun K hK => ?_)
    go_simp
    refine hK _ _ (fun hkn => absurd hkn (by decide)) ?_
    clear hK K
    refine NoPanic.normal ?_
    rotate_left
    go_simp
    refine (num_d B (n + 1) _ (by repeat (first | (with_reducible exact HD1.out) | (with_reducible apply dsrc_seq) | (with_reducible apply dsrc_draw) | (with_reducible apply Dsrc.plus) | (with_reducible apply Dsrc.alloc) | (with_reducible apply Dsrc.drew))) (by omega) _ _ [2000, 2001] (by first | exact rd_lit _ _ _ _ _ (by simp <;> omega) rfl (by decide) | exact Rd.alloc (rd_lit _ _ _ _ _ (by simp <;> omega) rfl (by decide)) _) (fun X hX => by cases hX; simp <;> omega) (by decide)).mono ?_
    rintro e w' ⟨z, rfl, hz, hdn⟩
    have hz2 : z = 2000 ∨ z = 2001 := by simpa using hz
    obtain ⟨z, rfl⟩ : ∃ k : Nat, z = k := ⟨z.toNat, by omega⟩
    obtain ⟨hd2, cur2, x2, rfl⟩ := hdn
    have HD2 := Lib.hid hd2
    clear hd2 hz
    refine hK _ _ (fun hkn => trivial) ?_
    clear hK K
    refine wpPt_one rfl rfl (fun K hK => ?_)
    refine oper_str1 _ _ 5 _ rfl Try.underlying22 Try.underlying5 Try.underlying9 _ 0 rfl (by simp <;> omega) (by simp [go_sem, ↓IntWalk.iteOmega]) ?_
    refine hK _ _ (fun hkn => trivial) ?_
    clear hK K
    refine wpPt_one rfl rfl (fun K hK => ?_)
    go_simp
    refine (l9Many_d _ z _ (by simp [bstr_size]) (by omega)).mono ?_
    rintro e w' ⟨r, rfl, hr, x3, rfl⟩
    rw [bstr_size] at hr
    refine hK _ _ (fun hkn => trivial) ?_
    clear hK K
    refine wpPt_one rfl rfl (fun K hK => ?_)
    go_simp
    refine hK _ _ (fun hkn => absurd hkn (by decide)) ?_
    clear hK K
    refine NoPanic.normal ?_
    rotate_left
    go_simp
    refine hK _ _ (fun hkn => trivial) ?_
    clear hK K
    refine wpPt_two rfl rfl rfl rfl (fun K hK => ?_) (fun K hK => ?_)
    go_simp
    refine hK _ _ (fun hkn => trivial) ?_
    clear hK K
    refine wpPt_two rfl rfl rfl rfl (fun K hK => ?_) (fun K hK => ?_)
    refine oper_str1 _ _ 5 _ rfl Try.underlying22 Try.underlying5 Try.underlying9 _ 0 rfl (by simp <;> omega) (by simp [go_sem, ↓IntWalk.iteOmega]) ?_
    refine hK _ _ (fun hkn => trivial) ?_
    clear hK K
    refine wpPt_one rfl rfl (fun K hK => ?_)
    go_simp
    refine (num_d B (n + 1) _ (by repeat (first | (with_reducible exact HD1.out) | (with_reducible apply dsrc_seq) | (with_reducible apply dsrc_draw) | (with_reducible apply Dsrc.plus) | (with_reducible apply Dsrc.alloc) | (with_reducible apply Dsrc.drew))) (by omega) _ _ [2000, 2001] (by first | exact rd_lit _ _ _ _ _ (by simp <;> omega) rfl (by decide) | exact Rd.alloc (rd_lit _ _ _ _ _ (by simp <;> omega) rfl (by decide)) _) (fun X hX => by cases hX; simp <;> omega) (by decide)).mono ?_
    rintro e w' ⟨z, rfl, hz, hdn⟩
    have hz2 : z = 2000 ∨ z = 2001 := by simpa using hz
    obtain ⟨z, rfl⟩ : ∃ k : Nat, z = k := ⟨z.toNat, by omega⟩
    obtain ⟨hd2, cur2, x2, rfl⟩ := hdn
    have HD2 := Lib.hid hd2
    clear hd2 hz
    refine hK _ _ (fun hkn => trivial) ?_
    clear hK K
    refine wpPt_one rfl rfl (fun K hK => ?_)
    go_simp
    refine (l9Many_d _ z _ (by simp [bstr_size]) (by omega)).mono ?_
    rintro e w' ⟨r, rfl, hr, x3, rfl⟩
    rw [bstr_size] at hr
    refine hK _ _ (fun hkn => trivial) ?_
    clear hK K
    refine wpPt_one rfl rfl (fun K hK => ?_)
    go_simp
    refine hK _ _ (fun hkn => absurd hkn (by decide)) ?_
    clear hK K
    refine NoPanic.normal ?_
    rotate_left
    go_simp
    refine (num_d B (n + 1) _ (by repeat (first | (with_reducible exact HD1.out) | (with_reducible apply dsrc_seq) | (with_reducible apply dsrc_draw) | (with_reducible apply Dsrc.plus) | (with_reducible apply Dsrc.alloc) | (with_reducible apply Dsrc.drew))) (by omega) _ _ [2000, 2001] (by first | exact rd_lit _ _ _ _ _ (by simp <;> omega) rfl (by decide) | exact Rd.alloc (rd_lit _ _ _ _ _ (by simp <;> omega) rfl (by decide)) _) (fun X hX => by cases hX; simp <;> omega) (by decide)).mono ?_
    rintro e w' ⟨z, rfl, hz, hdn⟩
    have hz2 : z = 2000 ∨ z = 2001 := by simpa using hz
    obtain ⟨z, rfl⟩ : ∃ k : Nat, z = k := ⟨z.toNat, by omega⟩
    obtain ⟨hd2, cur2, x2, rfl⟩ := hdn
    have HD2 := Lib.hid hd2
    clear hd2 hz
    refine hK _ _ (fun hkn => trivial) ?_
    clear hK K
    refine wpPt_one rfl rfl (fun K hK => ?_)
    refine oper_str1 _ _ 5 _ rfl Try.underlying22 Try.underlying5 Try.underlying9 _ 0 rfl (by simp <;> omega) (by simp [go_sem, ↓IntWalk.iteOmega]) ?_
    refine hK _ _ (fun hkn => trivial) ?_
    clear hK K
    refine wpPt_one rfl rfl (fun K hK => ?_)
    go_simp
    refine (l9Many_d _ z _ (by simp [bstr_size]) (by omega)).mono ?_
    rintro e w' ⟨r, rfl, hr, x3, rfl⟩
    rw [bstr_size] at hr
    refine hK _ _ (fun hkn => trivial) ?_
    clear hK K
    refine wpPt_one rfl rfl (fun K hK => ?_)
    go_simp
    refine hK _ _ (fun hkn => absurd hkn (by decide)) ?_
    clear hK K
    refine NoPanic.normal ?_
    rotate_left
    go_simp
    refine (num_d B (n + 1) _ (by repeat (first | (with_reducible exact HD1.out) | (with_reducible apply dsrc_seq) | (with_reducible apply dsrc_draw) | (with_reducible apply Dsrc.plus) | (with_reducible apply Dsrc.alloc) | (with_reducible apply Dsrc.drew))) (by omega) _ _ [2000, 2001] (by first | exact rd_lit _ _ _ _ _ (by simp <;> omega) rfl (by decide) | exact Rd.alloc (rd_lit _ _ _ _ _ (by simp <;> omega) rfl (by decide)) _) (fun X hX => by cases hX; simp <;> omega) (by decide)).mono ?_
    rintro e w' ⟨z, rfl, hz, hdn⟩
    have hz2 : z = 2000 ∨ z = 2001 := by simpa using hz
    obtain ⟨z, rfl⟩ : ∃ k : Nat, z = k := ⟨z.toNat, by omega⟩
    obtain ⟨hd2, cur2, x2, rfl⟩ := hdn
    have HD2 := Lib.hid hd2
    clear hd2 hz
    refine hK _ _ (fun hkn => trivial) ?_
    clear hK K
    refine wpPt_one rfl rfl (fun K hK => ?_)
    go_simp
    refine hK _ _ (fun hkn => trivial) ?_
    clear hK K
    refine wpPt_one rfl rfl (fun K hK => ?_)
    refine oper_str1 _ _ 5 _ rfl Try.underlying22 Try.underlying5 Try.underlying9 _ 0 rfl (by simp <;> omega) (by simp [go_sem, ↓IntWalk.iteOmega]) ?_
    refine hK _ _ (fun hkn => trivial) ?_
    clear hK K
    refine wpPt_one rfl rfl (fun K hK => ?_)
    go_simp
    refine (l9Many_d _ z _ (by simp [bstr_size]) (by omega)).mono ?_
    rintro e w' ⟨r, rfl, hr, x3, rfl⟩
    rw [bstr_size] at hr
    refine hK _ _ (fun hkn => trivial) ?_
    clear hK K
    refine wpPt_one rfl rfl (fun K hK => ?_)
    go_simp
    refine hK _ _ (fun hkn => absurd hkn (by decide)) ?_
    clear hK K
    refine NoPanic.normal ?_
    all_goals
      go_wp2_with fail
      go_ret
      exact ⟨r, rfl, by simp at hr; omega, drn_of (by repeat (first | (with_reducible exact HD2.out) | (with_reducible apply dsrc_seq) | (with_reducible apply dsrc_draw) | (with_reducible apply Dsrc.plus) | (with_reducible apply Dsrc.alloc) | (with_reducible apply Dsrc.drew))) (by repeat (first | (with_reducible exact grew_refl _ _) | (with_reducible apply grew_plus) | (with_reducible apply grew_alloc) | (with_reducible apply grew_drew) | (with_reducible apply grew_pat))) hB⟩
  · have q0 : ((v : Int) == 0) = false := by simp; omega
    have q1 : ((v : Int) == 1) = false := by simp; omega
    go_wp2_with fail
    go_ret
    exact ⟨s, rfl, by omega, drn_of (HD1.out.mono (by omega)) (by repeat (first | (with_reducible exact grew_refl _ _) | (with_reducible apply grew_plus) | (with_reducible apply grew_alloc) | (with_reducible apply grew_drew) | (with_reducible apply grew_pat))) hB⟩

end Go.Proofs.Ytlihhlihcjncoaa
