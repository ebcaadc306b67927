/- Lemmas and walks, part Gz. -/
import Derived.Test.YtibfkfinghcpaaaDra
import Derived.Test.YtibfkfinghcpaaaTss
import Derived.Test.YtibfkfinghcpaaaAps
import Derived.Test.YtibfkfinghcpaaaDru

/- Draws: parts of a text (l3Parts). -/
namespace Go.Proofs.Ytibfkfinghcpaaa
open Go.RowKit
set_option linter.unusedVariables false
set_option linter.unusedSimpArgs false

def lenV : Value → Nat
  | .slice _ n _ => n
  | _ => 0

/-- what a draw of parts leaves -/
def RetPt (w : World) (B n : Nat) (e : Ending) (w' : World) : Prop := ∃ (A : Option Addr) (c : Nat) (us : List ByteArray), e = .returned (.slice A us.length c) ∧ us.length ≤ 61 ∧ (∀ u ∈ us, u.size ≤ 1000) ∧ Rd encS w' A c us ∧ (∀ X, A = some X → w.heap.size ≤ X.block) ∧ Drn w B n w'

theorem q_min {x : Int} {S : ByteArray} (hx : 0 ≤ x) : ∃ q : Nat, min x (S.size : Int) = q ∧ q ≤ S.size := ⟨(min x (S.size : Int)).toNat, by omega, by omega⟩




set_option maxRecDepth 100000 in
set_option maxHeartbeats 4000000 in
theorem l3Parts_d (B n : Nat) (s : ByteArray) (w : World) (hd : Dsrc w B n) (hn : n ≤ 800000) (hs : s.size ≤ 1000) :
    Calls Try.prog 93 #[.pointer (some ⟨B, 0, none⟩), .string s] w (RetPt w B (n + 62)) := by
  have HD := Lib.hid hd
  have hB := hd.B_lt
  obtain ⟨i0, hi, hz0, hz1, hz2⟩ := info_parts infoString
  clear hd
  go_enter Try.func93, Try.ntmps93
  go_wp2_with fail
  refine (pick_any B n _ _ (by repeat (first | (with_reducible exact HD.out) | apply Dsrc.alloc | apply Dsrc.drew | apply Dsrc.plus)) (by omega)).mono ?_
  rintro e w5 ⟨v, rfl, hv0, hv1, hd5, hg5⟩
  have HO0 := Lib.hid (own_grew (Own.newAt (w := w) (E := encS) (xs := []) (cap := 0) (cur := #[]) (e := 9) (lo := w.heap.size) rfl (Nat.le_refl _) rfl (row_of encS _ _ (fun i x h => by simp at h)) (by simp) (by omega)) hg5 (fun X hX Y hY e => by cases hX; cases hY; simp at e; omega))
  have HD5 := Lib.hid hd5
  have HG5 := Lib.hid (grew_trans (grew_alloc (grew_refl _ _) _) hg5)
  have hsz5 := HG5.out.size
  clear hd5 hg5
  go_wp2_with fail
  go_loopw [1, 5] (fun q t wr => ∃ (S : ByteArray) (us : List ByteArray) (A : Option Addr) (c : Nat), S.size ≤ 1000 ∧ us.length ≤ 60 ∧ (∀ u ∈ us, u.size ≤ 1000) ∧ q = .string S ∧ t = .slice A us.length c ∧ Own encS 9 wr A c us w.heap.size ∧ Dsrc wr B (n + 1 + us.length) ∧ Grew (some ⟨B, 0, none⟩) w wr) (fun _ t _ => 60 - lenV t)
  case atStart => exact ⟨s, [], _, 0, hs, by simp, by simp, rfl, rfl, HO0.out, HD5.out, HG5.out⟩
  case round =>
    obtain ⟨S, us, A, c, hS, hul, husz, rfl, rfl, hown, hd, hg⟩ := hrel
    have HO := Lib.hid hown
    have HDR := Lib.hid hd
    have HG := Lib.hid hg
    have HUS := Lib.hid husz
    have hsz := hg.size
    have hAlo := own_lo hown
    clear hown hd hg husz
    by_cases hgo : 0 < S.size ∧ us.length < 60
    · obtain ⟨h1, h2⟩ := hgo
      have v1 : decide (0 < (S.size : Int)) = true := by simp; omega
      have v2 : decide ((us.length : Int) < 60) = true := by simp; omega
      rcases (by omega : v = 0 ∨ v = 1 ∨ v = 2 ∨ v = 3) with rfl | rfl | rfl | rfl
      · have HE := q_min (x := 1) (S := S) (by omega)
        obtain ⟨q, hq, hqs⟩ := HE
        have hq0 : (0 : Int) ≤ (q : Int) := by omega
        have hq1 : (q : Int) ≤ (S.size : Int) := by omega
        go_wp2_with (at_builtin; refine wpList_append_at encS _ _ _ _ i0 _ 16 rfl rfl Try.underlying56 hi hz0 hz1 hz2 rfl (by decide) us A c w.heap.size (by repeat (first | (with_reducible exact HO.out) | (with_reducible apply own_seq) | (with_reducible apply own_draw) | (with_reducible apply Own.plus) | (with_reducible apply Own.alloc) | (with_reducible apply Own.drew) | (with_reducible apply Own.drewN))) rfl [S.extract 0 q] _ 0 1 (new_cells encS (S.extract 0 q) _ _ (by simp <;> omega)) rfl (by first | omega | rfl | (simp <;> omega) | (simp only [List.length_cons, List.length_nil, plus_size, World.size_alloc]; omega)) (by first | omega | rfl | (simp <;> omega) | (simp only [List.length_cons, List.length_nil, plus_size, World.size_alloc]; omega)) (by simp <;> omega) ?_; intro A7 c7 w7 hw7 hg7 hx7; have HO7 := Lib.hid hw7; have HD7 := Lib.hid (Dsrc.grew (HDR.out.alloc (.cells #[.string (S.extract 0 q)] 9)) hg7 (fun X hX => by have := hAlo X hX; omega)); have HG7 := Lib.hid (show Grew (some ⟨B, 0, none⟩) w w7 from ⟨hg7.os.trans HG.out.os, hg7.tape.trans HG.out.tape, hg7.output.trans HG.out.output, by have := hg7.size; simp at this; omega, fun q hq ha => (hg7.block q (by simp; omega) (fun X hX e => by have := hAlo X hX; omega)).trans ((push_old _ _ (by omega)).trans (HG.out.block q hq ha))⟩); clear hw7 hg7 hx7)
        go_roundw
        case rel => exact ⟨_, us ++ [S.extract 0 q], A7, c7, (by first | (simp; done) | (simp; omega)), (by first | (simp; done) | (simp; omega)), (fun u hu => by
            rcases List.mem_append.1 hu with h | h
            · exact HUS.out u h
            · simp at h; subst h; first | (simp; done) | (simp; omega)), rfl, by simp, HO7.out, HD7.out.mono (by first | (simp; done) | (simp; omega)), HG7.out⟩
        case measure => simp [lenV]; omega
      · go_wp2_with fail
        refine (pick_any B _ 5 _ HDR.out (by omega)).mono ?_
        rintro e w6 ⟨z, rfl, hz3, hz4, hd6, hg6⟩
        have HO6 := Lib.hid (own_grew HO.out hg6 (fun X hX Y hY e => by
          cases hY
          have h9 := hAlo X hX
          have e2 : B = X.block := e
          omega))
        have HD6 := Lib.hid hd6
        have HG6 := Lib.hid (grew_trans HG.out hg6)
        have z6 := hg6.size
        clear hd6 hg6
        have HE := q_min (x := z) (S := S) (by omega)
        obtain ⟨q, hq, hqs⟩ := HE
        have hq0 : (0 : Int) ≤ (q : Int) := by omega
        have hq1 : (q : Int) ≤ (S.size : Int) := by omega
        go_wp2_with (at_builtin; refine wpList_append_at encS _ _ _ _ i0 _ 16 rfl rfl Try.underlying56 hi hz0 hz1 hz2 rfl (by decide) us A c w.heap.size (by repeat (first | (with_reducible exact HO6.out) | (with_reducible apply own_seq) | (with_reducible apply own_draw) | (with_reducible apply Own.plus) | (with_reducible apply Own.alloc) | (with_reducible apply Own.drew) | (with_reducible apply Own.drewN))) rfl [S.extract 0 q] _ 0 1 (new_cells encS (S.extract 0 q) _ _ (by simp <;> omega)) rfl (by first | omega | rfl | (simp <;> omega) | (simp only [List.length_cons, List.length_nil, plus_size, World.size_alloc]; omega)) (by first | omega | rfl | (simp <;> omega) | (simp only [List.length_cons, List.length_nil, plus_size, World.size_alloc]; omega)) (by simp <;> omega) ?_; intro A7 c7 w7 hw7 hg7 hx7; have HO7 := Lib.hid hw7; have HD7 := Lib.hid (Dsrc.grew (HD6.out.alloc (.cells #[.string (S.extract 0 q)] 9)) hg7 (fun X hX => by have := hAlo X hX; omega)); have HG7 := Lib.hid (show Grew (some ⟨B, 0, none⟩) w w7 from ⟨hg7.os.trans HG6.out.os, hg7.tape.trans HG6.out.tape, hg7.output.trans HG6.out.output, by have := hg7.size; simp at this; omega, fun q hq ha => (hg7.block q (by simp; omega) (fun X hX e => by have := hAlo X hX; omega)).trans ((push_old _ _ (by omega)).trans (HG6.out.block q hq ha))⟩); clear hw7 hg7 hx7)
        go_roundw
        case rel => exact ⟨_, us ++ [S.extract 0 q], A7, c7, (by first | (simp; done) | (simp; omega)), (by first | (simp; done) | (simp; omega)), (fun u hu => by
            rcases List.mem_append.1 hu with h | h
            · exact HUS.out u h
            · simp at h; subst h; first | (simp; done) | (simp; omega)), rfl, by simp, HO7.out, HD7.out.mono (by first | (simp; done) | (simp; omega)), HG7.out⟩
        case measure => simp [lenV]; omega
      · go_wp2_with fail
        refine (pick_any B _ S.size _ HDR.out (by omega)).mono ?_
        rintro e w6 ⟨z, rfl, hz3, hz4, hd6, hg6⟩
        have HO6 := Lib.hid (own_grew HO.out hg6 (fun X hX Y hY e => by
          cases hY
          have h9 := hAlo X hX
          have e2 : B = X.block := e
          omega))
        have HD6 := Lib.hid hd6
        have HG6 := Lib.hid (grew_trans HG.out hg6)
        have z6 := hg6.size
        clear hd6 hg6
        have HE := q_min (x := 1 + z) (S := S) (by omega)
        obtain ⟨q, hq, hqs⟩ := HE
        have hq0 : (0 : Int) ≤ (q : Int) := by omega
        have hq1 : (q : Int) ≤ (S.size : Int) := by omega
        go_wp2_with (at_builtin; refine wpList_append_at encS _ _ _ _ i0 _ 16 rfl rfl Try.underlying56 hi hz0 hz1 hz2 rfl (by decide) us A c w.heap.size (by repeat (first | (with_reducible exact HO6.out) | (with_reducible apply own_seq) | (with_reducible apply own_draw) | (with_reducible apply Own.plus) | (with_reducible apply Own.alloc) | (with_reducible apply Own.drew) | (with_reducible apply Own.drewN))) rfl [S.extract 0 q] _ 0 1 (new_cells encS (S.extract 0 q) _ _ (by simp <;> omega)) rfl (by first | omega | rfl | (simp <;> omega) | (simp only [List.length_cons, List.length_nil, plus_size, World.size_alloc]; omega)) (by first | omega | rfl | (simp <;> omega) | (simp only [List.length_cons, List.length_nil, plus_size, World.size_alloc]; omega)) (by simp <;> omega) ?_; intro A7 c7 w7 hw7 hg7 hx7; have HO7 := Lib.hid hw7; have HD7 := Lib.hid (Dsrc.grew (HD6.out.alloc (.cells #[.string (S.extract 0 q)] 9)) hg7 (fun X hX => by have := hAlo X hX; omega)); have HG7 := Lib.hid (show Grew (some ⟨B, 0, none⟩) w w7 from ⟨hg7.os.trans HG6.out.os, hg7.tape.trans HG6.out.tape, hg7.output.trans HG6.out.output, by have := hg7.size; simp at this; omega, fun q hq ha => (hg7.block q (by simp; omega) (fun X hX e => by have := hAlo X hX; omega)).trans ((push_old _ _ (by omega)).trans (HG6.out.block q hq ha))⟩); clear hw7 hg7 hx7)
        go_roundw
        case rel => exact ⟨_, us ++ [S.extract 0 q], A7, c7, (by first | (simp; done) | (simp; omega)), (by first | (simp; done) | (simp; omega)), (fun u hu => by
            rcases List.mem_append.1 hu with h | h
            · exact HUS.out u h
            · simp at h; subst h; first | (simp; done) | (simp; omega)), rfl, by simp, HO7.out, HD7.out.mono (by first | (simp; done) | (simp; omega)), HG7.out⟩
        case measure => simp [lenV]; omega
      · obtain ⟨q, hq⟩ : ∃ q, S.size = q := ⟨_, rfl⟩
        have hqs : q ≤ S.size := by omega
        have hq0 : (0 : Int) ≤ (q : Int) := by omega
        have hq1 : (q : Int) ≤ (S.size : Int) := by omega
        go_wp2_with (at_builtin; refine wpList_append_at encS _ _ _ _ i0 _ 16 rfl rfl Try.underlying56 hi hz0 hz1 hz2 rfl (by decide) us A c w.heap.size (by repeat (first | (with_reducible exact HO.out) | (with_reducible apply own_seq) | (with_reducible apply own_draw) | (with_reducible apply Own.plus) | (with_reducible apply Own.alloc) | (with_reducible apply Own.drew) | (with_reducible apply Own.drewN))) rfl [S.extract 0 q] _ 0 1 (new_cells encS (S.extract 0 q) _ _ (by simp <;> omega)) rfl (by first | omega | rfl | (simp <;> omega) | (simp only [List.length_cons, List.length_nil, plus_size, World.size_alloc]; omega)) (by first | omega | rfl | (simp <;> omega) | (simp only [List.length_cons, List.length_nil, plus_size, World.size_alloc]; omega)) (by simp <;> omega) ?_; intro A7 c7 w7 hw7 hg7 hx7; have HO7 := Lib.hid hw7; have HD7 := Lib.hid (Dsrc.grew (HDR.out.alloc (.cells #[.string (S.extract 0 q)] 9)) hg7 (fun X hX => by have := hAlo X hX; omega)); have HG7 := Lib.hid (show Grew (some ⟨B, 0, none⟩) w w7 from ⟨hg7.os.trans HG.out.os, hg7.tape.trans HG.out.tape, hg7.output.trans HG.out.output, by have := hg7.size; simp at this; omega, fun q hq ha => (hg7.block q (by simp; omega) (fun X hX e => by have := hAlo X hX; omega)).trans ((push_old _ _ (by omega)).trans (HG.out.block q hq ha))⟩); clear hw7 hg7 hx7)
        go_roundw
        case rel => exact ⟨_, us ++ [S.extract 0 q], A7, c7, (by first | (simp; done) | (simp; omega)), (by first | (simp; done) | (simp; omega)), (fun u hu => by
            rcases List.mem_append.1 hu with h | h
            · exact HUS.out u h
            · simp at h; subst h; first | (simp; done) | (simp; omega)), rfl, by simp, HO7.out, HD7.out.mono (by first | (simp; done) | (simp; omega)), HG7.out⟩
        case measure => simp [lenV]; omega
    · by_cases h1 : 0 < S.size
      · have h2 : us.length = 60 := by
          rcases Nat.lt_or_ge us.length 60 with h | h
          · exact absurd ⟨h1, h⟩ hgo
          · omega
        have v1 : decide (0 < (S.size : Int)) = true := by simp; omega
        have v2 : decide ((us.length : Int) < 60) = false := by simp; omega
        go_wp2_with (at_builtin; refine wpList_append_at encS _ _ _ _ i0 _ 16 rfl rfl Try.underlying56 hi hz0 hz1 hz2 rfl (by decide) us A c w.heap.size (by repeat (first | (with_reducible exact HO.out) | (with_reducible apply own_seq) | (with_reducible apply own_draw) | (with_reducible apply Own.plus) | (with_reducible apply Own.alloc) | (with_reducible apply Own.drew) | (with_reducible apply Own.drewN))) rfl [S] _ 0 1 (new_cells encS S _ _ (by simp <;> omega)) rfl (by first | omega | rfl | (simp <;> omega) | (simp only [List.length_cons, List.length_nil, plus_size, World.size_alloc]; omega)) (by first | omega | rfl | (simp <;> omega) | (simp only [List.length_cons, List.length_nil, plus_size, World.size_alloc]; omega)) (by simp <;> omega) ?_; intro A7 c7 w7 hw7 hg7 hx7; have HO7 := Lib.hid hw7; have HD7 := Lib.hid (Dsrc.grew (HDR.out.alloc (.cells #[.string S] 9)) hg7 (fun X hX => by have := hAlo X hX; omega)); have HG7 := Lib.hid (show Grew (some ⟨B, 0, none⟩) w w7 from ⟨hg7.os.trans HG.out.os, hg7.tape.trans HG.out.tape, hg7.output.trans HG.out.output, by have := hg7.size; simp at this; omega, fun q hq ha => (hg7.block q (by simp; omega) (fun X hX e => by have := hAlo X hX; omega)).trans ((push_old _ _ (by omega)).trans (HG.out.block q hq ha))⟩); clear hw7 hg7 hx7)
        go_ret
        refine ⟨A7, c7, us ++ [S], (by simp <;> omega), (by simp; omega), (fun u hu => ?_), HO7.out.rd, (fun X hX => own_lo HO7.out X hX), drn_of (HD7.out.mono (by omega)) HG7.out hB⟩
        rcases List.mem_append.1 hu with h | h
        · exact HUS.out u h
        · simp at h; subst h; omega
      · have v1 : decide (0 < (S.size : Int)) = false := decide_eq_false (by omega)
        go_wp2_with (at_builtin; refine wpList_append_at encS _ _ _ _ i0 _ 16 rfl rfl Try.underlying56 hi hz0 hz1 hz2 rfl (by decide) us A c w.heap.size (by repeat (first | (with_reducible exact HO.out) | (with_reducible apply own_seq) | (with_reducible apply own_draw) | (with_reducible apply Own.plus) | (with_reducible apply Own.alloc) | (with_reducible apply Own.drew) | (with_reducible apply Own.drewN))) rfl [S] _ 0 1 (new_cells encS S _ _ (by simp <;> omega)) rfl (by first | omega | rfl | (simp <;> omega) | (simp only [List.length_cons, List.length_nil, plus_size, World.size_alloc]; omega)) (by first | omega | rfl | (simp <;> omega) | (simp only [List.length_cons, List.length_nil, plus_size, World.size_alloc]; omega)) (by simp <;> omega) ?_; intro A7 c7 w7 hw7 hg7 hx7; have HO7 := Lib.hid hw7; have HD7 := Lib.hid (Dsrc.grew (HDR.out.alloc (.cells #[.string S] 9)) hg7 (fun X hX => by have := hAlo X hX; omega)); have HG7 := Lib.hid (show Grew (some ⟨B, 0, none⟩) w w7 from ⟨hg7.os.trans HG.out.os, hg7.tape.trans HG.out.tape, hg7.output.trans HG.out.output, by have := hg7.size; simp at this; omega, fun q hq ha => (hg7.block q (by simp; omega) (fun X hX e => by have := hAlo X hX; omega)).trans ((push_old _ _ (by omega)).trans (HG.out.block q hq ha))⟩); clear hw7 hg7 hx7)
        go_ret
        refine ⟨A7, c7, us ++ [S], (by simp <;> omega), (by simp; omega), (fun u hu => ?_), HO7.out.rd, (fun X hX => own_lo HO7.out X hX), drn_of (HD7.out.mono (by omega)) HG7.out hB⟩
        rcases List.mem_append.1 hu with h | h
        · exact HUS.out u h
        · simp at h; subst h; omega

end Go.Proofs.Ytibfkfinghcpaaa

/- Draws: DrawReadAll. -/
namespace Go.Proofs.Ytibfkfinghcpaaa
open Go.RowKit
set_option linter.unusedVariables false
set_option linter.unusedSimpArgs false

/-- what may be known, and parts of a stream -/
def RetRa (w : World) (e : Ending) (w' : World) : Prop := ∃ (o l m : Int) (pa : Option Addr) (pc : Nat) (ps : List Pr) (base last : Int) (A : Option Addr) (c : Nat) (us : List ByteArray),
  e = .returned (.tuple #[.agg #[.int .i64 o, .int .i64 l, .int .i64 m, .slice pa ps.length pc, .int .i64 base, .int .i64 last], .slice A us.length c]) ∧ ps.length ≤ 3000 ∧ us.length ≤ 61 ∧ (∀ u ∈ us, u.size ≤ 1000) ∧ Rd encP w' pa pc ps ∧ Rd encS w' A c us ∧ ∃ x, w' = plus w x


set_option maxRecDepth 100000 in
set_option maxHeartbeats 8000000 in
theorem DrawReadAll_any (a : Option Addr) (cap : Nat) (bs : List UInt8) (w : World) (hr : Rd encB w a cap bs) :
    Calls Try.prog 41 #[.slice a bs.length cap] w (RetRa w) := by
  go_enter Try.func41, Try.ntmps41
  go_wp2_with fail
  refine (l9Open_any a cap bs _ (by repeat (first | exact hr | apply rd_seq | apply Rd.plus | apply Rd.alloc | apply Rd.drew | apply Rd.drewN | refine rd_patch ?_ _ _ (by intro A hA; first | (cases hA; show _ ≠ _; omega) | (have := hal A hA; omega))))).mono ?_
  rintro e w' ⟨B, rfl, hd, hB, x0, rfl⟩
  have HD := Lib.hid hd
  have hBl := hd.B_lt
  simp at hB hBl
  clear hd
  go_wp2_with fail
  refine (l2Draw_d B 0 _ (by repeat (first | (with_reducible exact HD.out) | (with_reducible apply dsrc_seq) | (with_reducible apply dsrc_draw) | (with_reducible apply Dsrc.plus) | (with_reducible apply Dsrc.alloc) | (with_reducible apply Dsrc.drew))) (by omega)).mono ?_
  rintro e w' ⟨o, l, m, pa, pc, ps, b, last, rfl, hkv, hl14, hrd, hoff, hdn⟩
  have hs := hkv.s
  obtain ⟨hso, _, _, _, _⟩ := sv_iff.1 hs
  have HKV := Lib.hid hkv
  have HR1 := Lib.hid (show Rd encP _ pa pc ps from hrd)
  simp at hoff
  obtain ⟨hd1, cur1, x1, rfl⟩ := hdn
  have HD1 := Lib.hid hd1
  clear hd1
  clear hkv hrd
  go_wp2_with fail
  refine wp_nm2 (fun X => KD w X (w.heap.size + 1 + x0.n + x1.n) B 60 o l m b pa pc ps last) ⟨?_, ?_, (by (try unfold RdP); repeat (first | (with_reducible exact HR1.out) | (with_reducible apply rd_seq) | (with_reducible apply Rd.plus) | (with_reducible apply Rd.alloc) | (with_reducible apply Rd.drew) | (with_reducible apply Rd.drewN))), fun Y hY => by have := hoff Y hY; omega, (by repeat (first | (with_reducible exact HD1.out) | (with_reducible apply dsrc_seq) | (with_reducible apply dsrc_draw) | (with_reducible apply Dsrc.plus) | (with_reducible apply Dsrc.alloc) | (with_reducible apply Dsrc.drew))), (by repeat (first | exact Below.refl _ _ | refine below_plus ?_ (by first | omega | (simp <;> omega)) _ | refine Below.alloc ?_ (by first | omega | (simp <;> omega)) _ | refine below_patch ?_ (by omega) _ | refine Below.drew ?_)), by omega⟩ ?_
  · exact (by repeat (first | (with_reducible exact push_new _ _ _ rfl) | (with_reducible exact push_new _ _ _ (by simp)) | (with_reducible apply blk_plus) | (with_reducible apply blk_alloc) | (with_reducible apply blk_drew) | (with_reducible refine blk_patch ?_ (by omega))))
  · exact push_new _ _ _ (by simp <;> omega)
  generalize w.heap.size + 1 + x0.n + x1.n = D
  intro X hX
  have HX := Lib.hid hX
  have rX := cell_of hX.blk
  have zX := hX.lt.2
  have hlow := hX.low
  clear hX HR1 HD1 HD hoff hB hBl
  refine wp_region_pt 9 (fun w' => w'.heap[D]? = some (.cells #[.int .i64 o, .int .i64 l, .int .i64 m, .slice pa ps.length pc, .int .i64 b, .int .i64 last] 27 (0, 0))) (Plan.quiet 0 (Plan.quiet 1 (Plan.quiet 2 (Plan.quiet 3 (Plan.quiet 4 (Plan.quiet 5 (Plan.one 6 (Plan.one 7 (Plan.one 8 (Plan.one 9 Plan.done)))))))))) (by kernel_rfl) (by kernel_rfl) (HX.out.blk) ?_
  refine wpPt_val rfl rfl ?_
  apply Exists.intro
  refine ⟨fun w' hS => ?_, ?_⟩
  focus (have rS := cell_of hS; simp [go_sem, ↓IntWalk.iteOmega, rS] <;> first | done | exact rfl | (rw [IntWalk.i64_in _ (by omega)]; exact rfl) | trace_state)
  refine wpPt_val rfl rfl ?_
  apply Exists.intro
  refine ⟨fun w' hS => ?_, ?_⟩
  focus (have rS := cell_of hS; simp [go_sem, ↓IntWalk.iteOmega, rS] <;> first | done | exact rfl | (rw [IntWalk.i64_in _ (by omega)]; exact rfl) | trace_state)
  refine wpPt_val rfl rfl ?_
  apply Exists.intro
  refine ⟨fun w' hS => ?_, ?_⟩
  focus (have rS := cell_of hS; simp [go_sem, ↓IntWalk.iteOmega, rS] <;> first | done | exact rfl | (rw [IntWalk.i64_in _ (by omega)]; exact rfl) | trace_state)
  refine wpPt_val rfl rfl ?_
  apply Exists.intro
  refine ⟨fun w' hS => ?_, ?_⟩
  focus (have rS := cell_of hS; simp [go_sem, ↓IntWalk.iteOmega, rS] <;> first | done | exact rfl | (rw [IntWalk.i64_in _ (by omega)]; exact rfl) | trace_state)
  refine wpPt_val rfl rfl ?_
  apply Exists.intro
  refine ⟨fun w' hS => ?_, ?_⟩
  focus (have rS := cell_of hS; simp [go_sem, ↓IntWalk.iteOmega, rS] <;> first | done | exact rfl | (rw [IntWalk.i64_in _ (by omega)]; exact rfl) | trace_state)
  refine wpPt_val rfl rfl ?_
  apply Exists.intro
  refine ⟨fun w' hS => ?_, ?_⟩
  focus (have rS := cell_of hS; simp [go_sem, ↓IntWalk.iteOmega, rS] <;> first | done | exact rfl | (rw [IntWalk.i64_in _ (by omega)]; exact rfl) | trace_state)
  refine wpPt_one rfl rfl (fun K hK => ?_)
  go_simp
  refine (l2Codes_d B _ 24 o l m pa pc ps b last _ HX.out.src.drew (by omega) HKV.out (Rd.drew HX.out.rd) (fun Y hY _ => (HX.out.off Y hY).1) (by omega) (by omega)).mono ?_
  rintro e w6 ⟨A, cp, cs, rfl, hrc0, hcl, ⟨Wd, Dd, hwl⟩, hAo, hdn⟩
  have H6 := Lib.hid ((HX.out.more (by repeat (first | exact More.refl _ | apply More.plus | apply More.alloc | apply More.drew | apply More.drewN))).draw hdn)
  have HRC := Lib.hid hrc0.rd
  have HWL := Lib.hid hwl
  have hbd := wlk_bd cs ps last [] [] Wd Dd HKV.out hwl
  have hcz := cbits_len (o := o) cs Wd (fun x hx => by have := hbd.2.1 x hx; simp at this; omega)
  obtain ⟨cb, hcb⟩ : ∃ cb, cbits o cs Wd = cb := ⟨_, rfl⟩
  have hbv := cbits_bv o cs Wd
  rw [hcb] at hcz hbv
  have HCB := Lib.hid hcb
  have HBV := Lib.hid hbv
  clear hdn hrc0 hwl hAo hbd hcb hbv
  refine hK _ _ (fun hkn => H6.out.blk) ?_
  clear hK K
  refine wpPt_one rfl rfl (fun K hK => ?_)
  go_simp
  refine (l2Pack_any o l m pa pc ps b last A cp cs w6 H6.out.rd HRC.out (kvb_iff.2 HKV.out) (by omega) b rfl Wd Dd HWL.out).mono ?_
  rintro e w' ⟨rfl, x6, rfl⟩
  rw [HCB.out]
  refine hK _ _ (fun hkn => blk_plus H6.out.blk _) ?_
  clear hK K
  refine wpPt_one rfl rfl (fun K hK => ?_)
  go_simp
  refine (l1Pack_any o (bstr cb) _ hso (by rw [bstr_size]; omega) (by rw [bytes_bstr]; exact HBV.out)).mono ?_
  rintro e w' ⟨rfl, x7, rfl⟩
  rw [bytes_bstr]
  obtain ⟨S, hS9⟩ : ∃ S, bstr (pckL o cb) = S := ⟨_, rfl⟩
  have hSz : S.size ≤ 40 := by rw [← hS9, bstr_size, pckL_len]; omega
  rw [hS9]
  clear hS9
  have H7 := Lib.hid (H6.out.more (show More w6 (plus (plus w6 x6) x7) from (by repeat (first | exact More.refl _ | apply More.plus | apply More.alloc | apply More.drew | apply More.drewN))))
  (try simp only [plus_plus] at H7)
  refine hK _ _ (fun hkn => blk_plus (blk_plus H6.out.blk _) _) ?_
  clear hK K
  refine wpPt_one rfl rfl (fun K hK => ?_)
  go_simp
  refine hK _ _ (fun hkn => absurd hkn (by decide)) ?_
  clear hK K
  refine NoPanic.normal ?_
  clear H6 HRC HWL
  go_wp2_with fail
  refine (pick_d B _ _ _ H7.out.src (by omega)).mono ?_
  rintro e wB ⟨v, rfl, hv, hdn⟩
  have HB := Lib.hid (H7.out.draw hdn)
  have rB := cell_of HB.out.blk
  have zB := HB.out.lt.2
  clear hdn
  rcases (by omega : v = 0 ∨ v = 1 ∨ 1 < v) with rfl | rfl | hv2
  · go_wp2_with fail
    refine (l1Bytes_any B _ 20 _ HB.out.src (by omega) (by omega)).mono ?_
    rintro e wC ⟨T, rfl, hT, hds, hgr⟩
    have HC := Lib.hid (HB.out.draw (drn_of hds hgr HB.out.src.B_lt))
    have rC := cell_of HC.out.blk
    have zC := HC.out.lt.2
    clear hds hgr rB zB
    go_wp2_with fail
    refine calls_nm (fun Y => KD w Y D B 400 o l m b pa pc ps last) ((HC.out.more (by repeat (first | exact More.refl _ | (with_reducible apply more_seq) | (with_reducible apply more_draw) | apply More.plus | apply More.alloc | apply More.drew))).mono (by omega)) ?_
    intro Y hY
    have HY := Lib.hid hY
    clear hY
    refine (l2Bad_d B _ o l m pa pc ps b last _ HY.out.src (by omega) hs HY.out.rd (fun X hX => (HY.out.off X hX).1) (by omega)).mono ?_
    rintro e w9 ⟨o2, l2', m2, pa9, pc9, qs, base9, last9, rfl, hq9, hrd9, hoff9, hdn⟩
    have H9 := Lib.hid (HY.out.draw hdn)
    have HR9 := Lib.hid (show Rd encP _ pa9 pc9 qs from hrd9)
    have hz9 := HY.out.lt.1
    have hzB := HY.out.src.B_lt
    have hlow9 := HY.out.low
    have hblk9 : ∀ X, pa9 = some X → w.heap.size < X.block ∧ X.block ≠ B := fun X hX => by
      rcases hoff9 X hX with h | h
      · exact ⟨(HY.out.off X h).2, (HY.out.off X h).1⟩
      · omega
    clear hrd9 hoff9 hdn
    go_wp2_with fail
    refine (l3Parts_d B _ T _ H9.out.src (by omega) (by omega)).mono ?_
    rintro e w10 ⟨A, c, us, rfl, hul, husz, hrs, hAl, hdn⟩
    have H10 := Lib.hid (H9.out.draw hdn)
    have HR10 := Lib.hid (rd_grew HR9.out hdn.grew (fun X Y hX hY => by cases hX; exact fun e => (hblk9 Y hY).2 e.symm))
    have HS10 := Lib.hid hrs
    have hz8 := H9.out.lt.1
    clear hrs hdn
    have r9 := cell_of H10.out.res
    have f9 := free_of H10.out.res
    have s9 := fun i v => setCell_patch H10.out.res i v
    have z9 := H10.out.lt.1
    go_wp2_with fail
    exact bodyPost_ret (v := .tuple #[.agg #[.int .i64 o2, .int .i64 l2', .int .i64 m2, .slice pa9 qs.length pc9, .int .i64 base9, .int .i64 last9], .slice A us.length c]) (by simp [results, Try.results41, go_sem, ↓IntWalk.iteOmega]) rfl ⟨o2, l2', m2, pa9, pc9, qs, base9, last9, A, c, us, rfl, hq9, hul, husz, rd_patch HR10.out _ _ (fun X hX => by have := (hblk9 X hX).1; omega), rd_patch HS10.out _ _ (fun X hX => by have := hAl X hX; omega), below_more (below_patch H10.out.bel (Nat.le_refl _) _)⟩
  · go_wp2_with fail
    refine (l1Bytes_any B _ 5 _ HB.out.src (by omega) (by omega)).mono ?_
    rintro e wC ⟨T0, rfl, hT0, hds, hgr⟩
    have HC := Lib.hid (HB.out.draw (drn_of hds hgr HB.out.src.B_lt))
    have rC := cell_of HC.out.blk
    have zC := HC.out.lt.2
    obtain ⟨T, hT9⟩ : ∃ T, S ++ T0 = T := ⟨_, rfl⟩
    have hT : T.size ≤ 60 := by rw [← hT9, ByteArray.size_append]; omega
    clear hds hgr rB zB
    go_wp2_with fail
    (try rw [hT9])
    (try simp only [hT9])
    clear hT9
    go_wp2_with fail
    refine calls_nm (fun Y => KD w Y D B 400 o l m b pa pc ps last) ((HC.out.more (by repeat (first | exact More.refl _ | (with_reducible apply more_seq) | (with_reducible apply more_draw) | apply More.plus | apply More.alloc | apply More.drew))).mono (by omega)) ?_
    intro Y hY
    have HY := Lib.hid hY
    clear hY
    refine (l2Bad_d B _ o l m pa pc ps b last _ HY.out.src (by omega) hs HY.out.rd (fun X hX => (HY.out.off X hX).1) (by omega)).mono ?_
    rintro e w9 ⟨o2, l2', m2, pa9, pc9, qs, base9, last9, rfl, hq9, hrd9, hoff9, hdn⟩
    have H9 := Lib.hid (HY.out.draw hdn)
    have HR9 := Lib.hid (show Rd encP _ pa9 pc9 qs from hrd9)
    have hz9 := HY.out.lt.1
    have hzB := HY.out.src.B_lt
    have hlow9 := HY.out.low
    have hblk9 : ∀ X, pa9 = some X → w.heap.size < X.block ∧ X.block ≠ B := fun X hX => by
      rcases hoff9 X hX with h | h
      · exact ⟨(HY.out.off X h).2, (HY.out.off X h).1⟩
      · omega
    clear hrd9 hoff9 hdn
    go_wp2_with fail
    refine (l3Parts_d B _ T _ H9.out.src (by omega) (by omega)).mono ?_
    rintro e w10 ⟨A, c, us, rfl, hul, husz, hrs, hAl, hdn⟩
    have H10 := Lib.hid (H9.out.draw hdn)
    have HR10 := Lib.hid (rd_grew HR9.out hdn.grew (fun X Y hX hY => by cases hX; exact fun e => (hblk9 Y hY).2 e.symm))
    have HS10 := Lib.hid hrs
    have hz8 := H9.out.lt.1
    clear hrs hdn
    have r9 := cell_of H10.out.res
    have f9 := free_of H10.out.res
    have s9 := fun i v => setCell_patch H10.out.res i v
    have z9 := H10.out.lt.1
    go_wp2_with fail
    exact bodyPost_ret (v := .tuple #[.agg #[.int .i64 o2, .int .i64 l2', .int .i64 m2, .slice pa9 qs.length pc9, .int .i64 base9, .int .i64 last9], .slice A us.length c]) (by simp [results, Try.results41, go_sem, ↓IntWalk.iteOmega]) rfl ⟨o2, l2', m2, pa9, pc9, qs, base9, last9, A, c, us, rfl, hq9, hul, husz, rd_patch HR10.out _ _ (fun X hX => by have := (hblk9 X hX).1; omega), rd_patch HS10.out _ _ (fun X hX => by have := hAl X hX; omega), below_more (below_patch H10.out.bel (Nat.le_refl _) _)⟩
  · have q0 : ((v : Int) == 0) = false := by simp; omega
    have q1 : ((v : Int) == 1) = false := by simp; omega
    go_wp2_with fail
    refine calls_nm (fun Y => KD w Y D B 400 o l m b pa pc ps last) ((HB.out.more (by repeat (first | exact More.refl _ | (with_reducible apply more_seq) | (with_reducible apply more_draw) | apply More.plus | apply More.alloc | apply More.drew))).mono (by omega)) ?_
    intro Y hY
    have HY := Lib.hid hY
    clear hY
    refine (l2Bad_d B _ o l m pa pc ps b last _ HY.out.src (by omega) hs HY.out.rd (fun X hX => (HY.out.off X hX).1) (by omega)).mono ?_
    rintro e w9 ⟨o2, l2', m2, pa9, pc9, qs, base9, last9, rfl, hq9, hrd9, hoff9, hdn⟩
    have H9 := Lib.hid (HY.out.draw hdn)
    have HR9 := Lib.hid (show Rd encP _ pa9 pc9 qs from hrd9)
    have hz9 := HY.out.lt.1
    have hzB := HY.out.src.B_lt
    have hlow9 := HY.out.low
    have hblk9 : ∀ X, pa9 = some X → w.heap.size < X.block ∧ X.block ≠ B := fun X hX => by
      rcases hoff9 X hX with h | h
      · exact ⟨(HY.out.off X h).2, (HY.out.off X h).1⟩
      · omega
    clear hrd9 hoff9 hdn
    go_wp2_with fail
    refine (l3Parts_d B _ S _ H9.out.src (by omega) (by omega)).mono ?_
    rintro e w10 ⟨A, c, us, rfl, hul, husz, hrs, hAl, hdn⟩
    have H10 := Lib.hid (H9.out.draw hdn)
    have HR10 := Lib.hid (rd_grew HR9.out hdn.grew (fun X Y hX hY => by cases hX; exact fun e => (hblk9 Y hY).2 e.symm))
    have HS10 := Lib.hid hrs
    have hz8 := H9.out.lt.1
    clear hrs hdn
    have r9 := cell_of H10.out.res
    have f9 := free_of H10.out.res
    have s9 := fun i v => setCell_patch H10.out.res i v
    have z9 := H10.out.lt.1
    go_wp2_with fail
    exact bodyPost_ret (v := .tuple #[.agg #[.int .i64 o2, .int .i64 l2', .int .i64 m2, .slice pa9 qs.length pc9, .int .i64 base9, .int .i64 last9], .slice A us.length c]) (by simp [results, Try.results41, go_sem, ↓IntWalk.iteOmega]) rfl ⟨o2, l2', m2, pa9, pc9, qs, base9, last9, A, c, us, rfl, hq9, hul, husz, rd_patch HR10.out _ _ (fun X hX => by have := (hblk9 X hX).1; omega), rd_patch HS10.out _ _ (fun X hX => by have := hAl X hX; omega), below_more (below_patch H10.out.bel (Nat.le_refl _) _)⟩

end Go.Proofs.Ytibfkfinghcpaaa
