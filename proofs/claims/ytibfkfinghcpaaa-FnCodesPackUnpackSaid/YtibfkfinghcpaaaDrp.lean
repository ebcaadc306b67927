/- Draws: codes that are to be packed (DrawPackCodes). -/
import Derived.Test.YtibfkfinghcpaaaGu
namespace Go.Proofs.Ytibfkfinghcpaaa
open Go.RowKit
set_option linter.unusedVariables false
set_option linter.unusedSimpArgs false

/-- what is known and codes of the draw's own, beside a source -/
structure KC (w wr : World) (D B n : Nat) (o l m : Int) (b : Nat) (pa : Option Addr) (pc : Nat) (ps : List Pr) (last : Int) (A : Option Addr) (c : Nat) (cs : List Int) : Prop where
  kd : KD w wr D B n o l m b pa pc ps last
  own : Own encI 3 wr A c cs (D + 1)
  sep : ∀ X Y, A = some X → pa = some Y → 0 < pc → X.block ≠ Y.block

section
variable {w wr w' : World} {D B n n' : Nat} {o l m : Int} {b : Nat} {pa : Option Addr} {pc : Nat} {ps : List Pr} {last : Int} {A : Option Addr} {c : Nat} {cs : List Int}

theorem KC.draw (h : KC w wr D B n o l m b pa pc ps last A c cs) (hd : Drn wr B n' w') : KC w w' D B n' o l m b pa pc ps last A c cs :=
  ⟨h.kd.draw hd, h.own.of_block fun X hX hl => hd.grew.block _ hl (fun Y hY e => by cases hY; have := own_lo h.own X hX; have := h.kd.low; simp at e; omega), h.sep⟩

theorem KC.more (h : KC w wr D B n o l m b pa pc ps last A c cs) (hm : More wr w') : KC w w' D B n o l m b pa pc ps last A c cs := by
  have hk := h.kd.more hm
  obtain ⟨x, rfl⟩ := hm
  exact ⟨hk, h.own.plus x, h.sep⟩

theorem KC.mono {n2 : Nat} (h : KC w wr D B n o l m b pa pc ps last A c cs) (hn : n ≤ n2) : KC w wr D B n2 o l m b pa pc ps last A c cs := ⟨h.kd.mono hn, h.own, h.sep⟩

theorem KC.turn {A' : Option Addr} {c' : Nat} {cs' : List Int} (h : KC w wr D B n o l m b pa pc ps last A c cs) (hown : Own encI 3 w' A' c' cs' (D + 1)) (hg : Grew A wr w') (hx : Nxt A A' wr.heap.size) : KC w w' D B n o l m b pa pc ps last A' c' cs' := by
  have hlo := own_lo h.own
  have hlow := h.kd.low
  have hlt := h.kd.lt
  refine ⟨⟨blk_grew hg h.kd.res (fun X hX e => by have := hlo X hX; omega), blk_grew hg h.kd.blk (fun X hX e => by have := hlo X hX; omega), rd_grew0 h.kd.rd hg (fun X Y hX hY hc => h.sep X Y hX hY hc), h.kd.off, h.kd.src.grew hg (fun X hX => by have := hlo X hX; omega), h.kd.bel.trans (hg.below (by omega) (fun X hX => by have := hlo X hX; omega)), hlow⟩, hown, fun X Y hX hY hc => ?_⟩
  have hy := rd_lt h.kd.rd Y hY hc
  rcases hx X hX with ⟨Z, hZ, he⟩ | he
  · have := h.sep Z Y hZ hY hc; omega
  · omega

theorem KC.put {b0 c : Nat} {cur : Array Value} (h : KC w wr D B n o l m b pa pc ps last (some ⟨b0, 0, none⟩) c cs) (hlo : D + 1 ≤ b0) (hlt : b0 < wr.heap.size) (hsz : cur.size = c) (hrow : Row encI cur cs) (hle : cs.length ≤ c) (hc : c ≤ 9223372036854775807) :
    KC w (patch wr b0 (.cells cur 3)) D B n o l m b pa pc ps last (some ⟨b0, 0, none⟩) c cs :=
  h.turn (.inr ⟨b0, cur, rfl, hlo, patch_at _ _ _ hlt, by rw [hsz]; show c = c * 1; omega, hrow, hle, hc⟩) (grew_patch _ _ _) (fun X hX => .inl ⟨X, hX, rfl⟩)

end

theorem KC.at {w wr : World} {D B n : Nat} {o l m : Int} {b : Nat} {pa : Option Addr} {pc : Nat} {ps : List Pr} {last : Int} {b0 c : Nat} {cs cs' : List Int} {cur : Array Value} (h : KC w wr D B n o l m b pa pc ps last (some ⟨b0, 0, none⟩) c cs) (hlo : D + 1 ≤ b0) (hlt : b0 < wr.heap.size) (hsz : cur.size = c) (hrow : Row encI cur cs') (hle : cs'.length ≤ c) (hc : c ≤ 9223372036854775807) :
    KC w (patch wr b0 (.cells cur 3)) D B n o l m b pa pc ps last (some ⟨b0, 0, none⟩) c cs' :=
  h.turn (.inr ⟨b0, cur, rfl, hlo, patch_at _ _ _ hlt, by rw [hsz]; show c = c * 1; omega, hrow, hle, hc⟩) (grew_patch _ _ _) (fun X hX => .inl ⟨X, hX, rfl⟩)

theorem rowI_setJ {cur : Array Value} {us : List Int} (h : Row encI cur us) (i : Nat) (v : Int) (hs : us.length ≤ cur.size) : Row encI (cur.setIfInBounds i (.int .i64 v)) (us.set i v) :=
  row_of encI _ _ fun j x hx q hq => by
    obtain rfl : q = 0 := by have : q < 1 := hq; omega
    show (cur.setIfInBounds i (.int .i64 v))[j * 1 + 0]? = some (.int .i64 x)
    rw [show j * 1 + 0 = j by omega, Array.getElem?_setIfInBounds]
    rw [List.getElem?_set] at hx
    by_cases hij : i = j
    · subst hij
      rw [if_pos rfl] at hx ⊢
      split at hx
      · cases hx; rw [if_pos (by omega)]
      · cases hx
    · rw [if_neg hij] at hx ⊢
      have := h (j * 1 + 0) _ (flat_get encI us j x hx 0 (by decide))
      simpa using this

/-- what a draw of a known value and codes leaves -/
def RetPk (w : World) (e : Ending) (w' : World) : Prop := ∃ (o l m : Int) (pa : Option Addr) (pc : Nat) (ps : List Pr) (base last : Int) (A : Option Addr) (c k : Nat) (cs : List Int),
  e = .returned (.tuple #[.agg #[.int .i64 o, .int .i64 l, .int .i64 m, .slice pa ps.length pc, .int .i64 base, .int .i64 last], .slice A k c]) ∧ cs.length = k ∧ ps.length ≤ 3000 ∧ k ≤ 3200 ∧ RdP w' pa pc ps ∧ Rd encI w' A c cs ∧ (∀ X, pa = some X → w.heap.size < X.block) ∧ (∀ X, A = some X → w.heap.size < X.block) ∧ ∃ x, w' = plus w x

set_option maxRecDepth 100000 in
set_option maxHeartbeats 8000000 in
theorem DrawCodesValid_any (a : Option Addr) (cap : Nat) (bs : List UInt8) (w : World) (hr : Rd encB w a cap bs) :
    Calls Try.prog 72 #[.slice a bs.length cap] w (RetPk w) := by
  obtain ⟨i0, hi, iz0, iz1, iz2⟩ := info_parts infoInt
  go_enter Try.func72, Try.ntmps72
  go_wp2_with fail
  refine (l9Open_any a cap bs _ (by repeat (first | exact hr | apply rd_seq | apply Rd.plus | apply Rd.alloc | apply Rd.drew | apply Rd.drewN | refine rd_patch ?_ _ _ (by intro A hA; first | (cases hA; show _ ≠ _; omega) | (have := hal A hA; omega))))).mono ?_
  rintro e w' ⟨B, rfl, hd, hB, x0, rfl⟩
  have HD := Lib.hid hd
  have hBl := hd.B_lt
  simp at hB hBl
  clear hd
  go_wp2_with fail
  refine (l2Draw_d B 0 _ (by repeat (first | (with_reducible exact HD.out) | (with_reducible apply dsrc_seq) | (with_reducible apply dsrc_draw) | (with_reducible apply Dsrc.plus) | (with_reducible apply Dsrc.alloc) | (with_reducible apply Dsrc.drew))) (by omega)).mono ?_
  rintro e w' ⟨o, l, m, pa, pc, ps, b, last, rfl, hkv, hl14, hrd, hoff, hdn⟩
  have hs := hkv.s
  obtain ⟨hso, hl1, hl2, hl3, hl4⟩ := sv_iff.1 hs
  have la : 0 ≤ l := by omega
  have lb : l ≤ 10 := by omega
  have ma : 0 ≤ m := by omega
  have mb : m ≤ 10 := by omega
  have HWM := Lib.hid (show IntKind.i64.wrap (two m) = two m from IntWalk.i64_in _ (by have := two_bd ma mb; omega))
  have HKV := Lib.hid hkv
  have HR1 := Lib.hid (show Rd encP _ pa pc ps from hrd)
  simp at hoff
  obtain ⟨hd1, cur1, x1, rfl⟩ := hdn
  have HD1 := Lib.hid hd1
  clear hd1
  clear hkv hrd
  go_wp2_with fail
  refine calls_nm (fun X => KD w X (w.heap.size + 1 + x0.n + x1.n) B 60 o l m b pa pc ps last) ⟨?_, ?_, (by (try unfold RdP); repeat (first | (with_reducible exact HR1.out) | (with_reducible apply rd_seq) | (with_reducible apply Rd.plus) | (with_reducible apply Rd.alloc) | (with_reducible apply Rd.drew) | (with_reducible apply Rd.drewN))), fun Y hY => by have := hoff Y hY; omega, (by repeat (first | (with_reducible exact HD1.out) | (with_reducible apply dsrc_seq) | (with_reducible apply dsrc_draw) | (with_reducible apply Dsrc.plus) | (with_reducible apply Dsrc.alloc) | (with_reducible apply Dsrc.drew))), (by repeat (first | exact Below.refl _ _ | refine below_plus ?_ (by first | omega | (simp <;> omega)) _ | refine Below.alloc ?_ (by first | omega | (simp <;> omega)) _ | refine below_patch ?_ (by omega) _ | refine Below.drew ?_)), by omega⟩ ?_
  · exact (by repeat (first | (with_reducible exact push_new _ _ _ rfl) | (with_reducible exact push_new _ _ _ (by simp)) | (with_reducible apply blk_plus) | (with_reducible apply blk_alloc) | (with_reducible apply blk_drew) | (with_reducible refine blk_patch ?_ (by omega))))
  · exact push_new _ _ _ (by simp <;> omega)
  generalize w.heap.size + 1 + x0.n + x1.n = D
  intro X hX
  have HX := Lib.hid hX
  have rX := cell_of hX.blk
  have zX := hX.lt.2
  have hlow := hX.low
  clear hX HR1 HD1 HD hoff hB hBl
  refine (l2Codes_d B _ 24 o l m pa pc ps b last _ HX.out.src (by omega) HKV.out HX.out.rd (fun Y hY _ => (HX.out.off Y hY).1) (by omega) (by omega)).mono ?_
  rintro e w6 ⟨A, cp, cs, rfl, hco, hcl, _, hAo, hdn⟩
  have H6 := Lib.hid (show KC w w6 D B 200 o l m b pa pc ps last A cp cs from ⟨(HX.out.draw hdn).mono (by omega), hco.lower (by omega), fun Z Y hZ hY hc => by have := hAo Z hZ; have := rd_lt HX.out.rd Y hY hc; omega⟩)
  clear hco hAo hdn rX zX HX
  have h6l : cs.length = cs.length := rfl
  go_wp2_with fail
  refine (pick_d B _ _ _ H6.out.kd.src (by omega)).mono ?_
  rintro e wA ⟨v, rfl, hv, hdn⟩
  have HA := Lib.hid (H6.out.draw hdn)
  clear hdn hv H6
  obtain ⟨kk, hkk⟩ : ∃ kk, cs.length = kk := ⟨_, rfl⟩
  rw [hkk]
  rcases (by omega : v = 0 ∨ 0 < v) with hv0 | hv0
  · have q0 : ((v : Int) == 0) = true := by simp; omega
    have zA := HA.out.kd.lt
    clear hkk h6l
    go_wp2_with fail
    refine wp_nm2 (fun X => KC w X D B 300 o l m b pa pc ps last (some ⟨wA.heap.size, 0, none⟩) 0 []) ?_ ?_
    · exact (HA.out.mono (by omega)).turn (Own.newAt rfl (by omega) rfl (row_of encI _ _ (fun i x h => by simp at h)) (by simp) (by omega)) (grew_alloc (grew_refl _ _) _) (fun X hX => by cases hX; exact .inr rfl)
    generalize wA.heap.size = bq
    intro X hX
    have HX := Lib.hid hX
    clear hX HA zA
    go_loopw [6, 7] (fun u q wr => ∃ (k : Nat) (A : Option Addr) (cp : Nat) (cs : List Int), u = .slice A k cp ∧ q = .int .i64 k ∧ k ≤ 3101 ∧ cs.length = k ∧ KC w wr D B (300 + k) o l m b pa pc ps last A cp cs) (fun _ q _ => 3101 - (intOf q).toNat)
    case atStart => exact ⟨0, _, 0, [], rfl, rfl, by omega, rfl, HX.out⟩
    case round =>
      obtain ⟨k, A, cp, cs, rfl, rfl, hk, hcl, hkc⟩ := hrel
      have H := Lib.hid hkc
      clear hkc
      go_wp2_with fail
      refine (num_d B _ _ (by repeat (first | (with_reducible exact H.out.kd.src) | (with_reducible apply dsrc_seq) | (with_reducible apply dsrc_draw) | (with_reducible apply Dsrc.plus) | (with_reducible apply Dsrc.alloc) | (with_reducible apply Dsrc.drew))) (by omega) _ _ [2000, 2001, 3101] (by first | exact rd_lit _ _ _ _ _ (by simp <;> omega) rfl (by decide) | exact Rd.alloc (rd_lit _ _ _ _ _ (by simp <;> omega) rfl (by decide)) _) (fun X hX => by cases hX; have := H.out.kd.src.B_lt; simp <;> omega) (by decide)).mono ?_
      rintro e w8 ⟨z, rfl, hz, hdn⟩
      have hz2 : z = 2000 ∨ z = 2001 ∨ z = 3101 := by simpa using hz
      have H8 := Lib.hid ((H.out.more (by repeat (first | exact More.refl _ | apply More.plus | apply More.alloc | apply More.drew | apply More.drewN))).draw hdn)
      have hcp := H8.out.own.rd.1
      have hcp2 := H8.out.own.rd.2.1
      have zl8 := H8.out.kd.lt
      clear hz hdn H
      rcases dec ((k : Int) < z) with ⟨hlt, v1⟩ | ⟨hlt, v1⟩
      · subst hcl
        go_wp2_with (at_builtin; refine wpList_append_at encI _ _ _ _ i0 _ 8 rfl rfl Try.underlying30 hi iz0 iz1 iz2 rfl (by decide) cs A cp (D + 1) (by repeat (first | (with_reducible exact H8.out.own) | (with_reducible apply own_seq) | (with_reducible apply own_draw) | (with_reducible apply Own.plus) | (with_reducible apply Own.alloc) | (with_reducible apply Own.drew) | (with_reducible apply Own.drewN))) rfl [0] _ 0 1 (new_cells encI 0 _ _ (by first | omega | rfl | (simp <;> omega) | (simp only [List.length_cons, List.length_nil, plus_size, World.size_alloc]; omega))) rfl (by first | omega | rfl | (simp <;> omega) | (simp only [List.length_cons, List.length_nil, plus_size, World.size_alloc]; omega)) (by first | omega | rfl | (simp <;> omega) | (simp only [List.length_cons, List.length_nil, plus_size, World.size_alloc]; omega)) (by simp <;> omega) ?_; intro A7 c7 w7 hw7 hg7 hx7; have H7 := Lib.hid (KC.turn (KC.more H8.out (by repeat (first | exact More.refl _ | apply More.plus | apply More.alloc | apply More.drew | apply More.drewN))) hw7 hg7 hx7); clear hw7 hg7 hx7)
        go_roundw
        case rel => exact ⟨cs.length + 1, A7, c7, cs ++ [0], by simp, by go_num, by omega, by simp, H7.out.mono (by omega)⟩
        case measure => simp [intOf]; omega
      · have hk32 : k ≤ 3200 := by omega
        have hk0 : 0 < k := by omega
        · have q1 : decide ((0 : Int) < (k : Int)) = true := by simp; omega
          have q2 : decide (0 < k) = true := by simp; omega
          go_wp2_with fail
          refine (pick_d B _ _ _ H8.out.kd.src (by omega)).mono ?_
          rintro e w7 ⟨v7, rfl, hv7, hdn⟩
          have H7 := Lib.hid ((H8.out.draw hdn).mono (n2 := 3700) (by omega))
          clear hdn
          rcases (by omega : v7 = 0 ∨ 0 < v7) with hv9 | hv9
          · have q7 : ((v7 : Int) == 0) = true := by simp; omega
            have z7 := H7.out.kd.lt.2
            have zl7 := H7.out.kd.low
            go_wp2_with fail
            refine wp_region_pt 18 (fun w' => w'.heap[D]? = some (.cells #[.int .i64 o, .int .i64 l, .int .i64 m, .slice pa ps.length pc, .int .i64 b, .int .i64 last] 27 (0, 0))) (Plan.quiet 0 (Plan.quiet 1 (Plan.quiet 2 (Plan.quiet 3 (Plan.quiet 5 (Plan.quiet 6 (Plan.quiet 7 (Plan.quiet 9 (Plan.quiet 10 (Plan.quiet 12 (Plan.quiet 13 (Plan.one 4 (Plan.one 8 (Plan.one 11 (Plan.one 14 (Plan.quiet 15 (Plan.one 16 (Plan.one 17 (Plan.one 18 (Plan.one 19 Plan.done)))))))))))))))))))) (by kernel_rfl) (by kernel_rfl) (blk_drew H7.out.kd.blk) ?_
            refine wpPt_val rfl rfl ?_
            apply Exists.intro
            refine ⟨fun w' hS => ?_, ?_⟩
            focus (have rS := cell_of hS; simp [go_sem, ↓IntWalk.iteOmega, rS, HWM.out] <;> first | done | exact rfl | (rw [IntWalk.i64_in _ (by omega)]; exact rfl) | trace_state)
            refine wpPt_val rfl rfl ?_
            apply Exists.intro
            refine ⟨fun w' hS => ?_, ?_⟩
            focus (have rS := cell_of hS; simp [go_sem, ↓IntWalk.iteOmega, rS, HWM.out] <;> first | done | exact rfl | (rw [IntWalk.i64_in _ (by omega)]; exact rfl) | trace_state)
            refine wpPt_val rfl rfl ?_
            apply Exists.intro
            refine ⟨fun w' hS => ?_, ?_⟩
            focus (have rS := cell_of hS; simp [go_sem, ↓IntWalk.iteOmega, rS, HWM.out] <;> first | done | exact rfl | (rw [IntWalk.i64_in _ (by omega)]; exact rfl) | trace_state)
            refine wpPt_val rfl rfl ?_
            apply Exists.intro
            refine ⟨fun w' hS => ?_, ?_⟩
            focus (have rS := cell_of hS; simp [go_sem, ↓IntWalk.iteOmega, rS, HWM.out] <;> first | done | exact rfl | (rw [IntWalk.i64_in _ (by omega)]; exact rfl) | trace_state)
            refine wpPt_val rfl rfl ?_
            apply Exists.intro
            refine ⟨fun w' hS => ?_, ?_⟩
            focus (have rS := cell_of hS; simp [go_sem, ↓IntWalk.iteOmega, rS, HWM.out] <;> first | done | exact rfl | (rw [IntWalk.i64_in _ (by omega)]; exact rfl) | trace_state)
            refine wpPt_val rfl rfl ?_
            apply Exists.intro
            refine ⟨fun w' hS => ?_, ?_⟩
            focus (have rS := cell_of hS; simp [go_sem, ↓IntWalk.iteOmega, rS, HWM.out] <;> first | done | exact rfl | (rw [IntWalk.i64_in _ (by omega)]; exact rfl) | trace_state)
            refine wpPt_val rfl rfl ?_
            apply Exists.intro
            refine ⟨fun w' hS => ?_, ?_⟩
            focus (have rS := cell_of hS; simp [go_sem, ↓IntWalk.iteOmega, rS, HWM.out] <;> first | done | exact rfl | (rw [IntWalk.i64_in _ (by omega)]; exact rfl) | trace_state)
            refine wpPt_val rfl rfl ?_
            apply Exists.intro
            refine ⟨fun w' hS => ?_, ?_⟩
            focus (have rS := cell_of hS; simp [go_sem, ↓IntWalk.iteOmega, rS, HWM.out] <;> first | done | exact rfl | (rw [IntWalk.i64_in _ (by omega)]; exact rfl) | trace_state)
            refine wpPt_val rfl rfl ?_
            apply Exists.intro
            refine ⟨fun w' hS => ?_, ?_⟩
            focus (have rS := cell_of hS; simp [go_sem, ↓IntWalk.iteOmega, rS, HWM.out] <;> first | done | exact rfl | (rw [IntWalk.i64_in _ (by omega)]; exact rfl) | trace_state)
            refine wpPt_val rfl rfl ?_
            apply Exists.intro
            refine ⟨fun w' hS => ?_, ?_⟩
            focus (have rS := cell_of hS; simp [go_sem, ↓IntWalk.iteOmega, rS, HWM.out] <;> first | done | exact rfl | (rw [IntWalk.i64_in _ (by omega)]; exact rfl) | trace_state)
            refine wpPt_val rfl rfl ?_
            apply Exists.intro
            refine ⟨fun w' hS => ?_, ?_⟩
            focus (have rS := cell_of hS; simp [go_sem, ↓IntWalk.iteOmega, rS, HWM.out] <;> first | done | exact rfl | (rw [IntWalk.i64_in _ (by omega)]; exact rfl) | trace_state)
            refine wpPt_one rfl rfl (fun K hK => ?_)
            go_simp
            refine (pick_d B 3700 _ _ H7.out.kd.src.drew (by omega)).mono ?_
            rintro e w8 ⟨v8, rfl, hv8, hdn⟩
            have hi8 : v8 < k := by omega
            have H8 := Lib.hid ((H7.out.more (by repeat (first | exact More.refl _ | apply More.plus | apply More.alloc | apply More.drew | apply More.drewN))).draw hdn)
            clear hdn hv8
            refine hK _ _ (fun hkn => H8.out.kd.blk) ?_
            clear hK K
            refine wpPt_one rfl rfl (fun K hK => ?_)
            go_simp
            refine (l1End_any _ _ _ la lb _).mono ?_
            rintro e w' ⟨rfl, y8, rfl⟩
            refine hK _ _ (fun hkn => (by repeat (first | (with_reducible exact H8.out.kd.blk) | apply blk_plus | apply blk_alloc | apply blk_drew))) ?_
            clear hK K
            refine wpPt_one rfl rfl (fun K hK => ?_)
            go_simp
            refine (l1Last_any _ _ _ ma mb _).mono ?_
            rintro e w' ⟨rfl, y9, rfl⟩
            refine hK _ _ (fun hkn => (by repeat (first | (with_reducible exact H8.out.kd.blk) | apply blk_plus | apply blk_alloc | apply blk_drew))) ?_
            clear hK K
            refine wpPt_one rfl rfl (fun K hK => ?_)
            go_simp
            refine (l1Last_any _ _ _ ma mb _).mono ?_
            rintro e w' ⟨rfl, y10, rfl⟩
            refine hK _ _ (fun hkn => (by repeat (first | (with_reducible exact H8.out.kd.blk) | apply blk_plus | apply blk_alloc | apply blk_drew))) ?_
            clear hK K
            refine wpPt_val rfl rfl ?_
            apply Exists.intro
            refine ⟨fun w' hS => ?_, ?_⟩
            focus (have rS := cell_of hS; simp [go_sem, ↓IntWalk.iteOmega, rS, HWM.out] <;> first | done | exact rfl | (rw [IntWalk.i64_in _ (by omega)]; exact rfl) | trace_state)
            refine wpPt_one rfl rfl (fun K hK => ?_)
            go_simp
            refine hK _ _ (fun hkn => (by repeat (first | (with_reducible exact H8.out.kd.blk) | apply blk_plus | apply blk_alloc | apply blk_drew))) ?_
            clear hK K
            refine wpPt_one rfl rfl (fun K hK => ?_)
            go_simp
            refine (num_d B 3701 _ (by repeat (first | (with_reducible exact H8.out.kd.src) | (with_reducible apply dsrc_seq) | (with_reducible apply dsrc_draw) | (with_reducible apply Dsrc.plus) | (with_reducible apply Dsrc.alloc) | (with_reducible apply Dsrc.drew))) (by omega) _ _ [-1, two l + 1, two m - 1, two m] (by first | exact rd_lit _ _ _ _ _ (by simp <;> omega) rfl (by simp) | exact Rd.alloc (rd_lit _ _ _ _ _ (by simp <;> omega) rfl (by simp)) _) (fun X hX => by cases hX; have := H8.out.kd.low; have := H8.out.kd.src.B_lt; simp <;> omega) (by simp)).mono ?_
            rintro e wA ⟨z, rfl, hz, hdn⟩
            have HA := Lib.hid ((H8.out.more (by repeat (first | exact More.refl _ | apply More.plus | apply More.alloc | apply More.drew | apply More.drewN))).draw hdn)
            clear hz hdn
            obtain ⟨b9, cur9, hA9, hlo9, hlt9, hb9, hsz9, hrow9, hle9, hcap9⟩ := own_some HA.out.own (by omega)
            have c9 := cell_of hb9
            have s9 := fun i v => setCell_patch hb9 i v
            have f9 := free_of hb9
            have hsz9' : cur9.size = cp := by rw [hsz9]; show cp * 1 = cp; omega
            subst hA9
            obtain ⟨vv, hvv⟩ : ∃ vv, cur9[v8]? = some vv := get_some (by omega)
            have HQ := Lib.hid (KC.at (cs' := (cs).set v8 z) (cur := cur9.setIfInBounds v8 (.int .i64 z)) (HA.out.mono (n2 := 3900) (by omega)) hlo9 hlt9 (by rw [Array.size_setIfInBounds]; exact hsz9') (rowI_setJ hrow9 v8 z (by omega)) (by rw [List.length_set]; exact hle9) hcap9)
            have hdl : ((cs).set v8 z).length = k := by rw [List.length_set]; exact hcl
            generalize (cs).set v8 z = ds at hdl HQ
            refine hK _ _ (fun hkn => HA.out.kd.blk) ?_
            clear hK K
            refine wpPt_one rfl rfl (fun K hK => ?_)
            go_simp
            refine hK _ _ (fun hkn => absurd hkn (by decide)) ?_
            clear hK K
            refine wpPt_one rfl rfl (fun K hK => ?_)
            go_simp
            (try simp [hvv, go_sem, ↓IntWalk.iteOmega])
            refine hK _ _ (fun hkn => absurd hkn (by decide)) ?_
            clear hK K
            refine NoPanic.normal ?_
            all_goals
              have rD := cell_of HQ.out.kd.blk
              have zD := HQ.out.kd.lt.2
              go_wp2_with fail
              clear rD zD
              refine calls_nm (fun Y => KC w Y D B 4000 o l m b pa pc ps last (some ⟨b9, 0, none⟩) (cp) (ds)) ((HQ.out.more (by repeat (first | exact More.refl _ | (with_reducible apply more_seq) | (with_reducible apply more_draw) | apply More.plus | apply More.alloc | apply More.drew))).mono (by omega)) ?_
              intro Y hY
              have HY := Lib.hid hY
              clear hY
              refine (l2Bad_d B _ o l m pa pc ps b last _ HY.out.kd.src (by omega) hs HY.out.kd.rd (fun X hX => (HY.out.kd.off X hX).1) (by omega)).mono ?_
              rintro e w9 ⟨o2, l2', m2, pa9, pc9, qs, base9, last9, rfl, hq9, hrd9, hoff9, hdn⟩
              have H9 := Lib.hid (HY.out.draw hdn)
              have HR9 := Lib.hid hrd9
              have hz9 := HY.out.kd.lt.1
              have hblk9 : ∀ X, pa9 = some X → w.heap.size < X.block := fun X hX => by
                rcases hoff9 X hX with h | h
                · exact (HY.out.kd.off X h).2
                · omega
              clear hrd9 hoff9 hdn
              have r9 := cell_of H9.out.kd.res
              have f9 := free_of H9.out.kd.res
              have s9 := fun i v => setCell_patch H9.out.kd.res i v
              have z9 := H9.out.kd.lt.1
              have l9 := H9.out.kd.low
              have HLO9 := Lib.hid (own_lo H9.out.own)
              go_wp2_with fail
              exact bodyPost_ret (v := .tuple #[.agg #[.int .i64 o2, .int .i64 l2', .int .i64 m2, .slice pa9 qs.length pc9, .int .i64 base9, .int .i64 last9], .slice (some ⟨b9, 0, none⟩) (k) (cp)]) (by simp [results, Try.results72, go_sem, ↓IntWalk.iteOmega]) rfl ⟨o2, l2', m2, pa9, pc9, qs, base9, last9, some ⟨b9, 0, none⟩, cp, k, ds, rfl, hdl, hq9, by omega, rd_patch HR9.out _ _ (fun X hX => by have := hblk9 X hX; omega), rd_patch H9.out.own.rd _ _ (fun X hX => by have := HLO9.out X hX; omega), hblk9, (fun X hX => by have := HLO9.out X hX; omega), below_more (below_patch H9.out.kd.bel (Nat.le_refl _) _)⟩
          · have q7 : ((v7 : Int) == 0) = false := by simp; omega
            have rD := cell_of H7.out.kd.blk
            have zD := H7.out.kd.lt.2
            go_wp2_with fail
            clear rD zD
            refine calls_nm (fun Y => KC w Y D B 4000 o l m b pa pc ps last (A) (cp) (cs)) ((H7.out.more (by repeat (first | exact More.refl _ | (with_reducible apply more_seq) | (with_reducible apply more_draw) | apply More.plus | apply More.alloc | apply More.drew))).mono (by omega)) ?_
            intro Y hY
            have HY := Lib.hid hY
            clear hY
            refine (l2Bad_d B _ o l m pa pc ps b last _ HY.out.kd.src (by omega) hs HY.out.kd.rd (fun X hX => (HY.out.kd.off X hX).1) (by omega)).mono ?_
            rintro e w9 ⟨o2, l2', m2, pa9, pc9, qs, base9, last9, rfl, hq9, hrd9, hoff9, hdn⟩
            have H9 := Lib.hid (HY.out.draw hdn)
            have HR9 := Lib.hid hrd9
            have hz9 := HY.out.kd.lt.1
            have hblk9 : ∀ X, pa9 = some X → w.heap.size < X.block := fun X hX => by
              rcases hoff9 X hX with h | h
              · exact (HY.out.kd.off X h).2
              · omega
            clear hrd9 hoff9 hdn
            have r9 := cell_of H9.out.kd.res
            have f9 := free_of H9.out.kd.res
            have s9 := fun i v => setCell_patch H9.out.kd.res i v
            have z9 := H9.out.kd.lt.1
            have l9 := H9.out.kd.low
            have HLO9 := Lib.hid (own_lo H9.out.own)
            go_wp2_with fail
            exact bodyPost_ret (v := .tuple #[.agg #[.int .i64 o2, .int .i64 l2', .int .i64 m2, .slice pa9 qs.length pc9, .int .i64 base9, .int .i64 last9], .slice (A) (k) (cp)]) (by simp [results, Try.results72, go_sem, ↓IntWalk.iteOmega]) rfl ⟨o2, l2', m2, pa9, pc9, qs, base9, last9, A, cp, k, cs, rfl, hcl, hq9, by omega, rd_patch HR9.out _ _ (fun X hX => by have := hblk9 X hX; omega), rd_patch H9.out.own.rd _ _ (fun X hX => by have := HLO9.out X hX; omega), hblk9, (fun X hX => by have := HLO9.out X hX; omega), below_more (below_patch H9.out.kd.bel (Nat.le_refl _) _)⟩
  · have q0 : ((v : Int) == 0) = false := by simp; omega
    have hk32 : kk ≤ 3200 := by omega
    rcases (by omega : kk = 0 ∨ 0 < kk) with hk0 | hk0
    · have q1 : decide ((0 : Int) < (kk : Int)) = false := by simp; omega
      have q2 : decide (0 < kk) = false := by simp; omega
      clear hk0
      have rD := cell_of HA.out.kd.blk
      have zD := HA.out.kd.lt.2
      go_wp2_with fail
      clear rD zD
      refine calls_nm (fun Y => KC w Y D B 4000 o l m b pa pc ps last (A) (cp) (cs)) ((HA.out.more (by repeat (first | exact More.refl _ | (with_reducible apply more_seq) | (with_reducible apply more_draw) | apply More.plus | apply More.alloc | apply More.drew))).mono (by omega)) ?_
      intro Y hY
      have HY := Lib.hid hY
      clear hY
      refine (l2Bad_d B _ o l m pa pc ps b last _ HY.out.kd.src (by omega) hs HY.out.kd.rd (fun X hX => (HY.out.kd.off X hX).1) (by omega)).mono ?_
      rintro e w9 ⟨o2, l2', m2, pa9, pc9, qs, base9, last9, rfl, hq9, hrd9, hoff9, hdn⟩
      have H9 := Lib.hid (HY.out.draw hdn)
      have HR9 := Lib.hid hrd9
      have hz9 := HY.out.kd.lt.1
      have hblk9 : ∀ X, pa9 = some X → w.heap.size < X.block := fun X hX => by
        rcases hoff9 X hX with h | h
        · exact (HY.out.kd.off X h).2
        · omega
      clear hrd9 hoff9 hdn
      have r9 := cell_of H9.out.kd.res
      have f9 := free_of H9.out.kd.res
      have s9 := fun i v => setCell_patch H9.out.kd.res i v
      have z9 := H9.out.kd.lt.1
      have l9 := H9.out.kd.low
      have HLO9 := Lib.hid (own_lo H9.out.own)
      go_wp2_with fail
      exact bodyPost_ret (v := .tuple #[.agg #[.int .i64 o2, .int .i64 l2', .int .i64 m2, .slice pa9 qs.length pc9, .int .i64 base9, .int .i64 last9], .slice (A) (kk) (cp)]) (by simp [results, Try.results72, go_sem, ↓IntWalk.iteOmega]) rfl ⟨o2, l2', m2, pa9, pc9, qs, base9, last9, A, cp, kk, cs, rfl, hkk, hq9, by omega, rd_patch HR9.out _ _ (fun X hX => by have := hblk9 X hX; omega), rd_patch H9.out.own.rd _ _ (fun X hX => by have := HLO9.out X hX; omega), hblk9, (fun X hX => by have := HLO9.out X hX; omega), below_more (below_patch H9.out.kd.bel (Nat.le_refl _) _)⟩
    · have q1 : decide ((0 : Int) < (kk : Int)) = true := by simp; omega
      have q2 : decide (0 < kk) = true := by simp; omega
      go_wp2_with fail
      refine (pick_d B _ _ _ HA.out.kd.src (by omega)).mono ?_
      rintro e w7 ⟨v7, rfl, hv7, hdn⟩
      have H7 := Lib.hid ((HA.out.draw hdn).mono (n2 := 3700) (by omega))
      clear hdn
      rcases (by omega : v7 = 0 ∨ 0 < v7) with hv9 | hv9
      · have q7 : ((v7 : Int) == 0) = true := by simp; omega
        have z7 := H7.out.kd.lt.2
        have zl7 := H7.out.kd.low
        go_wp2_with fail
        refine wp_region_pt 18 (fun w' => w'.heap[D]? = some (.cells #[.int .i64 o, .int .i64 l, .int .i64 m, .slice pa ps.length pc, .int .i64 b, .int .i64 last] 27 (0, 0))) (Plan.quiet 0 (Plan.quiet 1 (Plan.quiet 2 (Plan.quiet 3 (Plan.quiet 5 (Plan.quiet 6 (Plan.quiet 7 (Plan.quiet 9 (Plan.quiet 10 (Plan.quiet 12 (Plan.quiet 13 (Plan.one 4 (Plan.one 8 (Plan.one 11 (Plan.one 14 (Plan.quiet 15 (Plan.one 16 (Plan.one 17 (Plan.one 18 (Plan.one 19 Plan.done)))))))))))))))))))) (by kernel_rfl) (by kernel_rfl) (blk_drew H7.out.kd.blk) ?_
        refine wpPt_val rfl rfl ?_
        apply Exists.intro
        refine ⟨fun w' hS => ?_, ?_⟩
        focus (have rS := cell_of hS; simp [go_sem, ↓IntWalk.iteOmega, rS, HWM.out] <;> first | done | exact rfl | (rw [IntWalk.i64_in _ (by omega)]; exact rfl) | trace_state)
        refine wpPt_val rfl rfl ?_
        apply Exists.intro
        refine ⟨fun w' hS => ?_, ?_⟩
        focus (have rS := cell_of hS; simp [go_sem, ↓IntWalk.iteOmega, rS, HWM.out] <;> first | done | exact rfl | (rw [IntWalk.i64_in _ (by omega)]; exact rfl) | trace_state)
        refine wpPt_val rfl rfl ?_
        apply Exists.intro
        refine ⟨fun w' hS => ?_, ?_⟩
        focus (have rS := cell_of hS; simp [go_sem, ↓IntWalk.iteOmega, rS, HWM.out] <;> first | done | exact rfl | (rw [IntWalk.i64_in _ (by omega)]; exact rfl) | trace_state)
        refine wpPt_val rfl rfl ?_
        apply Exists.intro
        refine ⟨fun w' hS => ?_, ?_⟩
        focus (have rS := cell_of hS; simp [go_sem, ↓IntWalk.iteOmega, rS, HWM.out] <;> first | done | exact rfl | (rw [IntWalk.i64_in _ (by omega)]; exact rfl) | trace_state)
        refine wpPt_val rfl rfl ?_
        apply Exists.intro
        refine ⟨fun w' hS => ?_, ?_⟩
        focus (have rS := cell_of hS; simp [go_sem, ↓IntWalk.iteOmega, rS, HWM.out] <;> first | done | exact rfl | (rw [IntWalk.i64_in _ (by omega)]; exact rfl) | trace_state)
        refine wpPt_val rfl rfl ?_
        apply Exists.intro
        refine ⟨fun w' hS => ?_, ?_⟩
        focus (have rS := cell_of hS; simp [go_sem, ↓IntWalk.iteOmega, rS, HWM.out] <;> first | done | exact rfl | (rw [IntWalk.i64_in _ (by omega)]; exact rfl) | trace_state)
        refine wpPt_val rfl rfl ?_
        apply Exists.intro
        refine ⟨fun w' hS => ?_, ?_⟩
        focus (have rS := cell_of hS; simp [go_sem, ↓IntWalk.iteOmega, rS, HWM.out] <;> first | done | exact rfl | (rw [IntWalk.i64_in _ (by omega)]; exact rfl) | trace_state)
        refine wpPt_val rfl rfl ?_
        apply Exists.intro
        refine ⟨fun w' hS => ?_, ?_⟩
        focus (have rS := cell_of hS; simp [go_sem, ↓IntWalk.iteOmega, rS, HWM.out] <;> first | done | exact rfl | (rw [IntWalk.i64_in _ (by omega)]; exact rfl) | trace_state)
        refine wpPt_val rfl rfl ?_
        apply Exists.intro
        refine ⟨fun w' hS => ?_, ?_⟩
        focus (have rS := cell_of hS; simp [go_sem, ↓IntWalk.iteOmega, rS, HWM.out] <;> first | done | exact rfl | (rw [IntWalk.i64_in _ (by omega)]; exact rfl) | trace_state)
        refine wpPt_val rfl rfl ?_
        apply Exists.intro
        refine ⟨fun w' hS => ?_, ?_⟩
        focus (have rS := cell_of hS; simp [go_sem, ↓IntWalk.iteOmega, rS, HWM.out] <;> first | done | exact rfl | (rw [IntWalk.i64_in _ (by omega)]; exact rfl) | trace_state)
        refine wpPt_val rfl rfl ?_
        apply Exists.intro
        refine ⟨fun w' hS => ?_, ?_⟩
        focus (have rS := cell_of hS; simp [go_sem, ↓IntWalk.iteOmega, rS, HWM.out] <;> first | done | exact rfl | (rw [IntWalk.i64_in _ (by omega)]; exact rfl) | trace_state)
        refine wpPt_one rfl rfl (fun K hK => ?_)
        go_simp
        refine (pick_d B 3700 _ _ H7.out.kd.src.drew (by omega)).mono ?_
        rintro e w8 ⟨v8, rfl, hv8, hdn⟩
        have hi8 : v8 < kk := by omega
        have H8 := Lib.hid ((H7.out.more (by repeat (first | exact More.refl _ | apply More.plus | apply More.alloc | apply More.drew | apply More.drewN))).draw hdn)
        clear hdn hv8
        refine hK _ _ (fun hkn => H8.out.kd.blk) ?_
        clear hK K
        refine wpPt_one rfl rfl (fun K hK => ?_)
        go_simp
        refine (l1End_any _ _ _ la lb _).mono ?_
        rintro e w' ⟨rfl, y8, rfl⟩
        refine hK _ _ (fun hkn => (by repeat (first | (with_reducible exact H8.out.kd.blk) | apply blk_plus | apply blk_alloc | apply blk_drew))) ?_
        clear hK K
        refine wpPt_one rfl rfl (fun K hK => ?_)
        go_simp
        refine (l1Last_any _ _ _ ma mb _).mono ?_
        rintro e w' ⟨rfl, y9, rfl⟩
        refine hK _ _ (fun hkn => (by repeat (first | (with_reducible exact H8.out.kd.blk) | apply blk_plus | apply blk_alloc | apply blk_drew))) ?_
        clear hK K
        refine wpPt_one rfl rfl (fun K hK => ?_)
        go_simp
        refine (l1Last_any _ _ _ ma mb _).mono ?_
        rintro e w' ⟨rfl, y10, rfl⟩
        refine hK _ _ (fun hkn => (by repeat (first | (with_reducible exact H8.out.kd.blk) | apply blk_plus | apply blk_alloc | apply blk_drew))) ?_
        clear hK K
        refine wpPt_val rfl rfl ?_
        apply Exists.intro
        refine ⟨fun w' hS => ?_, ?_⟩
        focus (have rS := cell_of hS; simp [go_sem, ↓IntWalk.iteOmega, rS, HWM.out] <;> first | done | exact rfl | (rw [IntWalk.i64_in _ (by omega)]; exact rfl) | trace_state)
        refine wpPt_one rfl rfl (fun K hK => ?_)
        go_simp
        refine hK _ _ (fun hkn => (by repeat (first | (with_reducible exact H8.out.kd.blk) | apply blk_plus | apply blk_alloc | apply blk_drew))) ?_
        clear hK K
        refine wpPt_one rfl rfl (fun K hK => ?_)
        go_simp
        refine (num_d B 3701 _ (by repeat (first | (with_reducible exact H8.out.kd.src) | (with_reducible apply dsrc_seq) | (with_reducible apply dsrc_draw) | (with_reducible apply Dsrc.plus) | (with_reducible apply Dsrc.alloc) | (with_reducible apply Dsrc.drew))) (by omega) _ _ [-1, two l + 1, two m - 1, two m] (by first | exact rd_lit _ _ _ _ _ (by simp <;> omega) rfl (by simp) | exact Rd.alloc (rd_lit _ _ _ _ _ (by simp <;> omega) rfl (by simp)) _) (fun X hX => by cases hX; have := H8.out.kd.low; have := H8.out.kd.src.B_lt; simp <;> omega) (by simp)).mono ?_
        rintro e wA ⟨z, rfl, hz, hdn⟩
        have HA := Lib.hid ((H8.out.more (by repeat (first | exact More.refl _ | apply More.plus | apply More.alloc | apply More.drew | apply More.drewN))).draw hdn)
        clear hz hdn
        obtain ⟨b9, cur9, hA9, hlo9, hlt9, hb9, hsz9, hrow9, hle9, hcap9⟩ := own_some HA.out.own (by omega)
        have c9 := cell_of hb9
        have s9 := fun i v => setCell_patch hb9 i v
        have f9 := free_of hb9
        have hsz9' : cur9.size = cp := by rw [hsz9]; show cp * 1 = cp; omega
        subst hA9
        obtain ⟨vv, hvv⟩ : ∃ vv, cur9[v8]? = some vv := get_some (by omega)
        have HQ := Lib.hid (KC.at (cs' := (cs).set v8 z) (cur := cur9.setIfInBounds v8 (.int .i64 z)) (HA.out.mono (n2 := 3900) (by omega)) hlo9 hlt9 (by rw [Array.size_setIfInBounds]; exact hsz9') (rowI_setJ hrow9 v8 z (by omega)) (by rw [List.length_set]; exact hle9) hcap9)
        have hdl : ((cs).set v8 z).length = kk := by rw [List.length_set]; exact hkk
        generalize (cs).set v8 z = ds at hdl HQ
        refine hK _ _ (fun hkn => HA.out.kd.blk) ?_
        clear hK K
        refine wpPt_one rfl rfl (fun K hK => ?_)
        go_simp
        refine hK _ _ (fun hkn => absurd hkn (by decide)) ?_
        clear hK K
        refine wpPt_one rfl rfl (fun K hK => ?_)
        go_simp
        (try simp [hvv, go_sem, ↓IntWalk.iteOmega])
        refine hK _ _ (fun hkn => absurd hkn (by decide)) ?_
        clear hK K
        refine NoPanic.normal ?_
        all_goals
          have rD := cell_of HQ.out.kd.blk
          have zD := HQ.out.kd.lt.2
          go_wp2_with fail
          clear rD zD
          refine calls_nm (fun Y => KC w Y D B 4000 o l m b pa pc ps last (some ⟨b9, 0, none⟩) (cp) (ds)) ((HQ.out.more (by repeat (first | exact More.refl _ | (with_reducible apply more_seq) | (with_reducible apply more_draw) | apply More.plus | apply More.alloc | apply More.drew))).mono (by omega)) ?_
          intro Y hY
          have HY := Lib.hid hY
          clear hY
          refine (l2Bad_d B _ o l m pa pc ps b last _ HY.out.kd.src (by omega) hs HY.out.kd.rd (fun X hX => (HY.out.kd.off X hX).1) (by omega)).mono ?_
          rintro e w9 ⟨o2, l2', m2, pa9, pc9, qs, base9, last9, rfl, hq9, hrd9, hoff9, hdn⟩
          have H9 := Lib.hid (HY.out.draw hdn)
          have HR9 := Lib.hid hrd9
          have hz9 := HY.out.kd.lt.1
          have hblk9 : ∀ X, pa9 = some X → w.heap.size < X.block := fun X hX => by
            rcases hoff9 X hX with h | h
            · exact (HY.out.kd.off X h).2
            · omega
          clear hrd9 hoff9 hdn
          have r9 := cell_of H9.out.kd.res
          have f9 := free_of H9.out.kd.res
          have s9 := fun i v => setCell_patch H9.out.kd.res i v
          have z9 := H9.out.kd.lt.1
          have l9 := H9.out.kd.low
          have HLO9 := Lib.hid (own_lo H9.out.own)
          go_wp2_with fail
          exact bodyPost_ret (v := .tuple #[.agg #[.int .i64 o2, .int .i64 l2', .int .i64 m2, .slice pa9 qs.length pc9, .int .i64 base9, .int .i64 last9], .slice (some ⟨b9, 0, none⟩) (kk) (cp)]) (by simp [results, Try.results72, go_sem, ↓IntWalk.iteOmega]) rfl ⟨o2, l2', m2, pa9, pc9, qs, base9, last9, some ⟨b9, 0, none⟩, cp, kk, ds, rfl, hdl, hq9, by omega, rd_patch HR9.out _ _ (fun X hX => by have := hblk9 X hX; omega), rd_patch H9.out.own.rd _ _ (fun X hX => by have := HLO9.out X hX; omega), hblk9, (fun X hX => by have := HLO9.out X hX; omega), below_more (below_patch H9.out.kd.bel (Nat.le_refl _) _)⟩
      · have q7 : ((v7 : Int) == 0) = false := by simp; omega
        have rD := cell_of H7.out.kd.blk
        have zD := H7.out.kd.lt.2
        go_wp2_with fail
        clear rD zD
        refine calls_nm (fun Y => KC w Y D B 4000 o l m b pa pc ps last (A) (cp) (cs)) ((H7.out.more (by repeat (first | exact More.refl _ | (with_reducible apply more_seq) | (with_reducible apply more_draw) | apply More.plus | apply More.alloc | apply More.drew))).mono (by omega)) ?_
        intro Y hY
        have HY := Lib.hid hY
        clear hY
        refine (l2Bad_d B _ o l m pa pc ps b last _ HY.out.kd.src (by omega) hs HY.out.kd.rd (fun X hX => (HY.out.kd.off X hX).1) (by omega)).mono ?_
        rintro e w9 ⟨o2, l2', m2, pa9, pc9, qs, base9, last9, rfl, hq9, hrd9, hoff9, hdn⟩
        have H9 := Lib.hid (HY.out.draw hdn)
        have HR9 := Lib.hid hrd9
        have hz9 := HY.out.kd.lt.1
        have hblk9 : ∀ X, pa9 = some X → w.heap.size < X.block := fun X hX => by
          rcases hoff9 X hX with h | h
          · exact (HY.out.kd.off X h).2
          · omega
        clear hrd9 hoff9 hdn
        have r9 := cell_of H9.out.kd.res
        have f9 := free_of H9.out.kd.res
        have s9 := fun i v => setCell_patch H9.out.kd.res i v
        have z9 := H9.out.kd.lt.1
        have l9 := H9.out.kd.low
        have HLO9 := Lib.hid (own_lo H9.out.own)
        go_wp2_with fail
        exact bodyPost_ret (v := .tuple #[.agg #[.int .i64 o2, .int .i64 l2', .int .i64 m2, .slice pa9 qs.length pc9, .int .i64 base9, .int .i64 last9], .slice (A) (kk) (cp)]) (by simp [results, Try.results72, go_sem, ↓IntWalk.iteOmega]) rfl ⟨o2, l2', m2, pa9, pc9, qs, base9, last9, A, cp, kk, cs, rfl, hkk, hq9, by omega, rd_patch HR9.out _ _ (fun X hX => by have := hblk9 X hX; omega), rd_patch H9.out.own.rd _ _ (fun X hX => by have := HLO9.out X hX; omega), hblk9, (fun X hX => by have := HLO9.out X hX; omega), below_more (below_patch H9.out.kd.bel (Nat.le_refl _) _)⟩

set_option maxRecDepth 100000 in
set_option maxHeartbeats 2000000 in
theorem DrawPackCodes_any (a : Option Addr) (cap : Nat) (bs : List UInt8) (w : World) (hr : Rd encB w a cap bs) :
    Calls Try.prog 18 #[.slice a bs.length cap] w (RetPk w) := by
  go_enter Try.func18, Try.ntmps18
  go_wp2_with fail
  refine (DrawCodesValid_any a cap bs _ (by repeat (first | exact hr | apply rd_seq | apply Rd.plus | apply Rd.alloc | apply Rd.drew | apply Rd.drewN | refine rd_patch ?_ _ _ (by intro A hA; first | (cases hA; show _ ≠ _; omega) | (have := hal A hA; omega))))).mono ?_
  rintro e w' ⟨o, l, m, pa, pc, ps, base, last, A, c, k, cs, rfl, hcl, h1, h2, h3, h4, hoff, hoffA, x1, rfl⟩
  simp at hoff hoffA
  have HR := Lib.hid (show Rd encP _ pa pc ps from h3)
  have HRA := Lib.hid h4
  clear h3 h4
  go_wp2_with fail
  exact bodyPost_ret (v := .tuple #[.agg #[.int .i64 o, .int .i64 l, .int .i64 m, .slice pa ps.length pc, .int .i64 base, .int .i64 last], .slice A k c]) (by simp [results, Try.results18, go_sem, ↓IntWalk.iteOmega]) rfl ⟨o, l, m, pa, pc, ps, base, last, A, c, k, cs, rfl, hcl, h1, h2, rd_sn (D1 := w.heap.size) (D2 := w.heap.size) HR.out (by repeat (first | (with_reducible exact sn_refl _ _ _) | (with_reducible apply sn_plus) | (with_reducible apply sn_patch) | (with_reducible apply sn_drew) | (with_reducible refine sn_right ?_ (by first | exact .inl rfl | exact .inr rfl | omega) _) | (with_reducible refine sn_left ?_ (by first | exact .inl rfl | exact .inr rfl | omega) _) | (with_reducible apply sn_alloc) | (with_reducible refine sn_alloc2 ?_ (by simp <;> omega) _ _))) (fun X hX => ⟨by have := hoff X hX; omega, by have := hoff X hX; omega⟩), rd_sn (D1 := w.heap.size) (D2 := w.heap.size) HRA.out (by repeat (first | (with_reducible exact sn_refl _ _ _) | (with_reducible apply sn_plus) | (with_reducible apply sn_patch) | (with_reducible apply sn_drew) | (with_reducible refine sn_right ?_ (by first | exact .inl rfl | exact .inr rfl | omega) _) | (with_reducible refine sn_left ?_ (by first | exact .inl rfl | exact .inr rfl | omega) _) | (with_reducible apply sn_alloc) | (with_reducible refine sn_alloc2 ?_ (by simp <;> omega) _ _))) (fun X hX => ⟨by have := hoffA X hX; omega, by have := hoffA X hX; omega⟩), fun X hX => by have := hoff X hX; omega, fun X hX => by have := hoffA X hX; omega, below_more (by repeat (first | exact Below.refl _ _ | refine below_plus ?_ (by first | omega | (simp <;> omega)) _ | refine Below.alloc ?_ (by first | omega | (simp <;> omega)) _ | refine below_patch ?_ (by omega) _ | refine Below.drew ?_))⟩

end Go.Proofs.Ytibfkfinghcpaaa
