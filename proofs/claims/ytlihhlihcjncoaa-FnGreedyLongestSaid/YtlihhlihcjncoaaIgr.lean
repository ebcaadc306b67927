/- The walk of impl.greedy: codes of the longest words. -/
import Derived.Test.YtlihhlihcjncoaaGrp
import Derived.Test.YtlihhlihcjncoaaTbn
namespace Go.Proofs.Ytlihhlihcjncoaa
open Go.RowKit
set_option linter.unusedVariables false
set_option linter.unusedSimpArgs false

set_option maxHeartbeats 800000 in
theorem isFull_any (o l m : Int) (a : Option Addr) (n cap b : Nat) (last : Int) (w : World) (h : sv o l m = true) (hn : n ≤ 1000000) :
    Calls Try.prog 128 #[.agg #[.int .i64 o, .int .i64 l, .int .i64 m, .slice a n cap, .int .i64 b, .int .i64 last]] w (Ret w (.bool (full l m n b))) := by
  rcases dec (two m - 1 < nw l n) with ⟨h1, v1⟩ | ⟨h1, v1⟩
  all_goals
    have e : full l m n b = (decide (two m - 1 < nw l n) && decide (b < n)) := by unfold full; exact Bool.decide_and _ _
    have E1 := Lib.hid e
    clear e
    go_enter Try.func128, Try.ntmps128
    go_wp2
    (refine wp_region_calm (by kernel_rfl) (by kernel_rfl) ?_
     repeat (first | go_big_quiet_skip | (go_big_quiet_want; go_big_quiet_op; first | go_big_quiet_on | (apply Exists.intro; refine ⟨fun _ => ?_, ?_⟩; (focus ((first | (go_at_call 92; first | refine calm_of (nextWord_any _ _ _ _ _ _ _ _ _ h hn) | refine calm_seq (nextWord_any _ _ _ _ _ _ _ _ _ h hn)) | (go_at_call 48; first | refine calm_of (LastCode_yes _ _ _ h _) | refine calm_seq (LastCode_yes _ _ _ h _))))); go_big_quiet_on)))
     refine wpQuiet_nil ?_
     intro _ hw'
     obtain ⟨xq, hw''⟩ := hw'
     subst hw'')
    go_wp2
    go_ret
    exact ret_of (bool_ret (by rw [E1.out, v1]; simp)) (by repeat (first | exact More.refl _ | apply More.plus | apply More.alloc | apply More.drew | apply More.drewN))

/-- integers of the call's own -/
def RetIs (w : World) (xs : List Int) (e : Ending) (w' : World) : Prop :=
  ∃ a c, e = .returned (.slice a xs.length c) ∧ Own encI 3 w' a c xs w.heap.size ∧ ∃ x, w' = plus w x

/-- the state of the loop -/
def GSt (o l m : Int) (b : Nat) (G : List Int) (t : Nat) (w0 : World) (A : Option Addr) (n c : Nat) (x : ByteArray) (wr : World) : Prop :=
  ∃ (ps : List Pr) (last : Int) (xs : List Int) (f : Nat), n = xs.length ∧ TB encI 3 [] wr t (w0.heap.size + 1) o l m ps (b : Int) last A c xs ∧ KV o l m ps (b : Int) last ∧ dfB o l m x = true ∧
    x.size ≤ f ∧ xs.length + 2 * x.size ≤ 5000 ∧ xs ++ gre l m b f ps last x.data.toList = G ∧ Below w0.heap.size w0 wr ∧ w0.heap.size + 1 ≤ wr.heap.size

theorem below_size {B : Nat} {w w' : World} (h : Below B w w') : w.heap.size ≤ w'.heap.size := h.size

set_option maxRecDepth 100000 in
set_option maxHeartbeats 4000000 in
theorem igreedy_any (o l m : Int) (a : Option Addr) (cap : Nat) (ps : List Pr) (base last : Int) (s : ByteArray) (w : World) (hr : RdP w a cap ps) (hkv : KV o l m ps base last) (hd : dfB o l m s = true) (b : Nat) (hb : base = b) (G : List Int) (hG : greL l m b ps s.data.toList = G) :
    Calls Try.prog 90 #[.agg #[.int .i64 o, .int .i64 l, .int .i64 m, .slice a ps.length cap, .int .i64 base, .int .i64 last], .string s] w (RetIs w G) := by
  subst hb
  have hlen := kv_len (kvb_iff.2 hkv)
  have HV := Lib.hid hkv
  have hb1 := hkv.b1
  have hs := hkv.s
  have hbl : b ≤ ps.length := by omega
  have hd2 := hd
  unfold dfB at hd2
  simp only [Bool.and_eq_true, decide_eq_true_eq] at hd2
  have hs2 : s.size ≤ 2000 := by have := hd2.2.1; omega
  have HD := Lib.hid hd
  obtain ⟨G0, hG0⟩ : ∃ G0, two l :: gre l m b s.size (ps.take b) (-1) s.data.toList = G0 := ⟨_, rfl⟩
  have HGG := Lib.hid (show G = G0 ++ [two l + 1] by rw [← hG, ← hG0]; unfold greL; rw [bytes_len]; rfl)
  have HG0 := Lib.hid hG0
  obtain ⟨i0, hi, iz0, iz1, iz2⟩ := info_parts infoInt
  clear hkv hd hG hb1 hd2 hG0
  go_enter Try.func90, Try.ntmps90
  go_wp2_with fail
  refine wp_region_pt 7 (fun w' => ∃ y, w' = plus _ y) (Plan.quiet 0 (Plan.quiet 1 (Plan.quiet 3 (Plan.quiet 4 (Plan.one 2 (Plan.one 5 (Plan.quiet 6 (Plan.one 7 Plan.done)))))))) (by kernel_rfl) (by kernel_rfl) (⟨_, drew_is_plus _⟩) ?_
  refine wpPt_val rfl rfl ?_
  apply Exists.intro
  refine ⟨fun w' hS => ?_, ?_⟩
  focus (obtain ⟨y3, rfl⟩ := hS; simp [go_sem, ↓IntWalk.iteOmega] <;> first | done | exact rfl | (rw [IntWalk.i64_in _ (by omega)]; exact rfl) | trace_state)
  refine wpPt_val rfl rfl ?_
  apply Exists.intro
  refine ⟨fun w' hS => ?_, ?_⟩
  focus (obtain ⟨y3, rfl⟩ := hS; simp [go_sem, ↓IntWalk.iteOmega] <;> first | done | exact rfl | (rw [IntWalk.i64_in _ (by omega)]; exact rfl) | trace_state)
  refine wpPt_val rfl rfl ?_
  apply Exists.intro
  refine ⟨fun w' hS => ?_, ?_⟩
  focus (obtain ⟨y3, rfl⟩ := hS; simp [go_sem, ↓IntWalk.iteOmega] <;> first | done | exact rfl | (rw [IntWalk.i64_in _ (by omega)]; exact rfl) | trace_state)
  refine wpPt_val rfl rfl ?_
  apply Exists.intro
  refine ⟨fun w' hS => ?_, ?_⟩
  focus (obtain ⟨y3, rfl⟩ := hS; simp [go_sem, ↓IntWalk.iteOmega] <;> first | done | exact rfl | (rw [IntWalk.i64_in _ (by omega)]; exact rfl) | trace_state)
  refine wpPt_one rfl rfl (fun K hK => ?_)
  go_simp
  refine (ClearCode_yes _ _ _ hs _).mono ?_
  rintro e w' ⟨rfl, x2, rfl⟩
  refine hK _ _ (fun hkn => (by repeat (first | exact More.refl _ | (with_reducible apply more_seq) | (with_reducible apply more_draw) | apply More.plus | apply More.alloc | apply More.drew))) ?_
  clear hK K
  refine wpPt_one rfl rfl (fun K hK => ?_)
  go_simp
  refine (EndCode_yes _ _ _ hs _).mono ?_
  rintro e w' ⟨rfl, x3, rfl⟩
  refine hK _ _ (fun hkn => (by repeat (first | exact More.refl _ | (with_reducible apply more_seq) | (with_reducible apply more_draw) | apply More.plus | apply More.alloc | apply More.drew))) ?_
  clear hK K
  refine wpPt_val rfl rfl ?_
  apply Exists.intro
  refine ⟨fun w' hS => ?_, ?_⟩
  focus (obtain ⟨y3, rfl⟩ := hS; simp [go_sem, ↓IntWalk.iteOmega] <;> first | done | exact rfl | (rw [IntWalk.i64_in _ (by omega)]; exact rfl) | trace_state)
  refine wpPt_one rfl rfl (fun K hK => ?_)
  go_simp
  refine hK _ _ (fun hkn => absurd hkn (by decide)) ?_
  clear hK K
  refine NoPanic.normal ?_
  go_wp2_with fail
  refine (tb_new encI 3 _ _ _ _ _ _ _ _ _ (by repeat (first | exact hr | apply rd_seq | apply Rd.plus | apply Rd.alloc | apply Rd.drew | apply Rd.drewN | refine rd_patch ?_ _ _ (by intro A hA; first | (cases hA; show _ ≠ _; omega) | (have := hal A hA; omega)))) hs HV.out.ok hlen).mono ?_
  rintro e w' ⟨t, rfl, ht0, htb, x4, rfl⟩
  have htb2 := htb.lower (lo' := w.heap.size + 1) (by simp <;> omega)
  try simp only [plus_plus] at htb2
  have HT := Lib.hid htb2
  clear htb htb2
  simp at ht0
  go_wp2_with fail
  refine (tb_clear (by repeat (first | (with_reducible exact HT.out) | (with_reducible apply tb_seq) | (with_reducible apply tb_draw) | (with_reducible apply TB.plus) | (with_reducible apply TB.alloc) | (with_reducible apply TB.drew))) hbl).mono ?_
  rintro e w2 ⟨rfl, htb2, hbl2, hsz2, _⟩
  have HT2 := Lib.hid htb2
  have HB2 := Lib.hid (Below.trans (a := w) (B := w.heap.size) (b := _) (by repeat (first | exact Below.refl _ _ | refine below_plus ?_ (by first | omega | (simp <;> omega)) _ | refine Below.alloc ?_ (by first | omega | (simp <;> omega)) _ | refine below_patch ?_ (by omega) _ | refine Below.drew ?_)) (hbl2.mono (by omega)))
  simp at hsz2
  clear htb2 hbl2
  go_wp2_with fail
  go_loopw [1, 8] (fun q1 q2 wr => ∃ (x : ByteArray) (A : Option Addr) (n c : Nat), q1 = .string x ∧ q2 = .slice A n c ∧ GSt o l m b G0 t w A n c x wr) (fun q1 _ _ => match q1 with | .string x => x.size | _ => 0)
  case atStart =>
    refine ⟨s, _, 1, 1, rfl, rfl, ps.take b, -1, [two l], s.size, rfl, TB.first (cur := #[.int .i64 (two l)]) (c := 1) HT2.out rfl ?_ (by simp) (by omega), ?_, HD.out, Nat.le_refl _, by simp; omega, HG0.out, (by repeat (first | (with_reducible exact HB2.out) | refine below_plus ?_ (by first | omega | (simp <;> omega)) _ | refine Below.alloc ?_ (by first | omega | (simp <;> omega)) _ | refine below_patch ?_ (by omega) _ | refine Below.drew ?_)), by simp; omega⟩
    · exact row_of encI _ _ fun i x hx j hj => by
        obtain rfl : j = 0 := by have : j < 1 := hj; omega
        match i, hx with
        | 0, hx => simp at hx; subst hx; rfl
    · have := HV.out.cleared
      simpa using this
  case round =>
    obtain ⟨x, A, n0, ac, rfl, rfl, ps', last', xs, f, rfl, htb, hkv, hdx, hxf, hxl, hge, hbl3, hsz3⟩ := hrel
    have HT := Lib.hid htb
    have HK := Lib.hid hkv
    have HX := Lib.hid hdx
    have HGE := Lib.hid hge
    have HBL := Lib.hid hbl3
    obtain ⟨pa', pc', ⟨ht, hlt, c0, c1, c2, c3, c4, c5⟩, hrp, _, hlen'⟩ := htb.known
    have hlast : last' = -1 ∨ hw l ps'.length last' = true := hkv.last.imp (fun h => h.1) id
    have HLA := Lib.hid hlast
    have hx2 : x.size ≤ 2000 := by
      unfold dfB at hdx
      simp only [Bool.and_eq_true, decide_eq_true_eq] at hdx
      omega
    have he := isEmpty_size x
    clear htb hkv hdx hge hbl3 hrp hlast
    by_cases hz : x.size = 0
    · rw [decide_eq_true hz] at he
      have hnil : x.data.toList = [] := List.eq_nil_of_length_eq_zero (by rw [bytes_len]; exact hz)
      have HR1 := Lib.hid (show xs = G0 by have := HGE.out; rw [hnil, gre_nil, List.append_nil] at this; exact this)
      clear hz hnil
      go_wp2_with (at_builtin; refine wpList_append_tb encI _ _ _ _ i0 _ 8 rfl rfl Try.underlying55 hi iz0 iz1 iz2 rfl (by decide) xs _ _ (by repeat (first | (with_reducible exact HT.out) | (with_reducible apply tb_seq) | (with_reducible apply tb_draw) | (with_reducible apply TB.plus) | (with_reducible apply TB.alloc) | (with_reducible apply TB.drew))) rfl [two l + 1] _ 0 1 (new_cells encI (two l + 1) _ _ (by first | omega | rfl | (simp <;> omega) | (simp only [List.length_cons, List.length_nil, plus_size, World.size_alloc]; omega))) rfl (by first | omega | rfl | (simp <;> omega) | (simp only [List.length_cons, List.length_nil, plus_size, World.size_alloc]; omega)) (by first | omega | rfl | (simp <;> omega) | (simp only [List.length_cons, List.length_nil, plus_size, World.size_alloc]; omega)) ?_; intro A6 c6 w6 htb6 hbl6 hsz6 _; have HT6 := Lib.hid htb6; have HB6 := Lib.hid (HBL.out.trans (Below.trans (b := _) (by repeat (first | exact Below.refl _ _ | refine below_plus ?_ (by first | omega | (simp <;> omega)) _ | refine Below.alloc ?_ (by first | omega | (simp <;> omega)) _ | refine below_patch ?_ (by omega) _ | refine Below.drew ?_)) (hbl6.mono (by omega)))); simp at hsz6; clear htb6 hbl6)
      go_ret
      exact ⟨A6, c6, by rw [HGG.out, ← HR1.out]; simp, by rw [HGG.out, ← HR1.out]; exact HT6.out.own.lower (by omega), below_more HB6.out⟩
    · rw [decide_eq_false hz] at he
      have hz0 : 0 < x.size := by omega
      have HFI := Lib.hid (dfB_first HX.out hz0)
      have hne : x.data.toList ≠ [] := by intro e; have := congrArg List.length e; rw [bytes_len, List.length_nil] at this; omega
      have HNE := Lib.hid hne
      obtain ⟨f, rfl⟩ : ∃ f', f = f' + 1 := ⟨f - 1, by omega⟩
      clear hne
      cases hfu : full l m ps'.length b
      · have HFU := Lib.hid hfu
        clear hfu
        go_wp2_with fail
        refine (isFull_any _ _ _ _ _ _ _ _ _ hs (by omega)).mono ?_
        rintro e w' ⟨rfl, x3, rfl⟩
        rw [HFU.out]
        obtain ⟨n, hn⟩ := lon_ex HK.out HX.out hz0
        obtain ⟨c, hc⟩ := fnd_ex l m (ps') (last') (x.data.toList.take n) (HK.out.lim.bds).2.2.2.2.1
        have hok := fnd_ok hn hc
        have HN := Lib.hid hn
        have HC := Lib.hid hc
        have HOK := Lib.hid hok
        have HST := Lib.hid (gre_step (f := f) (b := b) HNE.out HFU.out hn hc)
        have hn1' := hn.1
        have hn2 := hn.2.1
        rw [bytes_len] at hn2
        have hcut := ext_drop x n
        have hcs : (x.extract n x.size).size = x.size - n := by rw [← bytes_len, hcut, List.length_drop, bytes_len]
        have HCUT := Lib.hid hcut
        have HCS := Lib.hid hcs
        have HDR := Lib.hid (dfB_drop HX.out n)
        clear hn hc hok hcut hcs
        go_wp2_with fail
        refine (tb_longest x (by repeat (first | (with_reducible exact HT.out) | (with_reducible apply tb_seq) | (with_reducible apply tb_draw) | (with_reducible apply TB.plus) | (with_reducible apply TB.alloc) | (with_reducible apply TB.drew))) (HLA.out) hz0 (by unfold maxLen; omega) HFI.out).mono ?_
        rintro e w' ⟨cc, n', rfl, hl1, hl2, x4, rfl⟩
        obtain rfl := HN.out.eq hl1
        obtain rfl := HC.out.eq hl2
        clear hl1 hl2
        go_wp2_with fail
        refine (tb_code c (by repeat (first | (with_reducible exact HT.out) | (with_reducible apply tb_seq) | (with_reducible apply tb_draw) | (with_reducible apply TB.plus) | (with_reducible apply TB.alloc) | (with_reducible apply TB.drew))) (HLA.out) HOK.out).mono ?_
        rintro e w5 ⟨rfl, htb5, hbl5, hsz5, _⟩
        have HT5 := Lib.hid htb5
        have HB5 := Lib.hid (HBL.out.trans (Below.trans (b := _) (by repeat (first | exact Below.refl _ _ | refine below_plus ?_ (by first | omega | (simp <;> omega)) _ | refine Below.alloc ?_ (by first | omega | (simp <;> omega)) _ | refine below_patch ?_ (by omega) _ | refine Below.drew ?_)) (hbl5.mono (by omega))))
        simp at hsz5
        clear htb5 hbl5
        go_wp2_with (at_builtin; refine wpList_append_tb encI _ _ _ _ i0 _ 8 rfl rfl Try.underlying55 hi iz0 iz1 iz2 rfl (by decide) (xs) _ _ (by repeat (first | (with_reducible exact HT5.out) | (with_reducible apply tb_seq) | (with_reducible apply tb_draw) | (with_reducible apply TB.plus) | (with_reducible apply TB.alloc) | (with_reducible apply TB.drew))) (by first | rfl | (rw [List.length_append]; rfl)) [c] _ 0 1 (new_cells encI c _ _ (by first | omega | rfl | (simp <;> omega) | (simp only [List.length_cons, List.length_nil, plus_size, World.size_alloc]; omega))) rfl (by first | omega | rfl | (simp <;> omega) | (simp only [List.length_cons, List.length_nil, plus_size, World.size_alloc]; omega)) (by first | omega | rfl | (simp <;> omega) | (simp only [List.length_cons, List.length_nil, plus_size, World.size_alloc]; omega)) ?_; intro A6 c6 w6 htb6 hbl6 hsz6 _; have HT6 := Lib.hid htb6; have HB6 := Lib.hid (HB5.out.trans (Below.trans (b := _) (by repeat (first | exact Below.refl _ _ | refine below_plus ?_ (by first | omega | (simp <;> omega)) _ | refine Below.alloc ?_ (by first | omega | (simp <;> omega)) _ | refine below_patch ?_ (by omega) _ | refine Below.drew ?_)) (hbl6.mono (by omega)))); simp at hsz6; clear htb6 hbl6)
        go_roundw
        case rel =>
          refine ⟨x.extract n x.size, A6, _, c6, rfl, rfl, aftP l m (ps') (last') c, c, xs ++ [c], f, by simp, HT6.out, HK.out.after HOK.out, HDR.out, by rw [HCS.out]; omega, by rw [HCS.out]; (try simp only [List.length_append, List.length_cons, List.length_nil] at *); omega, ?_, HB6.out, by omega⟩
          rw [HCUT.out, List.append_assoc, ← HGE.out, HST.out]
          simp
        case measure => show (x.extract n x.size).size < x.size; rw [HCS.out]; omega
      · have HFU0 := Lib.hid hfu
        have hfb := full_iff.1 hfu
        have HGE2 := Lib.hid (show xs ++ [two l] ++ gre l m b (f + 1) (ps'.take b) (-1) x.data.toList = G0 by rw [← HGE.out, gre_full HNE.out hfu]; simp)
        have HFU := Lib.hid (show full l m (ps'.take b).length b = false from full_no.2 (by rw [List.length_take]; omega))
        have HK2 := Lib.hid (show KV o l m (ps'.take b) (b : Int) (-1) by simpa using HK.out.cleared)
        clear hfu HGE
        go_wp2_with fail
        refine (isFull_any _ _ _ _ _ _ _ _ _ hs (by omega)).mono ?_
        rintro e w' ⟨rfl, x3, rfl⟩
        rw [HFU0.out]
        go_wp2_with fail
        refine (tb_clear (by repeat (first | (with_reducible exact HT.out) | (with_reducible apply tb_seq) | (with_reducible apply tb_draw) | (with_reducible apply TB.plus) | (with_reducible apply TB.alloc) | (with_reducible apply TB.drew))) (by omega)).mono ?_
        rintro e w2 ⟨rfl, htb2, hbl2, hsz2, _⟩
        have HT2 := Lib.hid htb2
        have HB2 := Lib.hid (HBL.out.trans (Below.trans (b := _) (by repeat (first | exact Below.refl _ _ | refine below_plus ?_ (by first | omega | (simp <;> omega)) _ | refine Below.alloc ?_ (by first | omega | (simp <;> omega)) _ | refine below_patch ?_ (by omega) _ | refine Below.drew ?_)) (hbl2.mono (by omega))))
        simp at hsz2
        clear htb2 hbl2
        go_wp2_with (at_builtin; refine wpList_append_tb encI _ _ _ _ i0 _ 8 rfl rfl Try.underlying55 hi iz0 iz1 iz2 rfl (by decide) xs _ _ (by repeat (first | (with_reducible exact HT2.out) | (with_reducible apply tb_seq) | (with_reducible apply tb_draw) | (with_reducible apply TB.plus) | (with_reducible apply TB.alloc) | (with_reducible apply TB.drew))) rfl [two l] _ 0 1 (new_cells encI (two l) _ _ (by first | omega | rfl | (simp <;> omega) | (simp only [List.length_cons, List.length_nil, plus_size, World.size_alloc]; omega))) rfl (by first | omega | rfl | (simp <;> omega) | (simp only [List.length_cons, List.length_nil, plus_size, World.size_alloc]; omega)) (by first | omega | rfl | (simp <;> omega) | (simp only [List.length_cons, List.length_nil, plus_size, World.size_alloc]; omega)) ?_; intro A7 c7 w7 htb7 hbl7 hsz7 _; have HT7 := Lib.hid htb7; have HB7 := Lib.hid (HB2.out.trans (Below.trans (b := _) (by repeat (first | exact Below.refl _ _ | refine below_plus ?_ (by first | omega | (simp <;> omega)) _ | refine Below.alloc ?_ (by first | omega | (simp <;> omega)) _ | refine below_patch ?_ (by omega) _ | refine Below.drew ?_)) (hbl7.mono (by omega)))); simp at hsz7; clear htb7 hbl7)
        clear HT HT2 HK HB2 HBL
        have HT := Lib.hid HT7.out
        have HK := Lib.hid HK2.out
        have HBL := Lib.hid HB7.out
        have HGE := Lib.hid HGE2.out
        obtain ⟨n, hn⟩ := lon_ex HK.out HX.out hz0
        obtain ⟨c, hc⟩ := fnd_ex l m (ps'.take b) (-1) (x.data.toList.take n) (HK.out.lim.bds).2.2.2.2.1
        have hok := fnd_ok hn hc
        have HN := Lib.hid hn
        have HC := Lib.hid hc
        have HOK := Lib.hid hok
        have HST := Lib.hid (gre_step (f := f) (b := b) HNE.out HFU.out hn hc)
        have hn1' := hn.1
        have hn2 := hn.2.1
        rw [bytes_len] at hn2
        have hcut := ext_drop x n
        have hcs : (x.extract n x.size).size = x.size - n := by rw [← bytes_len, hcut, List.length_drop, bytes_len]
        have HCUT := Lib.hid hcut
        have HCS := Lib.hid hcs
        have HDR := Lib.hid (dfB_drop HX.out n)
        clear hn hc hok hcut hcs
        go_wp2_with fail
        refine (tb_longest x (by repeat (first | (with_reducible exact HT.out) | (with_reducible apply tb_seq) | (with_reducible apply tb_draw) | (with_reducible apply TB.plus) | (with_reducible apply TB.alloc) | (with_reducible apply TB.drew))) (.inl rfl) hz0 (by unfold maxLen; omega) HFI.out).mono ?_
        rintro e w' ⟨cc, n', rfl, hl1, hl2, x4, rfl⟩
        obtain rfl := HN.out.eq hl1
        obtain rfl := HC.out.eq hl2
        clear hl1 hl2
        go_wp2_with fail
        refine (tb_code c (by repeat (first | (with_reducible exact HT.out) | (with_reducible apply tb_seq) | (with_reducible apply tb_draw) | (with_reducible apply TB.plus) | (with_reducible apply TB.alloc) | (with_reducible apply TB.drew))) (.inl rfl) HOK.out).mono ?_
        rintro e w5 ⟨rfl, htb5, hbl5, hsz5, _⟩
        have HT5 := Lib.hid htb5
        have HB5 := Lib.hid (HBL.out.trans (Below.trans (b := _) (by repeat (first | exact Below.refl _ _ | refine below_plus ?_ (by first | omega | (simp <;> omega)) _ | refine Below.alloc ?_ (by first | omega | (simp <;> omega)) _ | refine below_patch ?_ (by omega) _ | refine Below.drew ?_)) (hbl5.mono (by omega))))
        simp at hsz5
        clear htb5 hbl5
        go_wp2_with (at_builtin; refine wpList_append_tb encI _ _ _ _ i0 _ 8 rfl rfl Try.underlying55 hi iz0 iz1 iz2 rfl (by decide) (xs ++ [two l]) _ _ (by repeat (first | (with_reducible exact HT5.out) | (with_reducible apply tb_seq) | (with_reducible apply tb_draw) | (with_reducible apply TB.plus) | (with_reducible apply TB.alloc) | (with_reducible apply TB.drew))) (by first | rfl | (rw [List.length_append]; rfl)) [c] _ 0 1 (new_cells encI c _ _ (by first | omega | rfl | (simp <;> omega) | (simp only [List.length_cons, List.length_nil, plus_size, World.size_alloc]; omega))) rfl (by first | omega | rfl | (simp <;> omega) | (simp only [List.length_cons, List.length_nil, plus_size, World.size_alloc]; omega)) (by first | omega | rfl | (simp <;> omega) | (simp only [List.length_cons, List.length_nil, plus_size, World.size_alloc]; omega)) ?_; intro A6 c6 w6 htb6 hbl6 hsz6 _; have HT6 := Lib.hid htb6; have HB6 := Lib.hid (HB5.out.trans (Below.trans (b := _) (by repeat (first | exact Below.refl _ _ | refine below_plus ?_ (by first | omega | (simp <;> omega)) _ | refine Below.alloc ?_ (by first | omega | (simp <;> omega)) _ | refine below_patch ?_ (by omega) _ | refine Below.drew ?_)) (hbl6.mono (by omega)))); simp at hsz6; clear htb6 hbl6)
        go_roundw
        case rel =>
          refine ⟨x.extract n x.size, A6, _, c6, rfl, rfl, aftP l m (ps'.take b) (-1) c, c, xs ++ [two l] ++ [c], f, by simp, HT6.out, HK.out.after HOK.out, HDR.out, by rw [HCS.out]; omega, by rw [HCS.out]; (try simp only [List.length_append, List.length_cons, List.length_nil] at *); omega, ?_, HB6.out, by omega⟩
          rw [HCUT.out, List.append_assoc, ← HGE.out, HST.out]
          simp
        case measure => show (x.extract n x.size).size < x.size; rw [HCS.out]; omega

end Go.Proofs.Ytlihhlihcjncoaa
