/- The walk of spec.l2Greedy: codes of the longest words. -/
import Derived.Test.YtlihhlihcjncoaaIgr
import Derived.Test.YtlihhlihcjncoaaGf
namespace Go.Proofs.Ytlihhlihcjncoaa
open Go.RowKit
set_option linter.unusedVariables false
set_option linter.unusedSimpArgs false

/-- what is known in block B, and integers beside it -/
def SB (w : World) (B : Nat) (o l m : Int) (ps : List Pr) (base last : Int) (A : Option Addr) (c : Nat) (xs : List Int) : Prop :=
  ∃ pa pc, w.heap[B]? = some (.cells #[.int .i64 o, .int .i64 l, .int .i64 m, .slice pa ps.length pc, .int .i64 base, .int .i64 last] 27 (0, 0)) ∧ Own encP 44 w pa pc ps (B + 1) ∧ Own encI 3 w A c xs (B + 1) ∧ ∀ X, A = some X → Off pa X.block

section
variable {w w' : World} {B : Nat} {o l m : Int} {ps ps' : List Pr} {base last last' : Int} {A : Option Addr} {c : Nat} {xs : List Int}

theorem SB.plus (h : SB w B o l m ps base last A c xs) (x : Ext) : SB (Go.Proofs.Ytlihhlihcjncoaa.plus w x) B o l m ps base last A c xs := by
  obtain ⟨pa, pc, h1, h2, h3, h4⟩ := h
  exact ⟨pa, pc, blk_plus h1 _, h2.plus _, h3.plus _, h4⟩

theorem SB.alloc (h : SB w B o l m ps base last A c xs) (ob : Obj) : SB (w.alloc ob) B o l m ps base last A c xs := by rw [alloc_plus]; exact h.plus _

theorem SB.drew (h : SB w B o l m ps base last A c xs) : SB w.drew B o l m ps base last A c xs := by rw [drew_is_plus]; exact h.plus _

theorem sb_seq {x y : Ext} (h : SB (Go.Proofs.Ytlihhlihcjncoaa.plus w x) B o l m ps base last A c xs) : SB (Go.Proofs.Ytlihhlihcjncoaa.plus w (x.seq y)) B o l m ps base last A c xs := by rw [← plus_plus]; exact h.plus y

theorem SB.known (h : SB w B o l m ps base last A c xs) : ∃ pa pc, w.heap[B]? = some (.cells #[.int .i64 o, .int .i64 l, .int .i64 m, .slice pa ps.length pc, .int .i64 base, .int .i64 last] 27 (0, 0)) ∧ RdP w pa pc ps := by
  obtain ⟨pa, pc, h1, h2, h3, h4⟩ := h
  exact ⟨pa, pc, h1, h2.rd⟩

theorem SB.ints (h : SB w B o l m ps base last A c xs) : Own encI 3 w A c xs (B + 1) := by
  obtain ⟨pa, pc, h1, h2, h3, h4⟩ := h
  exact h3

/-- the integers have grown -/
theorem SB.grew {A' : Option Addr} {c' : Nat} {ys : List Int} (h : SB w B o l m ps base last A c xs) (hown : Own encI 3 w' A' c' ys (B + 1)) (hg : Grew A w w') (hx : Nxt A A' w.heap.size) : SB w' B o l m ps base last A' c' ys := by
  obtain ⟨pa, pc, h1, h2, h3, h4⟩ := h
  refine ⟨pa, pc, ?_, h2.of_block fun X hX hl => hg.block _ hl fun Y hY e => h4 Y hY X hX e.symm, hown, fun X hX Y hY e => ?_⟩
  · rw [hg.block B (Array.getElem?_eq_some_iff.1 h1).1 fun X hX => by have := (own_lt h3 X hX).1; omega]; exact h1
  · rcases hx X hX with ⟨Z, hZ, he⟩ | he
    · exact h4 Z hZ Y hY (by omega)
    · have := (own_lt h2 Y hY).2; omega

/-- something else is known: its pairs are new -/
theorem SB.put {y : Ext} {pa2 : Option Addr} {pc2 : Nat} (h : SB w B o l m ps base last A c xs) (hown : Own encP 44 (Go.Proofs.Ytlihhlihcjncoaa.plus w y) pa2 pc2 ps' w.heap.size) :
    SB (Go.Proofs.Ytlihhlihcjncoaa.plus (patch w B (.cells #[.int .i64 o, .int .i64 l, .int .i64 m, .slice pa2 ps'.length pc2, .int .i64 base, .int .i64 last'] 27)) y) B o l m ps' base last' A c xs := by
  obtain ⟨pa, pc, h1, h2, h3, h4⟩ := h
  have hB := (Array.getElem?_eq_some_iff.1 h1).1
  refine ⟨pa2, pc2, blk_plus (patch_at _ _ _ hB) _, (own_swap hown (by simp) (Nat.le_refl _)).lower (by omega), (own_patch h3 fun X hX => by have := (own_lt h3 X hX).1; omega).plus _, fun X hX Y hY e => ?_⟩
  have := (own_lt h3 X hX).2
  have := (own_lt hown Y hY).1
  omega

end

theorem row1 (x : Int) : Row encI #[.int .i64 x] [x] :=
  row_of encI _ _ fun i y hx j hj => by
    obtain rfl : j = 0 := by have : j < 1 := hj; omega
    match i, hx with
    | 0, hx => simp at hx; subst hx; rfl

/-- the state of the loop -/
def SSt (o l m : Int) (b : Nat) (G : List Int) (w0 : World) (A : Option Addr) (n c : Nat) (x : ByteArray) (wr : World) : Prop :=
  ∃ (ps : List Pr) (last : Int) (xs : List Int) (f : Nat), n = xs.length ∧ SB wr w0.heap.size o l m ps (b : Int) last A c xs ∧ KV o l m ps (b : Int) last ∧ dfB o l m x = true ∧
    x.size ≤ f ∧ xs.length + 2 * x.size ≤ 5000 ∧ xs ++ gre l m b f ps last x.data.toList = G ∧ (x.size ≠ 0 → full l m ps.length b = false) ∧ Below w0.heap.size w0 wr

set_option maxRecDepth 100000 in
set_option maxHeartbeats 4000000 in
theorem sgreedy_any (o l m : Int) (a : Option Addr) (cap : Nat) (ps : List Pr) (base last : Int) (s : ByteArray) (w : World) (hr : RdP w a cap ps) (hkv : KV o l m ps base last) (hd : dfB o l m s = true) (b : Nat) (hb : base = b) (G : List Int) (hG : greL l m b ps s.data.toList = G) :
    Calls Try.prog 91 #[.agg #[.int .i64 o, .int .i64 l, .int .i64 m, .slice a ps.length cap, .int .i64 base, .int .i64 last], .string s] w (RetIs w G) := by
  subst hb
  have hlen := kv_len (kvb_iff.2 hkv)
  have HV := Lib.hid hkv
  have hb1 := hkv.b1
  have hs := hkv.s
  have hbl : b ≤ ps.length := by omega
  have hd2 := hd
  unfold dfB at hd2
  simp only [Bool.and_eq_true, decide_eq_true_eq] at hd2
  have hs2 : s.size ≤ 2000 := by have := hd2.2.1; omega
  obtain ⟨_, l1, l2, m1, m2⟩ := sv_iff.1 hs
  have l0 : 0 ≤ l := by omega
  have l10 : l ≤ 10 := by omega
  have m0 : 0 ≤ m := by omega
  have HD := Lib.hid hd
  obtain ⟨G0, hG0⟩ : ∃ G0, two l :: gre l m b s.size (ps.take b) (-1) s.data.toList = G0 := ⟨_, rfl⟩
  have HGG := Lib.hid (show G = G0 ++ [two l + 1] by rw [← hG, ← hG0]; unfold greL; rw [bytes_len]; rfl)
  have HG0 := Lib.hid hG0
  obtain ⟨i0, hi, iz0, iz1, iz2⟩ := info_parts infoInt
  clear hkv hd hG hb1 hd2 hG0
  go_enter Try.func91, Try.ntmps91
  go_wp2_with fail
  refine (l1Clear_any _ _ _ l0 l10 _).mono ?_
  rintro e w' ⟨rfl, x1, rfl⟩
  go_wp2_with fail
  refine (l2Cleared_any o l m a cap ps b last _ (by repeat (first | exact hr | apply rd_seq | apply Rd.plus | apply Rd.alloc | apply Rd.drew | apply Rd.drewN | refine rd_patch ?_ _ _ (by intro A hA; first | (cases hA; show _ ≠ _; omega) | (have := hal A hA; omega)))) hbl hlen).mono ?_
  rintro e w' ⟨pa, pc, rfl, hown, x2, rfl⟩
  have HW := Lib.hid hown
  clear hown
  go_wp2_with fail
  go_loopw [1, 5] (fun q1 q2 wr => ∃ (x : ByteArray) (A : Option Addr) (n c : Nat), q1 = .string x ∧ q2 = .slice A n c ∧ SSt o l m b G0 w A n c x wr) (fun q1 _ _ => match q1 with | .string x => x.size | _ => 0)
  case atStart =>
    refine ⟨s, _, 1, 1, rfl, rfl, ps.take b, -1, [two l], s.size, rfl, ?_, ?_, HD.out, Nat.le_refl _, by simp; omega, HG0.out, fun _ => full_no.2 (by rw [List.length_take]; omega), (by repeat (first | exact Below.refl _ _ | refine below_plus ?_ (by first | omega | (simp <;> omega)) _ | refine Below.alloc ?_ (by first | omega | (simp <;> omega)) _ | refine below_patch ?_ (by omega) _ | refine Below.drew ?_))⟩
    · refine ⟨pa, pc, ?_, (own_swap HW.out (by simp) (by simp)).lower (by simp; omega), ?_, fun X hX Y hY e => ?_⟩
      · rw [show (ps.take b).length = b by simp; omega]
        exact blk_plus (blk_alloc (blk_plus (push_new _ _ _ rfl) _) _) _
      · exact (Own.newAt (cap := 1) (by simp <;> omega) (by omega) rfl (row1 _) (by simp) (by omega)).plus _
      · cases hX
        have := (own_lt HW.out Y hY).1
        simp at this e
        omega
    · have := HV.out.cleared
      simpa using this
  case round =>
    obtain ⟨x, A, n0, ac, rfl, rfl, ps', last', xs, f, rfl, hsb, hkv, hdx, hxf, hxl, hge, hnf, hbl3⟩ := hrel
    obtain ⟨pa', pc', hblk, hrp⟩ := hsb.known
    have HS := Lib.hid hsb
    have HB := Lib.hid hblk
    have HRP := Lib.hid hrp
    have HK := Lib.hid hkv
    have HX := Lib.hid hdx
    have HGE := Lib.hid hge
    have HBL := Lib.hid hbl3
    have HNF := Lib.hid hnf
    have hlen' := kv_len (kvb_iff.2 hkv)
    have hx2 : x.size ≤ 2000 := by
      unfold dfB at hdx
      simp only [Bool.and_eq_true, decide_eq_true_eq] at hdx
      omega
    have hsz := (Array.getElem?_eq_some_iff.1 hblk).1
    have rb := cell_of hblk
    have fb := free_of hblk
    have he := isEmpty_size x
    clear hsb hblk hrp hkv hdx hge hbl3 hnf
    by_cases hz : x.size = 0
    · rw [decide_eq_true hz] at he
      have hnil : x.data.toList = [] := List.eq_nil_of_length_eq_zero (by rw [bytes_len]; exact hz)
      have HR1 := Lib.hid (show xs = G0 by have := HGE.out; rw [hnil, gre_nil, List.append_nil] at this; exact this)
      clear hz hnil
      go_wp2_with (first | (go_at_call 88; refine (l1End_any _ _ _ l0 l10 _).mono ?_; rintro e w' ⟨rfl, xc, rfl⟩) | (at_builtin; refine wpList_append_at encI _ _ _ _ i0 _ 8 rfl rfl Try.underlying55 hi iz0 iz1 iz2 rfl (by decide) xs A ac (w.heap.size + 1) (SB.ints (B := w.heap.size) (o := o) (l := l) (m := m) (ps := ps') (base := (b : Int)) (last := last') (by repeat (first | (with_reducible exact HS.out) | (with_reducible apply sb_seq) | (with_reducible apply SB.plus) | (with_reducible apply SB.alloc) | (with_reducible apply SB.drew)))) rfl [two l + 1] _ 0 1 (new_cells encI (two l + 1) _ _ (by first | omega | rfl | (simp <;> omega) | (simp only [List.length_cons, List.length_nil, plus_size, World.size_alloc]; omega))) rfl (by first | omega | rfl | (simp <;> omega) | (simp only [List.length_cons, List.length_nil, plus_size, World.size_alloc]; omega)) (by first | omega | rfl | (simp <;> omega) | (simp only [List.length_cons, List.length_nil, plus_size, World.size_alloc]; omega)) (by first | omega | rfl | (simp <;> omega) | (simp only [List.length_cons, List.length_nil, plus_size, World.size_alloc]; omega)) ?_; intro A6 c6 w6 hw6 hg6 hx6; have HW6 := Lib.hid hw6; have HG6 := Lib.hid hg6; clear hw6 hg6 hx6))
      go_ret
      refine ⟨A6, c6, by rw [HGG.out, ← HR1.out]; simp, by rw [HGG.out, ← HR1.out]; exact HW6.out.lower (by omega), below_more (HBL.out.trans (Below.trans (b := _) (by repeat (first | exact Below.refl _ _ | refine below_plus ?_ (by first | omega | (simp <;> omega)) _ | refine Below.alloc ?_ (by first | omega | (simp <;> omega)) _ | refine below_patch ?_ (by omega) _ | refine Below.drew ?_)) (HG6.out.below (by simp <;> omega) fun X hX => by have := (own_lt HS.out.ints X hX).1; omega)))⟩
    · rw [decide_eq_false hz] at he
      have hz0 : 0 < x.size := by omega
      obtain ⟨n, hn⟩ := lon_ex HK.out HX.out hz0
      obtain ⟨c, hc⟩ := fnd_ex l m ps' last' (x.data.toList.take n) (HK.out.lim.bds).2.2.2.2.1
      have hok := fnd_ok hn hc
      have hne : x.data.toList ≠ [] := by intro e; have := congrArg List.length e; rw [bytes_len, List.length_nil] at this; omega
      obtain ⟨f, rfl⟩ : ∃ f', f = f' + 1 := ⟨f - 1, by omega⟩
      have hstep := gre_step (f := f) (b := b) hne (HNF.out hz) hn hc
      obtain ⟨y2, hy2⟩ : ∃ y2, bstr (x.data.toList.take n) = y2 := ⟨_, rfl⟩
      have hn1 := hn.1
      have hn2 := hn.2.1
      rw [bytes_len] at hn2
      have hys : y2.size = n := by rw [← hy2, bstr_size, List.length_take, bytes_len]; omega
      have hyb : y2.data.toList = x.data.toList.take n := by rw [← hy2, bytes_bstr]
      have HN := Lib.hid hn
      have HC := Lib.hid (show IsFnd l m ps' last' y2.data.toList c by rw [hyb]; exact hc)
      have HOK := Lib.hid hok
      have HST := Lib.hid hstep
      have HY := Lib.hid hy2
      have HYS := Lib.hid hys
      have hy3 : y2.size ≤ x.size := by omega
      have hy4 : 1 ≤ y2.size := by omega
      have hfirst := dfB_first HX.out hz0
      have hrest := ext_drop x y2.size
      have hrs : (x.extract y2.size x.size).size = x.size - y2.size := by rw [← bytes_len, hrest, List.length_drop, bytes_len]
      have HDR := Lib.hid (dfB_drop HX.out y2.size)
      have HGE2 := Lib.hid (show xs ++ [c] ++ gre l m b f (aftP l m ps' last' c) c (x.extract y2.size x.size).data.toList = G0 by rw [hrest, HYS.out, ← HGE.out, HST.out]; simp)
      have HRS := Lib.hid hrs
      have HKA := Lib.hid (HK.out.after HOK.out)
      have hqn : (aftP l m ps' last' c).length ≤ 2000 := kv_len (kvb_iff.2 HKA.out)
      clear hn hc hok hstep hy2 hys hyb hz hn1 hn2 hne hrest hrs
      go_wp2_with (first | (go_at_call 74; refine (l2Longest_any o l m pa' pc' ps' b last' x _ (by repeat (first | exact HRP.out | apply rd_seq | apply Rd.plus | apply Rd.alloc | apply Rd.drew | apply Rd.drewN | refine rd_patch ?_ _ _ (by intro A hA; first | (cases hA; show _ ≠ _; omega) | (have := hal A hA; omega)))) HK.out (by unfold maxLen; omega) hz0 hfirst n HN.out).mono ?_; rintro e w' ⟨rfl, x2, rfl⟩; rw [HY.out]) | (go_at_call 78; refine (l2Find_any o l m pa' pc' ps' b last' y2 _ (by repeat (first | exact HRP.out | apply rd_seq | apply Rd.plus | apply Rd.alloc | apply Rd.drew | apply Rd.drewN | refine rd_patch ?_ _ _ (by intro A hA; first | (cases hA; show _ ≠ _; omega) | (have := hal A hA; omega)))) HK.out (by unfold maxLen; omega) c HC.out).mono ?_; rintro e w' ⟨rfl, xc, rfl⟩) | (at_builtin; refine wpList_append_at encI _ _ _ _ i0 _ 8 rfl rfl Try.underlying55 hi iz0 iz1 iz2 rfl (by decide) xs A ac (w.heap.size + 1) (SB.ints (B := w.heap.size) (o := o) (l := l) (m := m) (ps := ps') (base := (b : Int)) (last := last') (by repeat (first | (with_reducible exact HS.out) | (with_reducible apply sb_seq) | (with_reducible apply SB.plus) | (with_reducible apply SB.alloc) | (with_reducible apply SB.drew)))) rfl [c] _ 0 1 (new_cells encI c _ _ (by first | omega | rfl | (simp <;> omega) | (simp only [List.length_cons, List.length_nil, plus_size, World.size_alloc]; omega))) rfl (by first | omega | rfl | (simp <;> omega) | (simp only [List.length_cons, List.length_nil, plus_size, World.size_alloc]; omega)) (by first | omega | rfl | (simp <;> omega) | (simp only [List.length_cons, List.length_nil, plus_size, World.size_alloc]; omega)) (by first | omega | rfl | (simp <;> omega) | (simp only [List.length_cons, List.length_nil, plus_size, World.size_alloc]; omega)) ?_; intro A6 c6 w6 hw6 hg6 hx6; have HS6 := Lib.hid (SB.grew (B := w.heap.size) (o := o) (l := l) (m := m) (ps := ps') (base := (b : Int)) (last := last') (by repeat (first | (with_reducible exact HS.out) | (with_reducible apply sb_seq) | (with_reducible apply SB.plus) | (with_reducible apply SB.alloc) | (with_reducible apply SB.drew))) hw6 hg6 hx6); have hbl6 := hg6.below (B := w.heap.size + 1) (by simp <;> omega) fun X hX => (own_lt HS.out.ints X hX).1; have HB6 := Lib.hid (HBL.out.trans (Below.trans (b := _) (by repeat (first | exact Below.refl _ _ | refine below_plus ?_ (by first | omega | (simp <;> omega)) _ | refine Below.alloc ?_ (by first | omega | (simp <;> omega)) _ | refine below_patch ?_ (by omega) _ | refine Below.drew ?_)) (hbl6.mono (by omega)))); have hz6 := hg6.size; simp at hz6; obtain ⟨pa6, pc6, hblk6, hrp6⟩ := HS6.out.known; have HRP6 := Lib.hid hrp6; have r6 := cell_of hblk6; have f6 := free_of hblk6; have s6 := fun v => setCell_patch hblk6 0 v; have hB6 := (Array.getElem?_eq_some_iff.1 hblk6).1; clear hw6 hg6 hx6 hbl6 hblk6 hrp6) | (go_at_call 104; refine (l2After_any o l m pa6 pc6 ps' b last' c _ (by repeat (first | exact HRP6.out | apply rd_seq | apply Rd.plus | apply Rd.alloc | apply Rd.drew | apply Rd.drewN | refine rd_patch ?_ _ _ (by intro A hA; first | (cases hA; show _ ≠ _; omega) | (have := hal A hA; omega)))) HK.out HOK.out).mono ?_; rintro e w' ⟨pa2, pc2, rfl, hown2, x4, rfl⟩; have HO2 := Lib.hid hown2; clear hown2) | fail)
      have HSP := Lib.hid (SB.put (last' := c) HS6.out HO2.out)
      have he2 := isEmpty_size (x.extract y2.size x.size)
      have HBLP := Lib.hid (below_patch HB6.out (Nat.le_refl _) (.cells #[.int .i64 o, .int .i64 l, .int .i64 m, .slice pa2 (aftP l m ps' last' c).length pc2, .int .i64 b, .int .i64 c] 27))
      have HBL6 := Lib.hid (below_plus (below_patch HB6.out (Nat.le_refl _) (.cells #[.int .i64 o, .int .i64 l, .int .i64 m, .slice pa2 (aftP l m ps' last' c).length pc2, .int .i64 b, .int .i64 c] 27)) (by simp; omega) x4)
      clear rb fb r6 f6 s6 he
      by_cases hz2 : (x.extract y2.size x.size).size = 0
      · rw [decide_eq_true hz2] at he2
        have HF := Lib.hid (fun h : (x.extract y2.size x.size).size ≠ 0 => (absurd hz2 h : full l m (aftP l m ps' last' c).length b = false))
        clear hz2
        (refine wp_region_calm (by kernel_rfl) (by kernel_rfl) ?_
         repeat (first | go_big_quiet_skip | (go_big_quiet_want; go_big_quiet_op; first | go_big_quiet_on | (apply Exists.intro; refine ⟨fun _ => ?_, ?_⟩; (focus ((first | (go_at_call 106; first | refine calm_of (l2Next_any _ _ _ _ _ _ _ _ _ hs (by omega)) | refine calm_seq (l2Next_any _ _ _ _ _ _ _ _ _ hs (by omega))) | (go_at_call 118; first | refine calm_of (l1Last_any _ _ _ m0 m2 _) | refine calm_seq (l1Last_any _ _ _ m0 m2 _))))); go_big_quiet_on)))
         refine wpQuiet_nil ?_
         intro _ hw'
         obtain ⟨xq, hw''⟩ := hw'
         subst hw'')
        go_wp2
        go_roundw
        case rel => exact ⟨x.extract y2.size x.size, A6, _, c6, rfl, rfl, aftP l m ps' last' c, c, xs ++ [c], f, by simp, (by repeat (first | (with_reducible exact HSP.out) | (with_reducible apply sb_seq) | (with_reducible apply SB.plus) | (with_reducible apply SB.alloc) | (with_reducible apply SB.drew))), HKA.out, HDR.out, by rw [HRS.out]; omega, by rw [HRS.out]; simp; omega, HGE2.out, HF.out, (by repeat (first | (with_reducible exact HBL6.out) | refine below_plus ?_ (by first | omega | (simp <;> omega)) _ | refine Below.alloc ?_ (by first | omega | (simp <;> omega)) _ | refine below_patch ?_ (by omega) _ | refine Below.drew ?_))⟩
        case measure => show (x.extract y2.size x.size).size < x.size; rw [HRS.out]; omega
      · rw [decide_eq_false hz2] at he2
        rcases dec (two m - 1 < nw l (aftP l m ps' last' c).length) with ⟨h1, v1⟩ | ⟨h1, v1⟩
        · rcases dec (b < (aftP l m ps' last' c).length) with ⟨h2, v2⟩ | ⟨h2, v2⟩
          · have HFU := Lib.hid (full_iff.2 ⟨h1, h2⟩)
            obtain ⟨f, rfl⟩ : ∃ f', f = f' + 1 := ⟨f - 1, by have := HRS.out; omega⟩
            have hne2 : (x.extract y2.size x.size).data.toList ≠ [] := by intro e; have := congrArg List.length e; rw [bytes_len, List.length_nil] at this; exact hz2 this
            have HGE3 := Lib.hid (show xs ++ [c] ++ [two l] ++ gre l m b (f + 1) ((aftP l m ps' last' c).take b) (-1) (x.extract y2.size x.size).data.toList = G0 by rw [← HGE2.out, gre_full hne2 HFU.out]; simp)
            have HNF3 := Lib.hid (show full l m ((aftP l m ps' last' c).take b).length b = false from full_no.2 (by rw [List.length_take]; omega))
            have HK3 := Lib.hid (show KV o l m ((aftP l m ps' last' c).take b) (b : Int) (-1) by simpa using HKA.out.cleared)
            have htl : ((aftP l m ps' last' c).take b).length = b := by rw [List.length_take]; omega
            have HTL := Lib.hid htl
            have v3 : decide ((b : Int) < ((aftP l m ps' last' c).length : Int)) = true := by simp; omega
            clear hz2 hne2 htl
            (refine wp_region_calm (by kernel_rfl) (by kernel_rfl) ?_
             repeat (first | go_big_quiet_skip | (go_big_quiet_want; go_big_quiet_op; first | go_big_quiet_on | (apply Exists.intro; refine ⟨fun _ => ?_, ?_⟩; (focus ((first | (go_at_call 106; first | refine calm_of (l2Next_any _ _ _ _ _ _ _ _ _ hs (by omega)) | refine calm_seq (l2Next_any _ _ _ _ _ _ _ _ _ hs (by omega))) | (go_at_call 118; first | refine calm_of (l1Last_any _ _ _ m0 m2 _) | refine calm_seq (l1Last_any _ _ _ m0 m2 _))))); go_big_quiet_on)))
             refine wpQuiet_nil ?_
             intro _ hw'
             obtain ⟨xq, hw''⟩ := hw'
             subst hw'')
            go_wp2_with (first | (go_at_call 109; refine (l1Clear_any _ _ _ l0 l10 _).mono ?_; rintro e w' ⟨rfl, xc, rfl⟩) | (at_builtin; refine wpList_append_at encI _ _ _ _ i0 _ 8 rfl rfl Try.underlying55 hi iz0 iz1 iz2 rfl (by decide) (xs ++ [c]) A6 c6 (w.heap.size + 1) (SB.ints (B := w.heap.size) (o := o) (l := l) (m := m) (ps := aftP l m ps' last' c) (base := (b : Int)) (last := c) (by repeat (first | (with_reducible exact HSP.out) | (with_reducible apply sb_seq) | (with_reducible apply SB.plus) | (with_reducible apply SB.alloc) | (with_reducible apply SB.drew)))) (by rw [List.length_append]; rfl) [two l] _ 0 1 (new_cells encI (two l) _ _ (by first | omega | rfl | (simp <;> omega) | (simp only [List.length_cons, List.length_nil, plus_size, World.size_alloc]; omega))) rfl (by first | omega | rfl | (simp <;> omega) | (simp only [List.length_cons, List.length_nil, plus_size, World.size_alloc]; omega)) (by first | omega | rfl | (simp <;> omega) | (simp only [List.length_cons, List.length_nil, plus_size, World.size_alloc]; omega)) (by first | omega | rfl | (simp <;> omega) | (simp only [List.length_cons, List.length_nil, plus_size, World.size_alloc]; omega)) ?_; intro A7 c7 w7 hw7 hg7 hx7; have HS7 := Lib.hid (SB.grew (B := w.heap.size) (o := o) (l := l) (m := m) (ps := aftP l m ps' last' c) (base := (b : Int)) (last := c) (by repeat (first | (with_reducible exact HSP.out) | (with_reducible apply sb_seq) | (with_reducible apply SB.plus) | (with_reducible apply SB.alloc) | (with_reducible apply SB.drew))) hw7 hg7 hx7); have hbl7 := hg7.below (B := w.heap.size + 1) (by simp <;> omega) fun X hX => (own_lt HSP.out.ints X hX).1; have HB7 := Lib.hid (HBLP.out.trans (Below.trans (b := _) (by repeat (first | exact Below.refl _ _ | refine below_plus ?_ (by first | omega | (simp <;> omega)) _ | refine Below.alloc ?_ (by first | omega | (simp <;> omega)) _ | refine below_patch ?_ (by omega) _ | refine Below.drew ?_)) (hbl7.mono (by omega)))); have hz7 := hg7.size; simp at hz7; obtain ⟨pa7, pc7, hblk7, hrp7⟩ := HS7.out.known; have HRP7 := Lib.hid hrp7; have r7 := cell_of hblk7; have f7 := free_of hblk7; have s7 := fun v => setCell_patch hblk7 0 v; have hB7 := (Array.getElem?_eq_some_iff.1 hblk7).1; clear hw7 hg7 hx7 hbl7 hblk7 hrp7) | (go_at_call 105; refine (l2Cleared_any o l m pa7 pc7 (aftP l m ps' last' c) b c _ (by repeat (first | exact HRP7.out | apply rd_seq | apply Rd.plus | apply Rd.alloc | apply Rd.drew | apply Rd.drewN | refine rd_patch ?_ _ _ (by intro A hA; first | (cases hA; show _ ≠ _; omega) | (have := hal A hA; omega)))) (by omega) (by omega)).mono ?_; rintro e w' ⟨pa8, pc8, rfl, hown8, x8, rfl⟩; have HO8 := Lib.hid hown8; clear hown8) | fail)
            have HSQ := Lib.hid (SB.put (last' := -1) HS7.out HO8.out)
            rw [List.length_take] at HSQ
            go_roundw
            case rel => exact ⟨x.extract y2.size x.size, A7, _, c7, rfl, rfl, (aftP l m ps' last' c).take b, -1, xs ++ [c] ++ [two l], f + 1, by simp, HSQ.out, HK3.out, HDR.out, by rw [HRS.out]; omega, by rw [HRS.out]; simp; omega, HGE3.out, fun _ => HNF3.out, below_plus (below_patch HB7.out (Nat.le_refl _) _) (by simp; omega) _⟩
            case measure => show (x.extract y2.size x.size).size < x.size; rw [HRS.out]; omega
          · have HF := Lib.hid (fun h : (x.extract y2.size x.size).size ≠ 0 => (full_no.2 (fun h3 => h2 h3.2) : full l m (aftP l m ps' last' c).length b = false))
            have v3 : decide ((b : Int) < ((aftP l m ps' last' c).length : Int)) = false := by simp; omega
            clear hz2
            (refine wp_region_calm (by kernel_rfl) (by kernel_rfl) ?_
             repeat (first | go_big_quiet_skip | (go_big_quiet_want; go_big_quiet_op; first | go_big_quiet_on | (apply Exists.intro; refine ⟨fun _ => ?_, ?_⟩; (focus ((first | (go_at_call 106; first | refine calm_of (l2Next_any _ _ _ _ _ _ _ _ _ hs (by omega)) | refine calm_seq (l2Next_any _ _ _ _ _ _ _ _ _ hs (by omega))) | (go_at_call 118; first | refine calm_of (l1Last_any _ _ _ m0 m2 _) | refine calm_seq (l1Last_any _ _ _ m0 m2 _))))); go_big_quiet_on)))
             refine wpQuiet_nil ?_
             intro _ hw'
             obtain ⟨xq, hw''⟩ := hw'
             subst hw'')
            go_wp2
            go_roundw
            case rel => exact ⟨x.extract y2.size x.size, A6, _, c6, rfl, rfl, aftP l m ps' last' c, c, xs ++ [c], f, by simp, (by repeat (first | (with_reducible exact HSP.out) | (with_reducible apply sb_seq) | (with_reducible apply SB.plus) | (with_reducible apply SB.alloc) | (with_reducible apply SB.drew))), HKA.out, HDR.out, by rw [HRS.out]; omega, by rw [HRS.out]; simp; omega, HGE2.out, HF.out, (by repeat (first | (with_reducible exact HBL6.out) | refine below_plus ?_ (by first | omega | (simp <;> omega)) _ | refine Below.alloc ?_ (by first | omega | (simp <;> omega)) _ | refine below_patch ?_ (by omega) _ | refine Below.drew ?_))⟩
            case measure => show (x.extract y2.size x.size).size < x.size; rw [HRS.out]; omega
        · have HF := Lib.hid (fun h : (x.extract y2.size x.size).size ≠ 0 => (full_no.2 (fun h3 => h1 h3.1) : full l m (aftP l m ps' last' c).length b = false))
          clear hz2
          (refine wp_region_calm (by kernel_rfl) (by kernel_rfl) ?_
           repeat (first | go_big_quiet_skip | (go_big_quiet_want; go_big_quiet_op; first | go_big_quiet_on | (apply Exists.intro; refine ⟨fun _ => ?_, ?_⟩; (focus ((first | (go_at_call 106; first | refine calm_of (l2Next_any _ _ _ _ _ _ _ _ _ hs (by omega)) | refine calm_seq (l2Next_any _ _ _ _ _ _ _ _ _ hs (by omega))) | (go_at_call 118; first | refine calm_of (l1Last_any _ _ _ m0 m2 _) | refine calm_seq (l1Last_any _ _ _ m0 m2 _))))); go_big_quiet_on)))
           refine wpQuiet_nil ?_
           intro _ hw'
           obtain ⟨xq, hw''⟩ := hw'
           subst hw'')
          go_wp2
          go_roundw
          case rel => exact ⟨x.extract y2.size x.size, A6, _, c6, rfl, rfl, aftP l m ps' last' c, c, xs ++ [c], f, by simp, (by repeat (first | (with_reducible exact HSP.out) | (with_reducible apply sb_seq) | (with_reducible apply SB.plus) | (with_reducible apply SB.alloc) | (with_reducible apply SB.drew))), HKA.out, HDR.out, by rw [HRS.out]; omega, by rw [HRS.out]; simp; omega, HGE2.out, HF.out, (by repeat (first | (with_reducible exact HBL6.out) | refine below_plus ?_ (by first | omega | (simp <;> omega)) _ | refine Below.alloc ?_ (by first | omega | (simp <;> omega)) _ | refine below_patch ?_ (by omega) _ | refine Below.drew ?_))⟩
          case measure => show (x.extract y2.size x.size).size < x.size; rw [HRS.out]; omega

end Go.Proofs.Ytlihhlihcjncoaa
