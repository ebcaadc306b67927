/- The walk of spec.l3Read. -/
import Derived.Test.YtmenpflcmpihpaaLrd
namespace Go.Proofs.Ytmenpflcmpihpaa
open Go.RowKit
set_option linter.unusedVariables false
set_option linter.unusedSimpArgs false

/-- a reader in block B with own pairs, and own data beside it -/
structure T5r (w : World) (B : Nat) (o l m : Int) (ps : List Pr) (base last : Int) (pa : Option Addr) (pc : Nat) (z : ByteArray) (sz ct e : Int) (da : Option Addr) (dc : Nat) (D : List UInt8) : Prop where
  blk : w.heap[B]? = some (.cells #[.int .i64 o, .int .i64 l, .int .i64 m, .slice pa ps.length pc, .int .i64 base, .int .i64 last, .string z, .int .i64 sz, .int .i64 ct, .int .i64 e] 69 (0, 0))
  op : Own encP 127 w pa pc ps (B + 2)
  od : Own encB 5 w da dc D (B + 2)
  dp : ∀ X, da = some X → Off pa X.block

section
variable {w w' : World} {B : Nat} {o l m : Int} {ps : List Pr} {base last : Int} {pa : Option Addr} {pc : Nat} {z : ByteArray} {sz ct e : Int} {da : Option Addr} {dc : Nat} {D : List UInt8}

theorem T5r.plus (h : T5r w B o l m ps base last pa pc z sz ct e da dc D) (x : Ext) : T5r (Go.Proofs.Ytmenpflcmpihpaa.plus w x) B o l m ps base last pa pc z sz ct e da dc D :=
  ⟨blk_plus h.blk _, h.op.plus _, h.od.plus _, h.dp⟩

theorem T5r.B_lt (h : T5r w B o l m ps base last pa pc z sz ct e da dc D) : B < w.heap.size := (Array.getElem?_eq_some_iff.1 h.blk).1

/-- a code has been taken -/
theorem T5r.put {y : Ext} {A' : Option Addr} {c' : Nat} {qs : List Pr} {la : Int} {z' : ByteArray} {sz' ct' e' : Int} (h : T5r w B o l m ps base last pa pc z sz ct e da dc D) (hB2 : B + 2 ≤ w.heap.size)
    (hown : (A' = pa ∧ c' = pc ∧ qs = ps) ∨ Own encP 127 (Go.Proofs.Ytmenpflcmpihpaa.plus w y) A' c' qs w.heap.size) :
    T5r (Go.Proofs.Ytmenpflcmpihpaa.plus (patch w B (.cells #[.int .i64 o, .int .i64 l, .int .i64 m, .slice A' qs.length c', .int .i64 base, .int .i64 la, .string z', .int .i64 sz', .int .i64 ct', .int .i64 e'] 69)) y) B o l m qs base la A' c' z' sz' ct' e' da dc D := by
  have hB := h.B_lt
  have hd : Own encB 5 (patch w B (.cells #[.int .i64 o, .int .i64 l, .int .i64 m, .slice A' qs.length c', .int .i64 base, .int .i64 la, .string z', .int .i64 sz', .int .i64 ct', .int .i64 e'] 69)) da dc D (B + 2) := own_patch h.od fun X hX e => by have := own_lo h.od X hX; omega
  rcases hown with ⟨rfl, rfl, rfl⟩ | hown
  · exact ⟨blk_plus (patch_at _ _ _ hB) _, (own_patch h.op fun X hX e => by have := own_lo h.op X hX; omega).plus _, hd.plus _, h.dp⟩
  · refine ⟨blk_plus (patch_at _ _ _ hB) _, ?_, hd.plus _, fun X hX Y hY e => by have := (own_lt h.od X hX).2; have := (own_lt hown Y hY).1; omega⟩
    have h9 := own_swap (w2 := patch w B (.cells #[.int .i64 o, .int .i64 l, .int .i64 m, .slice A' qs.length c', .int .i64 base, .int .i64 la, .string z', .int .i64 sz', .int .i64 ct', .int .i64 e'] 69)) hown (by simp) (Nat.le_refl _)
    exact h9.lower hB2

theorem T5r.grew {A' : Option Addr} {c' : Nat} {ys : List UInt8} (h : T5r w B o l m ps base last pa pc z sz ct e da dc D) (hown : Own encB 5 w' A' c' ys (B + 2)) (hg : Grew da w w') (hx : Nxt da A' w.heap.size) :
    T5r w' B o l m ps base last pa pc z sz ct e A' c' ys where
  blk := by rw [hg.block B h.B_lt fun X hX e => by have := own_lo h.od X hX; omega]; exact h.blk
  op := own_grew h.op hg fun X hX Y hY e => h.dp Y hY X hX e.symm
  od := hown
  dp := fun X hX Y hY e => by
    rcases hx X hX with ⟨Z, hZ, he⟩ | he
    · exact h.dp Z hZ Y hY (by omega)
    · have := (own_lt h.op Y hY).2; omega

end

/-- the bits left of the reader in block B -/
def zAt (w : World) (B : Nat) : Nat := match w.cell? ⟨B, 6, none⟩ with | some (.string z) => z.size | _ => 0

theorem T5r.zat {w : World} {B : Nat} {o l m : Int} {ps : List Pr} {base last : Int} {pa : Option Addr} {pc : Nat} {z : ByteArray} {sz ct e : Int} {da : Option Addr} {dc : Nat} {D : List UInt8} (h : T5r w B o l m ps base last pa pc z sz ct e da dc D) : zAt w B = z.size := by
  unfold zAt
  rw [cell_of h.blk]
  rfl

/-- the state of the loop -/
def LrS (o l m : Int) (b sz ct : Nat) (bits : List UInt8) (R : Rg) (w0 : World) (da : Option Addr) (dn dc : Nat) (wr : World) : Prop :=
  ∃ (ps : List Pr) (last : Int) (pa : Option Addr) (pc : Nat) (C : List Int) (D : List UInt8) (z : ByteArray) (p : Nat) (e : Int), dn = D.length ∧ T5r wr w0.heap.size o l m ps (b : Int) last pa pc z ((sz : Int) + D.length) ((ct : Int) + C.length) e da dc D ∧
    wr.heap[w0.heap.size + 1]? = some (.cells #[.int .i64 0, .int .i64 0, .int .i64 0, .slice none 0 0, .int .i64 0, .int .i64 0, .string ⟨#[]⟩, .int .i64 0, .int .i64 0, .int .i64 0] 69 (0, 0)) ∧
    KV o l m ps (b : Int) last ∧ z.data.toList = bits.drop p ∧ p ≤ bits.length ∧ sz + D.length ≤ 2000 ∧ ct + C.length ≤ 3100 ∧ Below w0.heap.size w0 wr ∧
    ((e = 1 ∧ ct + C.length < 3100 ∧ ∃ f, bits.length - p < f ∧ rdc o l m b sz ct bits f ps last p C D = R) ∨ (e ≠ 1 ∧ R = ⟨ps, last, C, D, e, p⟩))

/-- what l3Read leaves -/
def RetLr (w : World) (o l m base : Int) (sz ct : Nat) (bits : List UInt8) (R : Rg) (E : Ending) (w' : World) : Prop :=
  ∃ pa pc, E = .returned (.tuple #[.agg #[.int .i64 o, .int .i64 l, .int .i64 m, .slice pa R.ps.length pc, .int .i64 base, .int .i64 R.last, .string (if R.e = 1 then bstr (bits.drop R.p) else ⟨#[]⟩), .int .i64 ((sz : Int) + R.D.length), .int .i64 ((ct : Int) + R.C.length), .int .i64 R.e], .string (bstr R.D), .int .i64 (if R.e = 1 then 0 else (bits.length : Int) - R.p)]) ∧
    Own encP 127 w' pa pc R.ps w.heap.size ∧ ∃ x, w' = plus w x

set_option maxRecDepth 100000 in
set_option maxHeartbeats 8000000 in
theorem l3Read_any (o l m : Int) (a : Option Addr) (cap : Nat) (ps : List Pr) (b : Nat) (last : Int) (s u : ByteArray) (sz ct : Nat) (w : World) (hr : RdP w a cap ps) (hk : kvb o l m ps (b : Int) last = true) (hs : s.size ≤ 100) (hu : u.size ≤ 40000) (hbv : BV (s ++ u).data.toList) (hsz : sz ≤ 2000) (hct : ct < 3100) (R : Rg)
    (hR : rdc o l m b sz ct (s ++ u).data.toList ((s ++ u).size + 1) ps last 0 [] [] = R) :
    Calls Try.prog 99 #[.agg #[.int .i64 o, .int .i64 l, .int .i64 m, .slice a ps.length cap, .int .i64 b, .int .i64 last, .string s, .int .i64 sz, .int .i64 ct, .int .i64 1], .string u] w (RetLr w o l m b sz ct (s ++ u).data.toList R) := by
  have hlen := kv_len hk
  obtain ⟨z0, hz0⟩ : ∃ z, s ++ u = z := ⟨_, rfl⟩
  have hz0s : z0.size ≤ 40100 := by rw [← hz0, ByteArray.size_append]; omega
  rw [hz0] at hbv hR ⊢
  obtain ⟨bits, hbits⟩ : ∃ x, z0.data.toList = x := ⟨_, rfl⟩
  have hbl : bits.length = z0.size := by rw [← hbits, bytes_len]
  rw [hbits] at hbv hR ⊢
  have HV := Lib.hid (kvb_iff.1 hk)
  have HRP := Lib.hid hr
  have HRR := Lib.hid hR
  have HBV := Lib.hid hbv
  have HZB := Lib.hid hbits
  have HBL := Lib.hid hbl
  obtain ⟨j0, hj, jz0, jz1, jz2⟩ := info_parts infoByte
  have mixed : Try.prog.follows .mixedOrders = true := by kernel_rfl
  clear hr hR hbv hbits hbl hk
  go_enter Try.func99, Try.ntmps99
  go_wp2_with (go_at_call 98; refine (l3Copy_any _ _ _ _ _ ps _ _ _ (by repeat (first | exact HRP.out | apply rd_seq | apply Rd.plus | apply Rd.alloc | apply Rd.drew | apply Rd.drewN | refine rd_patch ?_ _ _ (by intro A hA; first | (cases hA; show _ ≠ _; omega) | (have := hal A hA; omega)))) (by omega)).mono ?_; rintro e w' ⟨pa, pc, rfl, hown, x1, rfl⟩; (try simp only [plus_plus] at hown); have HO := Lib.hid hown; clear hown)
  go_loopw [7, 8] (fun d q wr => ∃ (da : Option Addr) (dn dc : Nat), d = .slice da dn dc ∧ LrS o l m b sz ct bits R w da dn dc wr) (fun _ _ wr => zAt wr w.heap.size)
  case atStart =>
    refine ⟨_, 0, 0, rfl, ps, last, pa, pc, [], [], z0, 0, 1, rfl, ⟨?_, ?_, ?_, ?_⟩, ?_, HV.out, by rw [HZB.out]; rfl, by omega, by simpa using hsz, by simp; omega, (by repeat (first | exact Below.refl _ _ | refine below_plus ?_ (by first | omega | (simp <;> omega)) _ | refine Below.alloc ?_ (by first | omega | (simp <;> omega)) _ | refine below_patch ?_ (by omega) _ | refine Below.drew ?_)), .inl ⟨rfl, by simpa using hct, z0.size + 1, by rw [HBL.out]; omega, HRR.out⟩⟩
    · simp only [List.length_nil, Int.natCast_zero, Int.add_zero]
      exact blk_plus (blk_alloc (blk_alloc (push_new _ _ _ rfl) _) _) _
    · exact (own_swap HO.out (by simp) (by simp)).lower (by simp)
    · exact (Own.newAt (by simp) (by omega) rfl (fun j u hj => by simp [flat] at hj) (by simp) (by omega)).plus _
    · intro X hX Y hY e
      cases hX
      have := (own_lt HO.out Y hY).1
      simp at this e
      omega
    · exact blk_plus (blk_alloc (push_new _ _ _ (by simp)) _) _
  case round =>
    obtain ⟨da, dn, dc, rfl, ps', last', pa', pc', C, D, z, p, e, rfl, ht5, hres, hkv, hz, hpl, hdl, hcl, hbl2, hmode⟩ := hrel
    have HT := Lib.hid ht5
    have HK := Lib.hid hkv
    have HRS := Lib.hid hres
    have HBLW := Lib.hid hbl2
    have HZ := Lib.hid hz
    have HZA := Lib.hid ht5.zat
    have hlim := hkv.lim
    have hlen' := kv_len (kvb_iff.2 hkv)
    have HLM := Lib.hid hlim
    obtain ⟨wd1, wd2⟩ := wd_ten hlim
    have hB := ht5.B_lt
    have hB2 := (Array.getElem?_eq_some_iff.1 hres).1
    have rk := cell_of ht5.blk
    have fk := free_of ht5.blk
    have sk := fun i v => setCell_patch ht5.blk i v
    have rr := cell_of hres
    have fr := free_of hres
    have ur := fun i v => setCell_patch hres i v
    have hzl : z.size = bits.length - p := by rw [← bytes_len, hz, List.length_drop]
    have hzb : z.size ≤ 40100 := by have := HBL.out; omega
    have HZL := Lib.hid hzl
    clear ht5 hkv hres hbl2 hz hlim hzl
    rcases hmode with ⟨rfl, hcl2, f, hf, hrd⟩ | ⟨he, hRe⟩
    · obtain ⟨n, hn⟩ : ∃ n : Nat, wd l m ps'.length last' = n := ⟨(wd l m ps'.length last').toNat, by omega⟩
      rcases dec (n ≤ z.size) with ⟨hlt, v1⟩ | ⟨hlt, v1⟩
      · have v2 : decide (wd l m ps'.length last' ≤ (z.size : Int)) = true := by rw [hn]; simp; omega
        obtain ⟨f, rfl⟩ : ∃ f', f = f' + 1 := ⟨f - 1, by have := HZL.out; omega⟩
        obtain ⟨qs, la, C2, wrd, e2, hTk, hkv2, hd2, hc2, hw2, hm2⟩ := take_step (o := o) (sz := sz) (ct := ct) HK.out HZ.out HBV.out (by have := HBL.out; omega) hpl hn hlt hdl hcl2 hrd
        have HTK := Lib.hid hTk
        have HM2 := Lib.hid hm2
        have HK2 := Lib.hid hkv2
        have HD2 := Lib.hid hd2
        have D5 := Lib.hid (bytes_bstr wrd)
        have z5 : (bstr wrd).size = wrd.length := bstr_size _
        obtain ⟨zq, hzq⟩ : ∃ zq, z.extract n z.size = zq := ⟨_, rfl⟩
        rw [hzq] at hTk
        have HTK := Lib.hid hTk
        have hzqs : zq.size = z.size - n := by rw [← hzq]; simp
        have HZQ := Lib.hid (show zq.data.toList = bits.drop (p + n) by rw [← hzq, ext_drop, HZ.out, List.drop_drop])
        have hn1 : 1 ≤ n := by omega
        clear hTk hm2 hkv2 hd2 hrd hzq
        go_wp2_with fail
        (refine wp_region_calm (by kernel_rfl) (by kernel_rfl) ?_
         repeat (first | go_big_quiet_skip | (go_big_quiet_want; go_big_quiet_op; first | go_big_quiet_on | (apply Exists.intro; refine ⟨fun _ => ?_, ?_⟩; (focus ((first | (go_at_call 77; first | refine calm_of (l2Width_any _ _ _ _ _ _ _ _ _ HLM.out (by omega)) | refine calm_seq (l2Width_any _ _ _ _ _ _ _ _ _ HLM.out (by omega)))))); go_big_quiet_on)))
         refine wpQuiet_nil ?_
         intro _ hw'
         obtain ⟨xq, hw''⟩ := hw'
         subst hw'')
        go_wp2_with fail
        refine (HTK.out _ _ _ (by repeat (first | exact HT.out.op.rd | apply rd_seq | apply Rd.plus | apply Rd.alloc | apply Rd.drew | apply Rd.drewN | refine rd_patch ?_ _ _ (by intro A hA; first | (cases hA; show _ ≠ _; omega) | (have := hal A hA; omega))))).mono ?_
        rintro e w' ⟨A8, c8, rfl, hown8, x8, rfl⟩
        try simp only [plus_plus] at hown8
        have HT8 := Lib.hid (T5r.put (la := la) (z' := zq) (sz' := (sz : Int) + ((D.length : Int) + wrd.length)) (ct' := (ct : Int) + C2.length) (e' := e2) HT.out (by omega) (hown8.imp id fun h => h.lower (by simp)))
        have HRS8 := Lib.hid HRS.out
        clear hown8
        have hlo9 := fun X hX => own_lo HT.out.od X hX
        go_wp2_with (at_builtin; refine wpList_append_str _ _ _ _ _ j0 rfl rfl Try.underlying90 Try.underlying9 hj jz0 jz1 jz2 D da dc (w.heap.size + 2) (T5r.od HT8.out) rfl _ rfl (by omega) (by simp <;> omega) ?_; intro A9 c9 w9 hw9 hg9 hx9; rw [D5.out] at hw9 ⊢; have HT9 := Lib.hid (T5r.grew HT8.out hw9 hg9 hx9); have HRS9 := Lib.hid (blk_grew hg9 (blk_plus (blk_patch HRS.out (by omega)) _) (fun X hX e => by have := hlo9 X hX; omega)); have hbl9 := hg9.below (B := w.heap.size) (by simp <;> omega) (fun X hX => by have := hlo9 X hX; omega); have HB9 := Lib.hid ((below_patch (b := w.heap.size) HBLW.out (Nat.le_refl _) _).trans (Below.trans (b := _) (by repeat (first | exact Below.refl _ _ | refine below_plus ?_ (by first | omega | (simp <;> omega)) _ | refine Below.alloc ?_ (by first | omega | (simp <;> omega)) _ | refine below_patch ?_ (by omega) _ | refine Below.drew ?_)) hbl9)); clear hw9 hg9 hx9 hbl9 hlo9)
        go_roundw
        case rel =>
          refine ⟨A9, _, c9, rfl, qs, la, A8, c8, C2, D ++ wrd, zq, p + n, e2, by simp, ?_, HRS9.out, HK2.out, HZQ.out, by have := HZL.out; omega, HD2.out, hc2, HB9.out, ?_⟩
          · rw [show ((D ++ wrd).length : Int) = (D.length : Int) + wrd.length by simp]
            exact HT9.out
          · rcases HM2.out with ⟨h1, h2, h3⟩ | h1
            · exact .inl ⟨h1, h2, f, by have := HZL.out; omega, h3⟩
            · exact .inr h1
        case measure => rw [HT9.out.zat, HZA.out]; omega
      · have v2 : decide (wd l m ps'.length last' ≤ (z.size : Int)) = false := by rw [hn]; simp; omega
        have HR1 := Lib.hid (show R = ⟨ps', last', C, D, 1, p⟩ by rw [← hrd]; exact rdc_short (n := n) (by omega) (by have := HZL.out; omega))
        have HZZ := Lib.hid (show bstr (bits.drop p) = z by rw [← HZ.out, bstr_bytes])
        clear hrd
        go_wp2_with fail
        (refine wp_region_calm (by kernel_rfl) (by kernel_rfl) ?_
         repeat (first | go_big_quiet_skip | (go_big_quiet_want; go_big_quiet_op; first | go_big_quiet_on | (apply Exists.intro; refine ⟨fun _ => ?_, ?_⟩; (focus ((first | (go_at_call 77; first | refine calm_of (l2Width_any _ _ _ _ _ _ _ _ _ HLM.out (by omega)) | refine calm_seq (l2Width_any _ _ _ _ _ _ _ _ _ HLM.out (by omega)))))); go_big_quiet_on)))
         refine wpQuiet_nil ?_
         intro _ hw'
         obtain ⟨xq, hw''⟩ := hw'
         subst hw'')
        have hq1 := fun y => run_str_own (P := Try.prog) (W := plus wr y) Try.underlying90 Try.underlying5 Try.underlying9 (HT.out.od.plus y)
        have hq3 := fun ob y => run_str_own (P := Try.prog) (W := plus (patch wr (w.heap.size + 1) ob) y) Try.underlying90 Try.underlying5 Try.underlying9 ((own_patch (ob := ob) (b := w.heap.size + 1) HT.out.od (fun X hX e => by have := own_lo HT.out.od X hX; omega)).plus y)
        go_wp2_with fail
        go_region_o
        go_wp2
        refine bodyPost_ret (v := .tuple #[.agg #[.int .i64 o, .int .i64 l, .int .i64 m, .slice pa' ps'.length pc', .int .i64 b, .int .i64 last', .string z, .int .i64 ((sz : Int) + D.length), .int .i64 ((ct : Int) + C.length), .int .i64 1], .string (bstr D), .int .i64 0]) (by simp [results, Try.results99, go_sem, ↓IntWalk.iteOmega]) rfl ?_
        rw [HR1.out]
        exact ⟨pa', pc', by simp [HZZ.out], ((own_patch HT.out.op (fun X hX e => by have := own_lo HT.out.op X hX; omega)).plus _).lower (by omega), below_more (below_plus (below_patch HBLW.out (by omega) _) (by simp; omega) _)⟩
    · have v3 : (e == 1) = false := by simp [he]
      have v4 : (e != 1) = true := by simp [he]
      have HHE := Lib.hid he
      have HR1 := Lib.hid hRe
      have HT7 := Lib.hid (T5r.put (y := ⟨#[], wr.drawn⟩) (la := last') (z' := ⟨#[]⟩) (sz' := (sz : Int) + D.length) (ct' := (ct : Int) + C.length) (e' := e) HT.out (by omega) (.inl ⟨rfl, rfl, rfl⟩))
      clear he hRe
      go_wp2_with fail
      (refine wp_region_calm (by kernel_rfl) (by kernel_rfl) ?_
       repeat (first | go_big_quiet_skip | (go_big_quiet_want; go_big_quiet_op; first | go_big_quiet_on | (apply Exists.intro; refine ⟨fun _ => ?_, ?_⟩; (focus ((first | (go_at_call 77; first | refine calm_of (l2Width_any _ _ _ _ _ _ _ _ _ HLM.out (by omega)) | refine calm_seq (l2Width_any _ _ _ _ _ _ _ _ _ HLM.out (by omega)))))); go_big_quiet_on)))
       refine wpQuiet_nil ?_
       intro _ hw'
       obtain ⟨xq, hw''⟩ := hw'
       subst hw'')
      have hod := fun (ob : Obj) => own_patch (ob := ob) (b := w.heap.size) HT.out.od (fun X hX e => by have := own_lo HT.out.od X hX; omega)
      have hq1 := fun ob y => run_str_own (P := Try.prog) (W := plus (patch wr w.heap.size ob) y) Try.underlying90 Try.underlying5 Try.underlying9 ((hod ob).plus y)
      have hq3 := fun ob ob2 y => run_str_own (P := Try.prog) (W := plus (patch (patch wr (w.heap.size + 1) ob2) w.heap.size ob) y) Try.underlying90 Try.underlying5 Try.underlying9 ((own_patch (ob := ob) (b := w.heap.size) (own_patch (ob := ob2) (b := w.heap.size + 1) HT.out.od (fun X hX e => by have := own_lo HT.out.od X hX; omega)) (fun X hX e => by have := own_lo HT.out.od X hX; omega)).plus y)
      clear hod
      have q9 : ¬ w.heap.size + 1 = w.heap.size := by omega
      go_wp2_with fail
      go_region_o
      go_wp2
      refine bodyPost_ret (v := .tuple #[.agg #[.int .i64 o, .int .i64 l, .int .i64 m, .slice pa' ps'.length pc', .int .i64 b, .int .i64 last', .string ⟨#[]⟩, .int .i64 ((sz : Int) + D.length), .int .i64 ((ct : Int) + C.length), .int .i64 e], .string (bstr D), .int .i64 z.size]) (by simp [results, Try.results99, go_sem, ↓IntWalk.iteOmega]) rfl ?_
      rw [HR1.out]
      refine ⟨pa', pc', ?_, ?_, ?_⟩
      · have h8 : (z.size : Int) = (bits.length : Int) - p := by have := HZL.out; omega
        rw [h8]
        simp [HHE.out]
      · exact ((own_patch (own_patch HT.out.op (fun X hX e => by have := own_lo HT.out.op X hX; omega)) (fun X hX e => by have := own_lo HT.out.op X hX; omega)).plus _).lower (by omega)
      · exact below_more (below_plus (below_patch (below_patch HBLW.out (by omega) _) (Nat.le_refl _) _) (by simp; omega) _)

end Go.Proofs.Ytmenpflcmpihpaa
