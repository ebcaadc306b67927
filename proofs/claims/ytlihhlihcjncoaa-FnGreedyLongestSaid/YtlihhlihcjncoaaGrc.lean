/- The walks of GreedyCodes, of the program and of the reference. -/
import Derived.Test.YtlihhlihcjncoaaSgr
import Derived.Test.YtlihhlihcjncoaaWri
import Derived.Test.YtlihhlihcjncoaaLkn
namespace Go.Proofs.Ytlihhlihcjncoaa
open Go.RowKit
set_option linter.unusedVariables false
set_option linter.unusedSimpArgs false

theorem Clip_any (A : Addr) (n c : Nat) (w : World) (hn : n ≤ c) (hc : c ≤ 9223372036854775807) : Calls Try.prog 89 #[.slice (some A) n c] w (Ret w (.slice (some A) n n)) := by
  go_enter Try.func89, Try.ntmps89
  go_wp2
  go_ret
  exact Ret.mk (by repeat (first | exact More.refl _ | apply More.plus | apply More.alloc | apply More.drew | apply More.drewN))

set_option maxRecDepth 100000 in
theorem implGreedyCodes_no (o l m : Int) (a : Option Addr) (cap : Nat) (ps : List Pr) (base last : Int) (s : ByteArray) (w : World) (hr : RdP w a cap ps) (hs2 : s.size ≤ maxLen) (h : kvb o l m ps base last = false ∨ dfB o l m s = false) :
    Calls Try.prog 42 #[.agg #[.int .i64 o, .int .i64 l, .int .i64 m, .slice a ps.length cap, .int .i64 base, .int .i64 last], .string s] w (RetI w (fun a0 c0 => .tuple #[.slice a0 ([] : List Int).length c0, .bool false]) []) := by
  cases hk : kvb o l m ps base last
  · clear h
    go_enter Try.func42, Try.ntmps42
    go_wp2_with (go_at_call 17; refine (KnownValid_any _ _ _ _ _ _ _ _ _ (by repeat (first | exact hr | apply rd_seq | apply Rd.plus | apply Rd.alloc | apply Rd.drew | apply Rd.drewN | refine rd_patch ?_ _ _ (by intro A hA; first | (cases hA; show _ ≠ _; omega) | (have := hal A hA; omega))))).mono ?_; rintro e w' ⟨rfl, xc, rfl⟩)
    exact bodyPost_ret (v := .tuple #[.slice none 0 0, .bool false]) (by simp [results, Try.results42, go_sem]) rfl ⟨none, 0, rfl, .inl ⟨rfl, rfl, rfl⟩, (by repeat (first | exact More.refl _ | apply More.plus | apply More.alloc | apply More.drew | apply More.drewN))⟩
  · have hd : dfB o l m s = false := by
      rcases h with h | h
      · rw [hk] at h; cases h
      · exact h
    clear h
    go_enter Try.func42, Try.ntmps42
    go_wp2_with (first | (go_at_call 17; refine (KnownValid_any _ _ _ _ _ _ _ _ _ (by repeat (first | exact hr | apply rd_seq | apply Rd.plus | apply Rd.alloc | apply Rd.drew | apply Rd.drewN | refine rd_patch ?_ _ _ (by intro A hA; first | (cases hA; show _ ≠ _; omega) | (have := hal A hA; omega))))).mono ?_; rintro e w' ⟨rfl, xc, rfl⟩) | (go_at_call 18; refine (DataFits_any _ _ _ _ _ hs2).mono ?_; rintro e w' ⟨rfl, xc, rfl⟩))
    exact bodyPost_ret (v := .tuple #[.slice none 0 0, .bool false]) (by simp [results, Try.results42, go_sem]) rfl ⟨none, 0, rfl, .inl ⟨rfl, rfl, rfl⟩, (by repeat (first | exact More.refl _ | apply More.plus | apply More.alloc | apply More.drew | apply More.drewN))⟩

theorem wrt_empty {e : TypeId} {w : World} {b lo : Nat} (hb : b = w.heap.size) (hlo : lo ≤ b) : Wrt encI e (w.alloc (.cells #[] e)) (some ⟨b, 0, none⟩) 0 [] lo :=
  .inr ⟨b, #[], rfl, hlo, by subst hb; rw [push_at, if_neg (by omega), if_pos rfl], by simp, fun j u hj => by simp [flat] at hj, Nat.le_refl _, by omega⟩

set_option maxRecDepth 100000 in
theorem specGreedyCodes_no (o l m : Int) (a : Option Addr) (cap : Nat) (ps : List Pr) (base last : Int) (s : ByteArray) (w : World) (hr : RdP w a cap ps) (hs2 : s.size ≤ maxLen) (h : kvb o l m ps base last = false ∨ dfB o l m s = false) :
    Calls Try.prog 46 #[.agg #[.int .i64 o, .int .i64 l, .int .i64 m, .slice a ps.length cap, .int .i64 base, .int .i64 last], .string s] w (RetI w (fun a0 c0 => .tuple #[.slice a0 ([] : List Int).length c0, .bool false]) []) := by
  cases hk : kvb o l m ps base last
  · clear h
    go_enter Try.func46, Try.ntmps46
    go_wp2_with (go_at_call 72; refine (specKnownValid_any _ _ _ _ _ _ _ _ _ (by repeat (first | exact hr | apply rd_seq | apply Rd.plus | apply Rd.alloc | apply Rd.drew | apply Rd.drewN | refine rd_patch ?_ _ _ (by intro A hA; first | (cases hA; show _ ≠ _; omega) | (have := hal A hA; omega))))).mono ?_; rintro e w' ⟨rfl, xc, rfl⟩)
    exact bodyPost_ret (v := .tuple #[.slice (some ⟨_, 0, none⟩) 0 0, .bool false]) (by simp [results, Try.results46, go_sem]) rfl ⟨_, 0, rfl, wrt_empty rfl (by first | omega | (simp <;> omega)), (by repeat (first | exact More.refl _ | apply More.plus | apply More.alloc | apply More.drew | apply More.drewN))⟩
  · have hd : dfB o l m s = false := by
      rcases h with h | h
      · rw [hk] at h; cases h
      · exact h
    clear h
    go_enter Try.func46, Try.ntmps46
    go_wp2_with (first | (go_at_call 72; refine (specKnownValid_any _ _ _ _ _ _ _ _ _ (by repeat (first | exact hr | apply rd_seq | apply Rd.plus | apply Rd.alloc | apply Rd.drew | apply Rd.drewN | refine rd_patch ?_ _ _ (by intro A hA; first | (cases hA; show _ ≠ _; omega) | (have := hal A hA; omega))))).mono ?_; rintro e w' ⟨rfl, xc, rfl⟩) | (go_at_call 73; refine (specDataFits_any _ _ _ _ _ hs2).mono ?_; rintro e w' ⟨rfl, xc, rfl⟩))
    exact bodyPost_ret (v := .tuple #[.slice (some ⟨_, 0, none⟩) 0 0, .bool false]) (by simp [results, Try.results46, go_sem]) rfl ⟨_, 0, rfl, wrt_empty rfl (by first | omega | (simp <;> omega)), (by repeat (first | exact More.refl _ | apply More.plus | apply More.alloc | apply More.drew | apply More.drewN))⟩

theorem greL_pos (l m : Int) (b : Nat) (ps : List Pr) (d : List UInt8) : 0 < (greL l m b ps d).length := by unfold greL; simp

theorem greL_len {o l m base last : Int} {b : Nat} {ps : List Pr} {s : ByteArray} (hkv : KV o l m ps base last) (hb : base = b) (hd : dfB o l m s = true) : (greL l m b ps s.data.toList).length ≤ 5000 := by
  subst hb
  have h := gre_len (o := o) (b := b) s.data.toList.length (ps.take b) (-1) s.data.toList ⟨by simpa using hkv.cleared, by rw [bstr_bytes]; exact hd⟩
  unfold dfB at hd
  simp only [Bool.and_eq_true, decide_eq_true_eq] at hd
  have := hd.2.1
  rw [bytes_len] at h
  unfold greL
  simp
  omega

set_option maxRecDepth 100000 in
set_option maxHeartbeats 800000 in
theorem implGreedyCodes_yes (o l m : Int) (a : Option Addr) (cap : Nat) (ps : List Pr) (base last : Int) (s : ByteArray) (w : World) (hr : RdP w a cap ps) (hs2 : s.size ≤ maxLen) (hk : kvb o l m ps base last = true) (hd : dfB o l m s = true) (b : Nat) (hb : base = b) (G : List Int) (hG : greL l m b ps s.data.toList = G) :
    Calls Try.prog 42 #[.agg #[.int .i64 o, .int .i64 l, .int .i64 m, .slice a ps.length cap, .int .i64 base, .int .i64 last], .string s] w (RetI w (fun a0 c0 => .tuple #[.slice a0 G.length c0, .bool true]) G) := by
  subst hb
  have hkv := kvb_iff.1 hk
  have hpos : 0 < G.length := by rw [← hG]; exact greL_pos _ _ _ _ _
  have HV := Lib.hid hkv
  have HR := Lib.hid hG
  clear hkv hG
  go_enter Try.func42, Try.ntmps42
  go_wp2_with (first | (go_at_call 17; refine (KnownValid_any _ _ _ _ _ _ _ _ _ (by repeat (first | exact hr | apply rd_seq | apply Rd.plus | apply Rd.alloc | apply Rd.drew | apply Rd.drewN | refine rd_patch ?_ _ _ (by intro A hA; first | (cases hA; show _ ≠ _; omega) | (have := hal A hA; omega))))).mono ?_; rintro e w' ⟨rfl, xc, rfl⟩) | (go_at_call 18; refine (DataFits_any _ _ _ _ _ hs2).mono ?_; rintro e w' ⟨rfl, xc, rfl⟩) | fail)
  refine (igreedy_any _ _ _ _ _ ps _ _ s _ (by repeat (first | exact hr | apply rd_seq | apply Rd.plus | apply Rd.alloc | apply Rd.drew | apply Rd.drewN | refine rd_patch ?_ _ _ (by intro A hA; first | (cases hA; show _ ≠ _; omega) | (have := hal A hA; omega)))) HV.out hd b rfl G HR.out).mono ?_
  rintro e w' ⟨pa, pc, rfl, hown, x2, rfl⟩
  try simp only [plus_plus] at hown
  obtain ⟨bk, cur, rfl, q1, q2, q3, q4, q5, q6, q7⟩ := own_some hown hpos
  have HO := Lib.hid (hown.wrt.clip (.inl (by simp)))
  clear hown q3 q4 q5
  go_wp2_with (go_at_call 89; refine (Clip_any _ _ _ _ q6 q7).mono ?_; rintro e w' ⟨rfl, xc, rfl⟩)
  exact bodyPost_ret (v := .tuple #[.slice (some ⟨bk, 0, none⟩) G.length G.length, .bool true]) (by simp [results, Try.results42, go_sem, ↓IntWalk.iteOmega]) rfl ⟨some ⟨bk, 0, none⟩, G.length, rfl, Wrt.lower (by repeat (first | (with_reducible exact HO.out) | (with_reducible apply wrt_seq) | (with_reducible apply wrt_draw) | (with_reducible apply Wrt.plus) | (with_reducible apply Wrt.alloc) | (with_reducible apply Wrt.drew))) (by simp <;> omega), (by repeat (first | exact More.refl _ | apply More.plus | apply More.alloc | apply More.drew | apply More.drewN))⟩

set_option maxRecDepth 100000 in
set_option maxHeartbeats 800000 in
theorem specGreedyCodes_yes (o l m : Int) (a : Option Addr) (cap : Nat) (ps : List Pr) (base last : Int) (s : ByteArray) (w : World) (hr : RdP w a cap ps) (hs2 : s.size ≤ maxLen) (hk : kvb o l m ps base last = true) (hd : dfB o l m s = true) (b : Nat) (hb : base = b) (G : List Int) (hG : greL l m b ps s.data.toList = G) :
    Calls Try.prog 46 #[.agg #[.int .i64 o, .int .i64 l, .int .i64 m, .slice a ps.length cap, .int .i64 base, .int .i64 last], .string s] w (RetI w (fun a0 c0 => .tuple #[.slice a0 G.length c0, .bool true]) G) := by
  subst hb
  have hkv := kvb_iff.1 hk
  have HV := Lib.hid hkv
  have HR := Lib.hid hG
  clear hkv hG
  go_enter Try.func46, Try.ntmps46
  go_wp2_with (first | (go_at_call 72; refine (specKnownValid_any _ _ _ _ _ _ _ _ _ (by repeat (first | exact hr | apply rd_seq | apply Rd.plus | apply Rd.alloc | apply Rd.drew | apply Rd.drewN | refine rd_patch ?_ _ _ (by intro A hA; first | (cases hA; show _ ≠ _; omega) | (have := hal A hA; omega))))).mono ?_; rintro e w' ⟨rfl, xc, rfl⟩) | (go_at_call 73; refine (specDataFits_any _ _ _ _ _ hs2).mono ?_; rintro e w' ⟨rfl, xc, rfl⟩) | fail)
  refine (sgreedy_any _ _ _ _ _ ps _ _ s _ (by repeat (first | exact hr | apply rd_seq | apply Rd.plus | apply Rd.alloc | apply Rd.drew | apply Rd.drewN | refine rd_patch ?_ _ _ (by intro A hA; first | (cases hA; show _ ≠ _; omega) | (have := hal A hA; omega)))) HV.out hd b rfl G HR.out).mono ?_
  rintro e w' ⟨pa, pc, rfl, hown, x2, rfl⟩
  try simp only [plus_plus] at hown
  have HO := Lib.hid hown.wrt
  clear hown
  go_wp2_with fail
  exact bodyPost_ret (v := .tuple #[.slice pa G.length pc, .bool true]) (by simp [results, Try.results46, go_sem, ↓IntWalk.iteOmega]) rfl ⟨pa, pc, rfl, Wrt.lower (by repeat (first | (with_reducible exact HO.out) | (with_reducible apply wrt_seq) | (with_reducible apply wrt_draw) | (with_reducible apply Wrt.plus) | (with_reducible apply Wrt.alloc) | (with_reducible apply Wrt.drew))) (by simp <;> omega), (by repeat (first | exact More.refl _ | apply More.plus | apply More.alloc | apply More.drew | apply More.drewN))⟩

end Go.Proofs.Ytlihhlihcjncoaa
