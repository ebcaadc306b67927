/- The walks of ReadStream where nothing is read. -/
import Derived.Test.YtmenpflcmpihpaaRst
namespace Go.Proofs.Ytmenpflcmpihpaa
open Go.RowKit
set_option linter.unusedVariables false
set_option linter.unusedSimpArgs false

set_option maxRecDepth 100000 in
set_option maxHeartbeats 2000000 in
theorem implReadStream_no (o l m : Int) (a : Option Addr) (cap : Nat) (ps : List Pr) (base last : Int) (s u : ByteArray) (z c e : Int) (w : World) (hr : RdP w a cap ps) (hs : s.size ≤ maxLen) (hm : u.size ≤ maxLen) (h : rdb o l m ps base last s z c e = false ∨ 4000 < u.size) :
    Calls Try.prog 52 #[.agg #[.int .i64 o, .int .i64 l, .int .i64 m, .slice a ps.length cap, .int .i64 base, .int .i64 last, .string s, .int .i64 z, .int .i64 c, .int .i64 e], .string u] w (RetO w (fun a0 c0 => .tuple #[.agg #[.int .i64 0, .int .i64 0, .int .i64 0, .slice a0 ([] : List Pr).length c0, .int .i64 0, .int .i64 0, .string ⟨#[]⟩, .int .i64 0, .int .i64 0, .int .i64 0], .string ⟨#[]⟩, .int .i64 0, .bool false]) []) := by
  unfold maxLen at hm
  have HRP := Lib.hid hr
  clear hr
  cases hk : rdb o l m ps base last s z c e
  · go_enter Try.func52, Try.ntmps52
    go_wp2_with (go_at_call 100; refine (ReaderValid_any _ _ _ _ _ ps _ _ s _ _ _ _ (by repeat (first | exact HRP.out | apply rd_seq | apply Rd.plus | apply Rd.alloc | apply Rd.drew | apply Rd.drewN | refine rd_patch ?_ _ _ (by intro A hA; first | (cases hA; show _ ≠ _; omega) | (have := hal A hA; omega)))) hs).mono ?_; rintro E w' ⟨rfl, xc, rfl⟩; rw [hk])
    exact bodyPost_ret (v := .tuple #[.agg #[.int .i64 0, .int .i64 0, .int .i64 0, .slice none 0 0, .int .i64 0, .int .i64 0, .string ⟨#[]⟩, .int .i64 0, .int .i64 0, .int .i64 0], .string ⟨#[]⟩, .int .i64 0, .bool false]) (by simp [results, Try.results52, go_sem, ↓IntWalk.iteOmega]) rfl ⟨none, 0, rfl, .inl ⟨rfl, rfl, rfl⟩, (by repeat (first | exact More.refl _ | apply More.plus | apply More.alloc | apply More.drew | apply More.drewN))⟩
  · have hu : 4000 < u.size := by
      rcases h with h | h
      · rw [hk] at h; cases h
      · exact h
    have v1 : decide (4000 < u.size) = true := decide_eq_true hu
    go_enter Try.func52, Try.ntmps52
    go_wp2_with (go_at_call 100; refine (ReaderValid_any _ _ _ _ _ ps _ _ s _ _ _ _ (by repeat (first | exact HRP.out | apply rd_seq | apply Rd.plus | apply Rd.alloc | apply Rd.drew | apply Rd.drewN | refine rd_patch ?_ _ _ (by intro A hA; first | (cases hA; show _ ≠ _; omega) | (have := hal A hA; omega)))) hs).mono ?_; rintro E w' ⟨rfl, xc, rfl⟩; rw [hk])
    exact bodyPost_ret (v := .tuple #[.agg #[.int .i64 0, .int .i64 0, .int .i64 0, .slice none 0 0, .int .i64 0, .int .i64 0, .string ⟨#[]⟩, .int .i64 0, .int .i64 0, .int .i64 0], .string ⟨#[]⟩, .int .i64 0, .bool false]) (by simp [results, Try.results52, go_sem, ↓IntWalk.iteOmega]) rfl ⟨none, 0, rfl, .inl ⟨rfl, rfl, rfl⟩, (by repeat (first | exact More.refl _ | apply More.plus | apply More.alloc | apply More.drew | apply More.drewN))⟩

set_option maxRecDepth 100000 in
set_option maxHeartbeats 2000000 in
theorem specReadStream_no (o l m : Int) (a : Option Addr) (cap : Nat) (ps : List Pr) (base last : Int) (s u : ByteArray) (z c e : Int) (w : World) (hr : RdP w a cap ps) (hs : s.size ≤ maxLen) (hm : u.size ≤ maxLen) (h : rdb o l m ps base last s z c e = false ∨ 4000 < u.size) :
    Calls Try.prog 50 #[.agg #[.int .i64 o, .int .i64 l, .int .i64 m, .slice a ps.length cap, .int .i64 base, .int .i64 last, .string s, .int .i64 z, .int .i64 c, .int .i64 e], .string u] w (RetO w (fun a0 c0 => .tuple #[.agg #[.int .i64 0, .int .i64 0, .int .i64 0, .slice a0 ([] : List Pr).length c0, .int .i64 0, .int .i64 0, .string ⟨#[]⟩, .int .i64 0, .int .i64 0, .int .i64 0], .string ⟨#[]⟩, .int .i64 0, .bool false]) []) := by
  unfold maxLen at hm
  have HRP := Lib.hid hr
  clear hr
  cases hk : rdb o l m ps base last s z c e
  · go_enter Try.func50, Try.ntmps50
    go_wp2_with (go_at_call 97; refine (specReaderValid_any _ _ _ _ _ ps _ _ s _ _ _ _ (by repeat (first | exact HRP.out | apply rd_seq | apply Rd.plus | apply Rd.alloc | apply Rd.drew | apply Rd.drewN | refine rd_patch ?_ _ _ (by intro A hA; first | (cases hA; show _ ≠ _; omega) | (have := hal A hA; omega)))) hs).mono ?_; rintro E w' ⟨rfl, xc, rfl⟩; rw [hk])
    exact bodyPost_ret (v := .tuple #[.agg #[.int .i64 0, .int .i64 0, .int .i64 0, .slice none 0 0, .int .i64 0, .int .i64 0, .string ⟨#[]⟩, .int .i64 0, .int .i64 0, .int .i64 0], .string ⟨#[]⟩, .int .i64 0, .bool false]) (by simp [results, Try.results50, go_sem, ↓IntWalk.iteOmega]) rfl ⟨none, 0, rfl, .inl ⟨rfl, rfl, rfl⟩, (by repeat (first | exact More.refl _ | apply More.plus | apply More.alloc | apply More.drew | apply More.drewN))⟩
  · have hu : 4000 < u.size := by
      rcases h with h | h
      · rw [hk] at h; cases h
      · exact h
    have v1 : decide (4000 < u.size) = true := decide_eq_true hu
    go_enter Try.func50, Try.ntmps50
    go_wp2_with (go_at_call 97; refine (specReaderValid_any _ _ _ _ _ ps _ _ s _ _ _ _ (by repeat (first | exact HRP.out | apply rd_seq | apply Rd.plus | apply Rd.alloc | apply Rd.drew | apply Rd.drewN | refine rd_patch ?_ _ _ (by intro A hA; first | (cases hA; show _ ≠ _; omega) | (have := hal A hA; omega)))) hs).mono ?_; rintro E w' ⟨rfl, xc, rfl⟩; rw [hk])
    exact bodyPost_ret (v := .tuple #[.agg #[.int .i64 0, .int .i64 0, .int .i64 0, .slice none 0 0, .int .i64 0, .int .i64 0, .string ⟨#[]⟩, .int .i64 0, .int .i64 0, .int .i64 0], .string ⟨#[]⟩, .int .i64 0, .bool false]) (by simp [results, Try.results50, go_sem, ↓IntWalk.iteOmega]) rfl ⟨none, 0, rfl, .inl ⟨rfl, rfl, rfl⟩, (by repeat (first | exact More.refl _ | apply More.plus | apply More.alloc | apply More.drew | apply More.drewN))⟩

set_option maxRecDepth 100000 in
set_option maxHeartbeats 2000000 in
theorem implReadStream_ended (o l m : Int) (a : Option Addr) (cap : Nat) (ps : List Pr) (base last : Int) (s u : ByteArray) (z c e : Int) (w : World) (hr : RdP w a cap ps) (hs : s.size ≤ maxLen) (hu : u.size ≤ 4000) (hk : rdb o l m ps base last s z c e = true) (he : e ≠ 1) (hn : ps.length ≤ 2000000) :
    Calls Try.prog 52 #[.agg #[.int .i64 o, .int .i64 l, .int .i64 m, .slice a ps.length cap, .int .i64 base, .int .i64 last, .string s, .int .i64 z, .int .i64 c, .int .i64 e], .string u] w (RetO w (fun a0 c0 => .tuple #[.agg #[.int .i64 o, .int .i64 l, .int .i64 m, .slice a0 ps.length c0, .int .i64 base, .int .i64 last, .string s, .int .i64 z, .int .i64 c, .int .i64 e], .string ⟨#[]⟩, .int .i64 0, .bool true]) ps) := by
  have HRP := Lib.hid hr
  have v1 : decide (4000 < u.size) = false := by simp; omega
  have v2 : (e != 1) = true := by simp [he]
  clear hr he
  go_enter Try.func52, Try.ntmps52
  go_wp2_with (go_at_call 100; refine (ReaderValid_any _ _ _ _ _ ps _ _ s _ _ _ _ (by repeat (first | exact HRP.out | apply rd_seq | apply Rd.plus | apply Rd.alloc | apply Rd.drew | apply Rd.drewN | refine rd_patch ?_ _ _ (by intro A hA; first | (cases hA; show _ ≠ _; omega) | (have := hal A hA; omega)))) hs).mono ?_; rintro E w' ⟨rfl, xc, rfl⟩; rw [hk])
  refine (copyKnown_any _ _ _ _ _ ps _ _ _ (by repeat (first | exact HRP.out | apply rd_seq | apply Rd.plus | apply Rd.alloc | apply Rd.drew | apply Rd.drewN | refine rd_patch ?_ _ _ (by intro A hA; first | (cases hA; show _ ≠ _; omega) | (have := hal A hA; omega)))) hn).mono ?_
  rintro E w' ⟨qa, qc, rfl, hq, x7, rfl⟩
  (try simp only [plus_plus] at hq)
  have HQ := Lib.hid hq
  clear hq
  go_wp2_with fail
  refine bodyPost_ret (v := .tuple #[.agg #[.int .i64 o, .int .i64 l, .int .i64 m, .slice qa ps.length qc, .int .i64 base, .int .i64 last, .string s, .int .i64 z, .int .i64 c, .int .i64 e], .string ⟨#[]⟩, .int .i64 0, .bool true]) (by simp [results, Try.results52, go_sem, ↓IntWalk.iteOmega]) rfl ?_
  exact ⟨qa, qc, rfl, (by repeat (first | exact (own_swap HQ.out (by simp) (by simp <;> omega)).lower (by simp <;> omega) | (with_reducible apply Own.alloc) | (with_reducible apply Own.drew) | (with_reducible apply own_draw) | (with_reducible apply own_seq))), (by repeat (first | exact More.refl _ | apply More.plus | apply More.alloc | apply More.drew | apply More.drewN))⟩

set_option maxRecDepth 100000 in
set_option maxHeartbeats 2000000 in
theorem specReadStream_ended (o l m : Int) (a : Option Addr) (cap : Nat) (ps : List Pr) (base last : Int) (s u : ByteArray) (z c e : Int) (w : World) (hr : RdP w a cap ps) (hs : s.size ≤ maxLen) (hu : u.size ≤ 4000) (hk : rdb o l m ps base last s z c e = true) (he : e ≠ 1) (hn : ps.length ≤ 2000000) :
    Calls Try.prog 50 #[.agg #[.int .i64 o, .int .i64 l, .int .i64 m, .slice a ps.length cap, .int .i64 base, .int .i64 last, .string s, .int .i64 z, .int .i64 c, .int .i64 e], .string u] w (RetO w (fun a0 c0 => .tuple #[.agg #[.int .i64 o, .int .i64 l, .int .i64 m, .slice a0 ps.length c0, .int .i64 base, .int .i64 last, .string s, .int .i64 z, .int .i64 c, .int .i64 e], .string ⟨#[]⟩, .int .i64 0, .bool true]) ps) := by
  have HRP := Lib.hid hr
  have v1 : decide (4000 < u.size) = false := by simp; omega
  have v2 : (e != 1) = true := by simp [he]
  clear hr he
  go_enter Try.func50, Try.ntmps50
  go_wp2_with (go_at_call 97; refine (specReaderValid_any _ _ _ _ _ ps _ _ s _ _ _ _ (by repeat (first | exact HRP.out | apply rd_seq | apply Rd.plus | apply Rd.alloc | apply Rd.drew | apply Rd.drewN | refine rd_patch ?_ _ _ (by intro A hA; first | (cases hA; show _ ≠ _; omega) | (have := hal A hA; omega)))) hs).mono ?_; rintro E w' ⟨rfl, xc, rfl⟩; rw [hk])
  refine (l3Copy_any _ _ _ _ _ ps _ _ _ (by repeat (first | exact HRP.out | apply rd_seq | apply Rd.plus | apply Rd.alloc | apply Rd.drew | apply Rd.drewN | refine rd_patch ?_ _ _ (by intro A hA; first | (cases hA; show _ ≠ _; omega) | (have := hal A hA; omega)))) hn).mono ?_
  rintro E w' ⟨qa, qc, rfl, hq, x7, rfl⟩
  (try simp only [plus_plus] at hq)
  have HQ := Lib.hid hq
  clear hq
  go_wp2_with fail
  refine bodyPost_ret (v := .tuple #[.agg #[.int .i64 o, .int .i64 l, .int .i64 m, .slice qa ps.length qc, .int .i64 base, .int .i64 last, .string s, .int .i64 z, .int .i64 c, .int .i64 e], .string ⟨#[]⟩, .int .i64 0, .bool true]) (by simp [results, Try.results50, go_sem, ↓IntWalk.iteOmega]) rfl ?_
  exact ⟨qa, qc, rfl, (by repeat (first | exact (own_swap HQ.out (by simp) (by simp <;> omega)).lower (by simp <;> omega) | (with_reducible apply Own.alloc) | (with_reducible apply Own.drew) | (with_reducible apply own_draw) | (with_reducible apply own_seq))), (by repeat (first | exact More.refl _ | apply More.plus | apply More.alloc | apply More.drew | apply More.drewN))⟩

end Go.Proofs.Ytmenpflcmpihpaa
