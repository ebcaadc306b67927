/- The coder of a writer: coderOf. -/
import Derived.Test.YtmenpflcmpihpaaCwr
import Derived.Test.YtmenpflcmpihpaaPck
namespace Go.Proofs.Ytmenpflcmpihpaa
open Go.RowKit
set_option linter.unusedVariables false
set_option linter.unusedSimpArgs false

theorem grew_seq1 {A : Option Addr} {w : World} {x y : Ext} : Grew A (plus w x) (plus w (x.seq y)) := by rw [← plus_plus]; exact grew_plus (grew_refl _ _) _

theorem grew_seq0 {A : Option Addr} {w : World} {x y : Ext} : Grew A (plus (plus w x) y) (plus w (x.seq y)) := by rw [← plus_plus]; exact grew_refl _ _

theorem cb_new {w1 w5 wf : World} {t kb lo lo1 ab cap n : Nat} {o l m : Int} {ps : List Pr} {base last : Int} {bs : List UInt8} (htb : TB encB 5 [] w1 t lo1 o l m ps base last none 0 []) (hlo1 : lo ≤ lo1) (hg : Grew none w1 wf) (hab : ab < lo1 ∨ w1.heap.size ≤ ab)
    (hblk : wf.heap[kb]? = some (.cells #[.pointer (some ⟨t, 0, none⟩), .slice (some ⟨ab, 0, none⟩) n cap] 115 (0, 0))) (hn : n = bs.length) (hkb : w1.heap.size ≤ kb) (hom5 : OwM 5 w5 (some ⟨ab, 0, none⟩) cap bs lo) (hg5 : Grew none w5 wf) (hne : ab ≠ kb) (hlokb : lo ≤ kb) :
    CB wf t kb lo o l m ps base last bs := by
  subst hn
  obtain ⟨hlt, htl⟩ := htb.span
  have hom : OwM 5 wf (some ⟨ab, 0, none⟩) cap bs lo := hom5.of_block fun A hA hlt => hg5.block _ hlt fun X hX => by cases hX
  have hkl := (Array.getElem?_eq_some_iff.1 hblk).1
  have hal := (ownm_lt hom _ rfl).2
  refine ⟨some ⟨ab, 0, none⟩, cap, hblk, hlokb, hkl, hom, (fun Z hZ => by cases hZ; exact hne), ?_⟩
  have hzz := hg.size
  have hN : ∀ X : Addr, (none : Option Addr) = some X → X.block ∈ ([] : List Nat) := fun X hX => by cases hX
  rcases hab with hab | hab
  · have h2 := (htb.shun (B := ab) (av' := []) (by omega) hab).lower hlo1
    refine h2.move (A := none) hg (fun X hX => by cases hX) fun k hk => ?_
    simp only [avs, List.mem_cons, List.not_mem_nil, or_false] at hk
    rcases hk with rfl | rfl
    · exact ⟨hkl, .inr hkb⟩
    · exact ⟨hal, .inl (List.mem_cons_self ..)⟩
  · refine (htb.lower hlo1).move (A := none) hg (fun X hX => by cases hX) fun k hk => ?_
    simp [avs] at hk
    rcases hk with rfl | rfl
    · exact ⟨hkl, .inr hkb⟩
    · exact ⟨hal, .inr hab⟩

theorem ownm_seq {e : TypeId} {w : World} {a : Option Addr} {cap : Nat} {xs : List UInt8} {lo : Nat} {x y : Ext} (h : OwM e (plus w x) a cap xs lo) : OwM e (plus w (x.seq y)) a cap xs lo := by rw [← plus_plus]; exact h.plus y

/-- what coderOf returns -/
def RetCb (w : World) (o l m : Int) (ps : List Pr) (base last : Int) (bs : List UInt8) (e : Ending) (w' : World) : Prop :=
  ∃ t kb, e = .returned (.pointer (some ⟨kb, 0, none⟩)) ∧ CB w' t kb w.heap.size o l m ps base last bs ∧ Below w.heap.size w w'

set_option maxRecDepth 100000 in
set_option maxHeartbeats 4000000 in
theorem coderOf_yes (o l m : Int) (a : Option Addr) (cap : Nat) (ps : List Pr) (base last : Int) (sp sq : ByteArray) (w : World) (hr : RdP w a cap ps) (hkv : KV o l m ps base last) (hsq : sq.size ≤ 1000) :
    Calls Try.prog 93 #[.agg #[.int .i64 o, .int .i64 l, .int .i64 m, .slice a ps.length cap, .int .i64 base, .int .i64 last, .string sp, .string sq, .bool true]] w (RetCb w o l m ps base last sq.data.toList) := by
  have hlen := kv_len (kvb_iff.2 hkv)
  have hs := hkv.s
  have hok := hkv.ok
  have HRP := Lib.hid hr
  have hmx : sq.size ≤ maxLen := by unfold maxLen; omega
  clear hr hkv
  go_enter Try.func93, Try.ntmps93
  go_wp2_with fail
  refine wp_region_pt 8 (fun w' => ∃ y, w' = plus _ y) (Plan.quiet 0 (Plan.quiet 1 (Plan.quiet 3 (Plan.quiet 4 (Plan.two 2 (Plan.one 5 (Plan.quiet 6 (Plan.one 7 (Plan.one 8 Plan.done)))) 5 (Plan.one 2 (Plan.quiet 6 (Plan.one 7 (Plan.one 8 Plan.done))))))))) (by kernel_rfl) (by kernel_rfl) (⟨_, drew_is_plus _⟩) ?_
  refine wpPt_val rfl rfl ?_
  apply Exists.intro
  refine ⟨fun w' hS => ?_, ?_⟩
  focus (obtain ⟨y3, rfl⟩ := hS; simp [go_sem, ↓IntWalk.iteOmega] <;> first | done | exact rfl | (rw [IntWalk.i64_in _ (by omega)]; exact rfl) | trace_state)
  refine wpPt_val rfl rfl ?_
  apply Exists.intro
  refine ⟨fun w' hS => ?_, ?_⟩
  focus (obtain ⟨y3, rfl⟩ := hS; simp [go_sem, ↓IntWalk.iteOmega] <;> first | done | exact rfl | (rw [IntWalk.i64_in _ (by omega)]; exact rfl) | trace_state)
  refine wpPt_val rfl rfl ?_
  apply Exists.intro
  refine ⟨fun w' hS => ?_, ?_⟩
  focus (obtain ⟨y3, rfl⟩ := hS; simp [go_sem, ↓IntWalk.iteOmega] <;> first | done | exact rfl | (rw [IntWalk.i64_in _ (by omega)]; exact rfl) | trace_state)
  refine wpPt_val rfl rfl ?_
  apply Exists.intro
  refine ⟨fun w' hS => ?_, ?_⟩
  focus (obtain ⟨y3, rfl⟩ := hS; simp [go_sem, ↓IntWalk.iteOmega] <;> first | done | exact rfl | (rw [IntWalk.i64_in _ (by omega)]; exact rfl) | trace_state)
  refine wpPt_two rfl rfl rfl rfl (fun K hK => ?_) (fun K hK => ?_)
  go_simp
  refine (tb_new encB 5 o l m a cap ps base last _ (by repeat (first | exact HRP.out | apply rd_seq | apply Rd.plus | apply Rd.alloc | apply Rd.drew | apply Rd.drewN | refine rd_patch ?_ _ _ (by intro A hA; first | (cases hA; show _ ≠ _; omega) | (have := hal A hA; omega)))) hs hok hlen).mono ?_
  rintro e w' ⟨t, rfl, ht0, htb, x2, rfl⟩
  (try simp only [drew_plus] at htb)
  have HTB := Lib.hid htb
  simp at ht0
  clear htb
  refine hK _ _ (fun hkn => (by repeat (first | exact More.refl _ | (with_reducible apply more_seq) | (with_reducible apply more_draw) | apply More.plus | apply More.alloc | apply More.drew))) ?_
  clear hK K
  refine wpPt_one rfl rfl (fun K hK => ?_)
  refine oper_conv_m _ _ _ rfl Try.underlying9 Try.underlying90 Try.underlying5 sq rfl hmx w.heap.size (by simp <;> omega) ?_
  intro cap5 x5 hom5 hn5
  refine hK _ _ (fun hkn => (by repeat (first | exact More.refl _ | (with_reducible apply more_seq) | (with_reducible apply more_draw) | apply More.plus | apply More.alloc | apply More.drew))) ?_
  clear hK K
  refine wpPt_val rfl rfl ?_
  apply Exists.intro
  refine ⟨fun w' hS => ?_, ?_⟩
  focus (obtain ⟨y3, rfl⟩ := hS; simp [go_sem, ↓IntWalk.iteOmega] <;> first | done | exact rfl | (rw [IntWalk.i64_in _ (by omega)]; exact rfl) | trace_state)
  refine wpPt_one rfl rfl (fun K hK => ?_)
  go_simp
  refine hK _ _ (fun hkn => (by repeat (first | exact More.refl _ | (with_reducible apply more_seq) | (with_reducible apply more_draw) | apply More.plus | apply More.alloc | apply More.drew))) ?_
  clear hK K
  refine wpPt_one rfl rfl (fun K hK => ?_)
  go_simp
  refine hK _ _ (fun hkn => absurd hkn (by decide)) ?_
  clear hK K
  refine NoPanic.normal ?_
  rotate_left
  refine oper_conv_m _ _ _ rfl Try.underlying9 Try.underlying90 Try.underlying5 sq rfl hmx w.heap.size (by simp <;> omega) ?_
  intro cap5 x5 hom5 hn5
  refine hK _ _ (fun hkn => (by repeat (first | exact More.refl _ | (with_reducible apply more_seq) | (with_reducible apply more_draw) | apply More.plus | apply More.alloc | apply More.drew))) ?_
  clear hK K
  refine wpPt_one rfl rfl (fun K hK => ?_)
  go_simp
  refine (tb_new encB 5 o l m a cap ps base last _ (by repeat (first | exact HRP.out | apply rd_seq | apply Rd.plus | apply Rd.alloc | apply Rd.drew | apply Rd.drewN | refine rd_patch ?_ _ _ (by intro A hA; first | (cases hA; show _ ≠ _; omega) | (have := hal A hA; omega)))) hs hok hlen).mono ?_
  rintro e w' ⟨t, rfl, ht0, htb, x2, rfl⟩
  (try simp only [drew_plus] at htb)
  have HTB := Lib.hid htb
  simp at ht0
  clear htb
  refine hK _ _ (fun hkn => (by repeat (first | exact More.refl _ | (with_reducible apply more_seq) | (with_reducible apply more_draw) | apply More.plus | apply More.alloc | apply More.drew))) ?_
  clear hK K
  refine wpPt_val rfl rfl ?_
  apply Exists.intro
  refine ⟨fun w' hS => ?_, ?_⟩
  focus (obtain ⟨y3, rfl⟩ := hS; simp [go_sem, ↓IntWalk.iteOmega] <;> first | done | exact rfl | (rw [IntWalk.i64_in _ (by omega)]; exact rfl) | trace_state)
  refine wpPt_one rfl rfl (fun K hK => ?_)
  go_simp
  refine hK _ _ (fun hkn => (by repeat (first | exact More.refl _ | (with_reducible apply more_seq) | (with_reducible apply more_draw) | apply More.plus | apply More.alloc | apply More.drew))) ?_
  clear hK K
  refine wpPt_one rfl rfl (fun K hK => ?_)
  go_simp
  refine hK _ _ (fun hkn => absurd hkn (by decide)) ?_
  clear hK K
  refine NoPanic.normal ?_
  all_goals
    simp at hom5
    have HOM := Lib.hid hom5
    clear hom5
    (try rw [show w.heap.size + 1 + (1 + x2.n) = w.heap.size + 2 + x2.n by omega])
    (try rw [show w.heap.size + 1 + (x2.n + 1) = w.heap.size + 2 + x2.n by omega])
    go_wp2_with fail
    exact bodyPost_ret (v := .pointer (some ⟨w.heap.size + 2 + x2.n, 0, none⟩)) (by simp [results, Try.results93, go_sem] <;> omega) rfl ⟨t, w.heap.size + 2 + x2.n, rfl, cb_new (n := sq.size) HTB.out (by (try simp only [plus_size, seq_sz, drw_sz, World.size_alloc]); (try simp only [hn5]); (try simp) <;> omega) (by repeat (first | (with_reducible exact grew_refl _ _) | (with_reducible exact grew_seq1) | (with_reducible exact grew_seq0) | (with_reducible apply grew_plus) | (with_reducible apply grew_alloc) | (with_reducible apply grew_drew))) (by (try simp only [plus_size, seq_sz, drw_sz, World.size_alloc]); (try simp only [hn5]); (try simp) <;> omega) (by repeat (first | (with_reducible exact push_new _ _ _ (by (try simp only [plus_size, seq_sz, drw_sz, World.size_alloc]); (try simp only [hn5]); (try simp) <;> omega)) | (with_reducible apply blk_plus) | (with_reducible apply blk_alloc) | (with_reducible apply blk_drew))) (by simp) (by (try simp only [plus_size, seq_sz, drw_sz, World.size_alloc]); (try simp only [hn5]); (try simp) <;> omega) HOM.out (by repeat (first | (with_reducible exact grew_refl _ _) | (with_reducible exact grew_seq1) | (with_reducible exact grew_seq0) | (with_reducible apply grew_plus) | (with_reducible apply grew_alloc) | (with_reducible apply grew_drew))) (by omega) (by omega), (by repeat (first | exact Below.refl _ _ | refine below_plus ?_ (by first | omega | (simp <;> omega)) _ | refine Below.alloc ?_ (by first | omega | (simp <;> omega)) _ | refine below_patch ?_ (by omega) _ | refine Below.drew ?_))⟩

set_option maxRecDepth 100000 in
set_option maxHeartbeats 4000000 in
theorem coderOf_no (o l m : Int) (a : Option Addr) (cap : Nat) (ps : List Pr) (b : Nat) (last : Int) (sp sq : ByteArray) (w : World) (hr : RdP w a cap ps) (hkv : KV o l m ps (b : Int) last) (hsq : sq.size ≤ 1000) (n : Nat) (hn : wd l m ps.length last = n) :
    Calls Try.prog 93 #[.agg #[.int .i64 o, .int .i64 l, .int .i64 m, .slice a ps.length cap, .int .i64 b, .int .i64 last, .string sp, .string sq, .bool false]] w (RetCb w o l m (ps.take b) b (-1) (sq.data.toList ++ bitsL o (two l) n)) := by
  have hlen := kv_len (kvb_iff.2 hkv)
  have hs := hkv.s
  have hok := hkv.ok
  have hlim := hkv.lim
  have hb : b ≤ ps.length := by have := hkv.b1; omega
  obtain ⟨ho, l1, l2, _, _⟩ := sv_iff.1 hs
  obtain ⟨t1, t2⟩ := two_lit l1 l2
  have hn10 : n ≤ 10 := by have := wd_ten hlim; omega
  have HRP := Lib.hid hr
  have hmx : sq.size ≤ maxLen := by unfold maxLen; omega
  have hbl : sq.data.toList.length ≤ 1000 := by rw [bytes_len]; exact hsq
  have HLM := Lib.hid hlim
  have HN := Lib.hid hn
  clear hr hkv hlim hn
  obtain ⟨base, hbase⟩ : ∃ z : Int, (b : Int) = z := ⟨_, rfl⟩
  have HBS := Lib.hid hbase
  rw [hbase]
  clear hbase
  go_enter Try.func93, Try.ntmps93
  go_wp2_with fail
  refine wp_region_pt 8 (fun w' => ∃ y, w' = plus _ y) (Plan.quiet 0 (Plan.quiet 1 (Plan.quiet 3 (Plan.quiet 4 (Plan.two 2 (Plan.one 5 (Plan.quiet 6 (Plan.one 7 (Plan.one 8 Plan.done)))) 5 (Plan.one 2 (Plan.quiet 6 (Plan.one 7 (Plan.one 8 Plan.done))))))))) (by kernel_rfl) (by kernel_rfl) (⟨_, drew_is_plus _⟩) ?_
  refine wpPt_val rfl rfl ?_
  apply Exists.intro
  refine ⟨fun w' hS => ?_, ?_⟩
  focus (obtain ⟨y3, rfl⟩ := hS; simp [go_sem, ↓IntWalk.iteOmega] <;> first | done | exact rfl | (rw [IntWalk.i64_in _ (by omega)]; exact rfl) | trace_state)
  refine wpPt_val rfl rfl ?_
  apply Exists.intro
  refine ⟨fun w' hS => ?_, ?_⟩
  focus (obtain ⟨y3, rfl⟩ := hS; simp [go_sem, ↓IntWalk.iteOmega] <;> first | done | exact rfl | (rw [IntWalk.i64_in _ (by omega)]; exact rfl) | trace_state)
  refine wpPt_val rfl rfl ?_
  apply Exists.intro
  refine ⟨fun w' hS => ?_, ?_⟩
  focus (obtain ⟨y3, rfl⟩ := hS; simp [go_sem, ↓IntWalk.iteOmega] <;> first | done | exact rfl | (rw [IntWalk.i64_in _ (by omega)]; exact rfl) | trace_state)
  refine wpPt_val rfl rfl ?_
  apply Exists.intro
  refine ⟨fun w' hS => ?_, ?_⟩
  focus (obtain ⟨y3, rfl⟩ := hS; simp [go_sem, ↓IntWalk.iteOmega] <;> first | done | exact rfl | (rw [IntWalk.i64_in _ (by omega)]; exact rfl) | trace_state)
  refine wpPt_two rfl rfl rfl rfl (fun K hK => ?_) (fun K hK => ?_)
  go_simp
  refine (tb_new encB 5 o l m a cap ps base last _ (by repeat (first | exact HRP.out | apply rd_seq | apply Rd.plus | apply Rd.alloc | apply Rd.drew | apply Rd.drewN | refine rd_patch ?_ _ _ (by intro A hA; first | (cases hA; show _ ≠ _; omega) | (have := hal A hA; omega)))) hs hok hlen).mono ?_
  rintro e w' ⟨t, rfl, ht0, htb, x2, rfl⟩
  (try simp only [drew_plus] at htb)
  have HTB := Lib.hid htb
  simp at ht0
  clear htb
  refine hK _ _ (fun hkn => (by repeat (first | exact More.refl _ | (with_reducible apply more_seq) | (with_reducible apply more_draw) | apply More.plus | apply More.alloc | apply More.drew))) ?_
  clear hK K
  refine wpPt_one rfl rfl (fun K hK => ?_)
  refine oper_conv_m _ _ _ rfl Try.underlying9 Try.underlying90 Try.underlying5 sq rfl hmx w.heap.size (by simp <;> omega) ?_
  intro cap5 x5 hom5 hn5
  refine hK _ _ (fun hkn => (by repeat (first | exact More.refl _ | (with_reducible apply more_seq) | (with_reducible apply more_draw) | apply More.plus | apply More.alloc | apply More.drew))) ?_
  clear hK K
  refine wpPt_val rfl rfl ?_
  apply Exists.intro
  refine ⟨fun w' hS => ?_, ?_⟩
  focus (obtain ⟨y3, rfl⟩ := hS; simp [go_sem, ↓IntWalk.iteOmega] <;> first | done | exact rfl | (rw [IntWalk.i64_in _ (by omega)]; exact rfl) | trace_state)
  refine wpPt_one rfl rfl (fun K hK => ?_)
  go_simp
  refine hK _ _ (fun hkn => (by repeat (first | exact More.refl _ | (with_reducible apply more_seq) | (with_reducible apply more_draw) | apply More.plus | apply More.alloc | apply More.drew))) ?_
  clear hK K
  refine wpPt_one rfl rfl (fun K hK => ?_)
  go_simp
  refine hK _ _ (fun hkn => absurd hkn (by decide)) ?_
  clear hK K
  refine NoPanic.normal ?_
  rotate_left
  refine oper_conv_m _ _ _ rfl Try.underlying9 Try.underlying90 Try.underlying5 sq rfl hmx w.heap.size (by simp <;> omega) ?_
  intro cap5 x5 hom5 hn5
  refine hK _ _ (fun hkn => (by repeat (first | exact More.refl _ | (with_reducible apply more_seq) | (with_reducible apply more_draw) | apply More.plus | apply More.alloc | apply More.drew))) ?_
  clear hK K
  refine wpPt_one rfl rfl (fun K hK => ?_)
  go_simp
  refine (tb_new encB 5 o l m a cap ps base last _ (by repeat (first | exact HRP.out | apply rd_seq | apply Rd.plus | apply Rd.alloc | apply Rd.drew | apply Rd.drewN | refine rd_patch ?_ _ _ (by intro A hA; first | (cases hA; show _ ≠ _; omega) | (have := hal A hA; omega)))) hs hok hlen).mono ?_
  rintro e w' ⟨t, rfl, ht0, htb, x2, rfl⟩
  (try simp only [drew_plus] at htb)
  have HTB := Lib.hid htb
  simp at ht0
  clear htb
  refine hK _ _ (fun hkn => (by repeat (first | exact More.refl _ | (with_reducible apply more_seq) | (with_reducible apply more_draw) | apply More.plus | apply More.alloc | apply More.drew))) ?_
  clear hK K
  refine wpPt_val rfl rfl ?_
  apply Exists.intro
  refine ⟨fun w' hS => ?_, ?_⟩
  focus (obtain ⟨y3, rfl⟩ := hS; simp [go_sem, ↓IntWalk.iteOmega] <;> first | done | exact rfl | (rw [IntWalk.i64_in _ (by omega)]; exact rfl) | trace_state)
  refine wpPt_one rfl rfl (fun K hK => ?_)
  go_simp
  refine hK _ _ (fun hkn => (by repeat (first | exact More.refl _ | (with_reducible apply more_seq) | (with_reducible apply more_draw) | apply More.plus | apply More.alloc | apply More.drew))) ?_
  clear hK K
  refine wpPt_one rfl rfl (fun K hK => ?_)
  go_simp
  refine hK _ _ (fun hkn => absurd hkn (by decide)) ?_
  clear hK K
  refine NoPanic.normal ?_
  all_goals
    simp at hom5
    have HOM := Lib.hid hom5
    clear hom5
    (try rw [show w.heap.size + 1 + (1 + x2.n) = w.heap.size + 2 + x2.n by omega])
    (try rw [show w.heap.size + 1 + (x2.n + 1) = w.heap.size + 2 + x2.n by omega])
    go_wp2_with (go_at_call 118; refine (ClearCode_yes _ _ _ hs _).mono ?_; rintro e w' ⟨rfl, x8, rfl⟩)
    refine (write_code (lo := w.heap.size) (bs := sq.data.toList) _ (cb_new (n := sq.size) HTB.out (by (try simp only [plus_size, seq_sz, drw_sz, World.size_alloc]); (try simp only [hn5]); (try simp) <;> omega) (by repeat (first | (with_reducible exact grew_refl _ _) | (with_reducible exact grew_seq1) | (with_reducible exact grew_seq0) | (with_reducible apply grew_plus) | (with_reducible apply grew_alloc) | (with_reducible apply grew_drew))) (by (try simp only [plus_size, seq_sz, drw_sz, World.size_alloc]); (try simp only [hn5]); (try simp) <;> omega) (by repeat (first | (with_reducible exact push_new _ _ _ (by (try simp only [plus_size, seq_sz, drw_sz, World.size_alloc]); (try simp only [hn5]); (try simp) <;> omega)) | (with_reducible apply blk_plus) | (with_reducible apply blk_alloc) | (with_reducible apply blk_drew))) (by simp) (by (try simp only [plus_size, seq_sz, drw_sz, World.size_alloc]); (try simp only [hn5]); (try simp) <;> omega) HOM.out (by repeat (first | (with_reducible exact grew_refl _ _) | (with_reducible exact grew_seq1) | (with_reducible exact grew_seq0) | (with_reducible apply grew_plus) | (with_reducible apply grew_alloc) | (with_reducible apply grew_drew))) (by omega) (by omega)) HLM.out hbl n HN.out hn10 (two l) (by omega) (by omega) (by omega) (fun W av h => by have h9 := HBS.out; subst h9; exact tb_clear h hb)).mono ?_
    rintro e w7 ⟨rfl, hcb7, hbl7, hsz7⟩
    have H7 := Lib.hid hcb7
    have HB7 := Lib.hid (Below.trans (a := w) (B := w.heap.size) (b := _) (by repeat (first | exact Below.refl _ _ | refine below_plus ?_ (by first | omega | (simp <;> omega)) _ | refine Below.alloc ?_ (by first | omega | (simp <;> omega)) _ | refine below_patch ?_ (by omega) _ | refine Below.drew ?_)) hbl7)
    simp at hsz7
    clear hcb7 hbl7
    go_wp2_with fail
    have h9 := H7.out
    exact bodyPost_ret (v := .pointer (some ⟨w.heap.size + 2 + x2.n, 0, none⟩)) (by simp [results, Try.results93, go_sem]) rfl ⟨t, w.heap.size + 2 + x2.n, rfl, h9, HB7.out⟩

end Go.Proofs.Ytmenpflcmpihpaa
