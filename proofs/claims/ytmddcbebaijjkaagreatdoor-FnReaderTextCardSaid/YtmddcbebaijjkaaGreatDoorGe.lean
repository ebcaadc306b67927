/- Lemmas and walks, part Ge. -/
import Derived.Test.YtmddcbebaijjkaaGreatDoorGc
import Derived.Test.YtmddcbebaijjkaaGreatDoorGd
import Derived.Test.YtmddcbebaijjkaaGreatDoorGa

/- The walks of spec.l2Any, l2Find and CodeOfWord. -/
namespace Go.Proofs.YtmddcbebaijjkaaGreatDoor
open Go.RowKit
set_option linter.unusedVariables false
set_option linter.unusedSimpArgs false

/-- the string of bytes -/
def bstr (x : List UInt8) : ByteArray := ⟨x.toArray⟩

theorem bstr_bytes (s : ByteArray) : bstr s.data.toList = s := by cases s; simp [bstr]

theorem bytes_bstr (x : List UInt8) : (bstr x).data.toList = x := by simp [bstr]

theorem bstr_size (x : List UInt8) : (bstr x).size = x.length := by show (List.toArray x).size = _; simp

theorem lkw_W (l : Int) (ps : List Pr) (c : Int) : lkw l (wordsL l ps) c = bstr (W l ps c) := (bstr_bytes _).symm

theorem bstr_app (x y : List UInt8) : bstr x ++ bstr y = bstr (x ++ y) := ByteArray.ext (by simp [bstr])

theorem bstr_pre (x : List UInt8) (n : Nat) : (bstr x).extract 0 n = bstr (x.take n) := ByteArray.ext (by simp [bstr])

theorem W_len {l : Int} {ps : List Pr} {c : Int} (h : hw l ps.length c = true) : (W l ps c).length ≤ ps.length + 2 := wb_len h

set_option maxHeartbeats 1000000 in
theorem l2Any_any (o l m : Int) (a : Option Addr) (cap : Nat) (ps : List Pr) (base last : Int) (c : Int) (w : World) (hr : RdP w a cap ps) (hkv : KV o l m ps base last) (hc : Okc l m ps.length last c) :
    Calls Tryz.prog 135 #[.agg #[.int .i64 o, .int .i64 l, .int .i64 m, .slice a ps.length cap, .int .i64 base, .int .i64 last], .int .i64 c] w (Ret w (.string (bstr (anyW l ps last c)))) := by
  have hlen := kv_len (kvb_iff.2 hkv)
  have hs := hkv.s
  by_cases hcn : c = nw l ps.length
  · have hl : hw l ps.length last = true := by
      rcases hc with h | ⟨hg, _⟩
      · have := hw_iff.1 h
        unfold nw at hcn; omega
      · rcases hkv.last with ⟨rfl, _⟩ | h
        · exact absurd rfl (grB_iff.1 hg).1
        · exact h
    have hW := Lib.hid (W_len hl)
    have hw1 := W_pos hkv.ok hl
    have hw2 := hW.out
    have z1 : (bstr (W l ps last)).size ≤ 3000 := by rw [bstr_size]; omega
    have z2 : 1 ≤ (bstr (W l ps last)).size := by rw [bstr_size]; omega
    have v1 : (c == nw l ps.length) = true := by simp [hcn]
    have HV := Lib.hid hkv
    have HA := Lib.hid (any_nw (l := l) (ps := ps) (last := last))
    rw [← hcn] at HA
    clear hc hkv hcn
    go_enter Tryz.func135, Tryz.ntmps135
    go_wp2_with (first | (go_at_call 127; refine (l2Next_any _ _ _ _ _ _ _ _ _ hs (by omega)).mono ?_; rintro e w' ⟨rfl, xc, rfl⟩) | (go_at_call 153; refine (l2Word_any (hr := (by repeat (first | exact hr | apply rd_seq | apply Rd.plus | apply Rd.alloc | apply Rd.drew | apply Rd.drewN | refine rd_patch ?_ _ _ (by intro A hA; first | (cases hA; show _ ≠ _; omega) | (have := hal A hA; omega))))) (hkv := HV.out) (hc0 := hl)).mono ?_; rintro e w' ⟨rfl, x, rfl⟩; rw [lkw_W]))
    go_ret
    exact ret_of (by rw [HA.out, ← bstr_app, bstr_pre]; rfl) (by repeat (first | exact More.refl _ | apply More.plus | apply More.alloc | apply More.drew | apply More.drewN))
  · have hl : hw l ps.length c = true := by
      rcases hc with h | ⟨_, h⟩
      · exact h
      · exact absurd h hcn
    have v1 : (c == nw l ps.length) = false := by simp [hcn]
    have HV := Lib.hid hkv
    have HA := Lib.hid (any_hw (last := last) hl)
    clear hc hkv hcn
    go_enter Tryz.func135, Tryz.ntmps135
    go_wp2_with (first | (go_at_call 127; refine (l2Next_any _ _ _ _ _ _ _ _ _ hs (by omega)).mono ?_; rintro e w' ⟨rfl, xc, rfl⟩) | (go_at_call 153; refine (l2Word_any (hr := (by repeat (first | exact hr | apply rd_seq | apply Rd.plus | apply Rd.alloc | apply Rd.drew | apply Rd.drewN | refine rd_patch ?_ _ _ (by intro A hA; first | (cases hA; show _ ≠ _; omega) | (have := hal A hA; omega))))) (hkv := HV.out) (hc0 := hl)).mono ?_; rintro e w' ⟨rfl, x, rfl⟩; rw [lkw_W]))
    go_ret
    exact ret_of (by rw [HA.out]; rfl) (by repeat (first | exact More.refl _ | apply More.plus | apply More.alloc | apply More.drew | apply More.drewN))

theorem okc_range {l m : Int} {n : Nat} {last c : Int} (h0 : two l + 2 ≤ c) (h1 : c ≤ gt l m n last) : Okc l m n last c := by
  unfold gt at h1
  split at h1
  · rename_i hg
    by_cases h : c = nw l n
    · exact .inr ⟨hg, h⟩
    · exact .inl (hw_iff.2 (by unfold nw at *; omega))
  · exact .inl (hw_iff.2 (by unfold nw at *; omega))

theorem okc_le {l m : Int} {n : Nat} {last c : Int} (h : Okc l m n last c) (h0 : 2 ≤ two l) : c ≤ gt l m n last := by
  unfold gt
  rcases h with h | ⟨hg, rfl⟩
  · have := hw_iff.1 h
    split <;> (unfold nw; omega)
  · rw [if_pos hg]; exact Int.le_refl _

theorem okc_low {l m : Int} {n : Nat} {last c : Int} (h : Okc l m n last c) (h1 : c < two l + 2) : 0 ≤ c ∧ c < two l ∧ hw l n c = true := by
  rcases h with h | ⟨_, rfl⟩
  · have := hw_iff.1 h
    exact ⟨by omega, by omega, h⟩
  · unfold nw at h1; omega

end Go.Proofs.YtmddcbebaijjkaaGreatDoor

/- The walks of spec.l2Longest, CodeOfWord and of DataFits. -/
namespace Go.Proofs.YtmddcbebaijjkaaGreatDoor
open Go.RowKit
set_option linter.unusedVariables false
set_option linter.unusedSimpArgs false

/-- among the codes below k the longest word with which d begins has n bytes -/
def LonTo (l m : Int) (ps : List Pr) (last : Int) (d : List UInt8) (n : Nat) (k : Int) : Prop :=
  1 ≤ n ∧ n ≤ d.length ∧ (∃ c, Okc l m ps.length last c ∧ anyW l ps last c = d.take n) ∧ ∀ c j, Okc l m ps.length last c → c < k → j ≤ d.length → anyW l ps last c = d.take j → j ≤ n

theorem LonTo.start {l m : Int} {ps : List Pr} {last : Int} {d : List UInt8} (h1 : two l ≤ 256) (hd : 0 < d.length) (hlit : ((d[0]).toNat : Int) < two l) : LonTo l m ps last d 1 (two l + 2) := by
  have hw0 : hw l ps.length ((d[0]).toNat : Int) = true := hw_iff.2 (by omega)
  refine ⟨by omega, by omega, ⟨_, .inl hw0, ?_⟩, fun c j hc hk hj he => ?_⟩
  · rw [any_hw hw0, W_lit (by omega), take_one_snoc (size := 0) hd]
    simp
  · obtain ⟨_, _, q⟩ := okc_low hc hk
    rw [any_hw q, W_lit (by omega)] at he
    have := congrArg List.length he
    rw [List.length_take] at this
    simp at this; omega

theorem LonTo.keep {l m : Int} {ps : List Pr} {last : Int} {d : List UInt8} {n : Nat} {k : Int} (h : LonTo l m ps last d n k) (hno : ∀ j, j ≤ d.length → anyW l ps last k = d.take j → j ≤ n) : LonTo l m ps last d n (k + 1) :=
  ⟨h.1, h.2.1, h.2.2.1, fun c j hc hk hj he => by
    by_cases e : c = k
    · subst e; exact hno j hj he
    · exact h.2.2.2 c j hc (by omega) hj he⟩

theorem LonTo.take {l m : Int} {ps : List Pr} {last : Int} {d : List UInt8} {n : Nat} {k : Int} (h : LonTo l m ps last d n k) (hc : Okc l m ps.length last k) {n' : Nat} (hn : n < n') (hn2 : n' ≤ d.length) (he : anyW l ps last k = d.take n') : LonTo l m ps last d n' (k + 1) :=
  ⟨by omega, hn2, ⟨k, hc, he⟩, fun c j hc' hk hj he' => by
    by_cases e : c = k
    · subst e
      rw [he] at he'
      have := congrArg List.length he'
      rw [List.length_take, List.length_take] at this
      omega
    · have := h.2.2.2 c j hc' (by omega) hj he'
      omega⟩

theorem LonTo.done {l m : Int} {ps : List Pr} {last : Int} {d : List UInt8} {n : Nat} {k : Int} (h : LonTo l m ps last d n k) (h0 : 2 ≤ two l) (hk : gt l m ps.length last < k) : IsLon l m ps last d n :=
  ⟨h.1, h.2.1, h.2.2.1, fun c j hc hj he => h.2.2.2 c j hc (by have := okc_le hc h0; omega) hj he⟩

end Go.Proofs.YtmddcbebaijjkaaGreatDoor

/- The walks of DataFits and LongestWord, of the program and of the reference. -/
namespace Go.Proofs.YtmddcbebaijjkaaGreatDoor
open Go.RowKit
set_option linter.unusedVariables false
set_option linter.unusedSimpArgs false

def isLit (l : Int) (x : UInt8) : Bool := decide ((x.toNat : Int) < two l)

/-- all bytes are literals -/
def litB (l : Int) (s : ByteArray) : Bool := s.data.toList.all (isLit l)

/-- data that fits a setting -/
def dfB (o l m : Int) (s : ByteArray) : Bool := sv o l m && (decide ((s.size : Int) ≤ 2000) && litB l s)

theorem dfB_first {o l m : Int} {s : ByteArray} (h : dfB o l m s = true) (hz : 0 < s.size) : (s[0].toNat : Int) < two l := by
  unfold dfB litB at h
  simp only [Bool.and_eq_true, List.all_eq_true] at h
  have := h.2.2 s[0] (by rw [← bytes_get hz]; exact List.getElem_mem _)
  simpa [isLit] using this

end Go.Proofs.YtmddcbebaijjkaaGreatDoor

/- The walks of LongestWord, of the program and of the reference. -/
namespace Go.Proofs.YtmddcbebaijjkaaGreatDoor
open Go.RowKit
set_option linter.unusedVariables false
set_option linter.unusedSimpArgs false

theorem lon_ex {o l m : Int} {ps : List Pr} {base last : Int} {s : ByteArray} (hkv : KV o l m ps base last) (hdf : dfB o l m s = true) (hz : 0 < s.size) : ∃ n, IsLon l m ps last s.data.toList n := by
  obtain ⟨l1, l2, m2, lm, t1, t2, t4, t3⟩ := hkv.lim.bds
  have h0 := LonTo.start (m := m) (ps := ps) (last := last) (d := s.data.toList) t2 (by rw [bytes_len]; exact hz) (by rw [bytes_get hz]; exact dfB_first hdf hz)
  have key : ∀ k : Nat, ∃ n, LonTo l m ps last s.data.toList n (two l + 2 + k) := by
    intro k
    induction k with
    | zero => exact ⟨1, by simpa using h0⟩
    | succ k ih =>
      obtain ⟨n, hn⟩ := ih
      have e : two l + 2 + ((k + 1 : Nat) : Int) = two l + 2 + (k : Int) + 1 := by omega
      rw [e]
      by_cases hc : Okc l m ps.length last (two l + 2 + k)
      · by_cases hex : ∃ j, j ≤ s.data.toList.length ∧ anyW l ps last (two l + 2 + k) = s.data.toList.take j ∧ n < j
        · obtain ⟨j, h1, h2, h3⟩ := hex
          exact ⟨j, hn.take hc h3 h1 h2⟩
        · exact ⟨n, hn.keep fun j h1 h2 => by
            rcases Nat.lt_or_ge n j with h | h
            · exact absurd ⟨j, h1, h2, h⟩ hex
            · exact h⟩
      · exact ⟨n, hn.1, hn.2.1, hn.2.2.1, fun c j h1 h2 h3 h4 => hn.2.2.2 c j h1 (by
          by_cases e : c = two l + 2 + k
          · subst e; exact absurd h1 hc
          · omega) h3 h4⟩
  obtain ⟨n, hn⟩ := key (gt l m ps.length last).toNat
  exact ⟨n, hn.done t1 (by omega)⟩

end Go.Proofs.YtmddcbebaijjkaaGreatDoor

/- Learning a text, in plain Lean: word by word. -/
namespace Go.Proofs.YtmddcbebaijjkaaGreatDoor
open Go.RowKit
set_option linter.unusedVariables false
set_option linter.unusedSimpArgs false

open Classical in
/-- the length of the longest word with which d begins -/
noncomputable def lonN (l m : Int) (ps : List Pr) (last : Int) (d : List UInt8) : Nat := if h : ∃ n, IsLon l m ps last d n then h.choose else 0

open Classical in
/-- the least code of a word -/
noncomputable def fndC (l m : Int) (ps : List Pr) (last : Int) (x : List UInt8) : Int := if h : ∃ c, IsFnd l m ps last x c then h.choose else -1

theorem lonN_eq {l m : Int} {ps : List Pr} {last : Int} {d : List UInt8} {n : Nat} (h : IsLon l m ps last d n) : lonN l m ps last d = n := by
  have hex : ∃ n, IsLon l m ps last d n := ⟨n, h⟩
  unfold lonN
  rw [dif_pos hex]
  exact hex.choose_spec.eq h

theorem fndC_eq {l m : Int} {ps : List Pr} {last : Int} {x : List UInt8} {c : Int} (h : IsFnd l m ps last x c) : fndC l m ps last x = c := by
  have hex : ∃ c, IsFnd l m ps last x c := ⟨c, h⟩
  unfold fndC
  rw [dif_pos hex]
  exact hex.choose_spec.eq h

/-- a code found is one that can follow -/
theorem fnd_ok {l m : Int} {ps : List Pr} {last : Int} {d : List UInt8} {n : Nat} {c : Int} (h : IsLon l m ps last d n) (hc : IsFnd l m ps last (d.take n) c) : Okc l m ps.length last c := by
  rcases hc with ⟨_, h2⟩ | ⟨h2, _⟩
  · obtain ⟨c', h3, h4⟩ := h.2.2.1
    exact absurd h4 (h2 c' h3)
  · exact h2

end Go.Proofs.YtmddcbebaijjkaaGreatDoor

/- The walks of spec.l2Cleared and l2After: what is known behind a code. -/
namespace Go.Proofs.YtmddcbebaijjkaaGreatDoor
open Go.RowKit
set_option linter.unusedVariables false
set_option linter.unusedSimpArgs false

theorem rd_take {α : Type} {E : Enc α} {w : World} {a : Option Addr} {cap : Nat} {xs : List α} (h : Rd E w a cap xs) (k : Nat) : Rd E w a cap (xs.take k) := by
  obtain ⟨h1, h2, h3⟩ := h
  refine ⟨by simp; omega, h2, h3.imp id fun ⟨b, off, e, hb, hc⟩ => ⟨b, off, e, hb, fun j u hj => ?_⟩⟩
  have hpre : flat E xs = flat E (xs.take k) ++ flat E (xs.drop k) := by rw [← flat_append, List.take_append_drop]
  refine hc j u ?_
  rw [hpre, List.getElem?_append_left (List.getElem?_eq_some_iff.1 hj).1]
  exact hj

set_option maxRecDepth 100000 in
set_option maxHeartbeats 2000000 in
theorem l2Cleared_any (o l m : Int) (a : Option Addr) (cap : Nat) (ps : List Pr) (b : Nat) (last : Int) (w : World) (hr : RdP w a cap ps) (hb : b ≤ ps.length) (hn : ps.length ≤ 2000) :
    Calls Tryz.prog 114 #[.agg #[.int .i64 o, .int .i64 l, .int .i64 m, .slice a ps.length cap, .int .i64 b, .int .i64 last]] w (RetK w o l m (ps.take b) (b : Int) (-1)) := by
  obtain ⟨i0, hi, hz0, hz1, hz2⟩ := info_parts infoPair
  have hc1 := hr.1
  have hc2 := hr.2.1
  have hbc : b ≤ cap := by omega
  have hl : (ps.take b).length = b := by simp; omega
  have HR := Lib.hid (rd_take hr b)
  have HL := Lib.hid hl
  clear hr hl
  rcases Nat.eq_zero_or_pos b with h0 | h0
  · subst h0
    go_enter Tryz.func114, Tryz.ntmps114
    go_wp2
    refine wp_region_pt 12 (fun w' => ∃ y, w' = plus _ y) (Plan.quiet 0 (Plan.quiet 1 (Plan.quiet 3 (Plan.quiet 4 (Plan.quiet 5 (Plan.quiet 6 (Plan.quiet 7 (Plan.quiet 9 (Plan.quiet 10 (Plan.one 2 (Plan.one 8 (Plan.quiet 11 (Plan.one 12 Plan.done))))))))))))) (by kernel_rfl) (by kernel_rfl) (⟨_, drew_is_plus _⟩) ?_
    refine wpPt_val rfl rfl ?_
    apply Exists.intro
    refine ⟨fun w' hS => ?_, ?_⟩
    focus (obtain ⟨y2, rfl⟩ := hS; simp [go_sem, ↓IntWalk.iteOmega, hbc] <;> first | done | exact rfl | (rw [IntWalk.i64_in _ (by omega)]; exact rfl) | trace_state)
    refine wpPt_val rfl rfl ?_
    apply Exists.intro
    refine ⟨fun w' hS => ?_, ?_⟩
    focus (obtain ⟨y2, rfl⟩ := hS; simp [go_sem, ↓IntWalk.iteOmega, hbc] <;> first | done | exact rfl | (rw [IntWalk.i64_in _ (by omega)]; exact rfl) | trace_state)
    refine wpPt_val rfl rfl ?_
    apply Exists.intro
    refine ⟨fun w' hS => ?_, ?_⟩
    focus (obtain ⟨y2, rfl⟩ := hS; simp [go_sem, ↓IntWalk.iteOmega, hbc] <;> first | done | exact rfl | (rw [IntWalk.i64_in _ (by omega)]; exact rfl) | trace_state)
    refine wpPt_val rfl rfl ?_
    apply Exists.intro
    refine ⟨fun w' hS => ?_, ?_⟩
    focus (obtain ⟨y2, rfl⟩ := hS; simp [go_sem, ↓IntWalk.iteOmega, hbc] <;> first | done | exact rfl | (rw [IntWalk.i64_in _ (by omega)]; exact rfl) | trace_state)
    refine wpPt_val rfl rfl ?_
    apply Exists.intro
    refine ⟨fun w' hS => ?_, ?_⟩
    focus (obtain ⟨y2, rfl⟩ := hS; simp [go_sem, ↓IntWalk.iteOmega, hbc] <;> first | done | exact rfl | (rw [IntWalk.i64_in _ (by omega)]; exact rfl) | trace_state)
    refine wpPt_val rfl rfl ?_
    apply Exists.intro
    refine ⟨fun w' hS => ?_, ?_⟩
    focus (obtain ⟨y2, rfl⟩ := hS; simp [go_sem, ↓IntWalk.iteOmega, hbc] <;> first | done | exact rfl | (rw [IntWalk.i64_in _ (by omega)]; exact rfl) | trace_state)
    refine wpPt_val rfl rfl ?_
    apply Exists.intro
    refine ⟨fun w' hS => ?_, ?_⟩
    focus (obtain ⟨y2, rfl⟩ := hS; simp [go_sem, ↓IntWalk.iteOmega, hbc] <;> first | done | exact rfl | (rw [IntWalk.i64_in _ (by omega)]; exact rfl) | trace_state)
    refine wpPt_val rfl rfl ?_
    apply Exists.intro
    refine ⟨fun w' hS => ?_, ?_⟩
    focus (obtain ⟨y2, rfl⟩ := hS; simp [go_sem, ↓IntWalk.iteOmega, hbc] <;> first | done | exact rfl | (rw [IntWalk.i64_in _ (by omega)]; exact rfl) | trace_state)
    refine wpPt_val rfl rfl ?_
    apply Exists.intro
    refine ⟨fun w' hS => ?_, ?_⟩
    focus (obtain ⟨y2, rfl⟩ := hS; simp [go_sem, ↓IntWalk.iteOmega, hbc] <;> first | done | exact rfl | (rw [IntWalk.i64_in _ (by omega)]; exact rfl) | trace_state)
    refine wpPt_one rfl rfl (fun K hK => ?_)
    go_simp
    refine hK _ _ (fun hkn => (by repeat (first | exact More.refl _ | (with_reducible apply more_seq) | (with_reducible apply more_draw) | apply More.plus | apply More.alloc | apply More.drew))) ?_
    clear hK K
    refine wpPt_one rfl rfl (fun K hK => ?_)
    refine oper_append_none _ _ _ _ i0 rfl Tryz.underlying24 hi a _ cap rfl rfl ?_
    refine hK _ _ (fun hkn => (by repeat (first | exact More.refl _ | (with_reducible apply more_seq) | (with_reducible apply more_draw) | apply More.plus | apply More.alloc | apply More.drew))) ?_
    clear hK K
    refine wpPt_val rfl rfl ?_
    apply Exists.intro
    refine ⟨fun w' hS => ?_, ?_⟩
    focus (obtain ⟨y2, rfl⟩ := hS; simp [go_sem, ↓IntWalk.iteOmega, hbc] <;> first | done | exact rfl | (rw [IntWalk.i64_in _ (by omega)]; exact rfl) | trace_state)
    refine wpPt_one rfl rfl (fun K hK => ?_)
    go_simp
    refine hK _ _ (fun hkn => absurd hkn (by decide)) ?_
    clear hK K
    refine NoPanic.normal ?_
    go_wp2
    refine bodyPost_ret (v := .agg #[.int .i64 o, .int .i64 l, .int .i64 m, .slice (some ⟨w.heap.size + 1 + 1, 0, none⟩) 0 0, .int .i64 0, .int .i64 (-1)]) (by simp [results, Tryz.results114, go_sem]) rfl ⟨some ⟨w.heap.size + 1 + 1, 0, none⟩, 0, rfl, ?_, (by repeat (first | exact More.refl _ | apply More.plus | apply More.alloc | apply More.drew | apply More.drewN))⟩
    exact Own.drew (Own.newAt (by simp) (by omega) rfl (rowP_of _ _ (fun i p h => by simp at h)) (by simp) (by omega))
  · go_enter Tryz.func114, Tryz.ntmps114
    go_wp2
    refine wp_region_pt 12 (fun w' => ∃ y, w' = plus _ y) (Plan.quiet 0 (Plan.quiet 1 (Plan.quiet 3 (Plan.quiet 4 (Plan.quiet 5 (Plan.quiet 6 (Plan.quiet 7 (Plan.quiet 9 (Plan.quiet 10 (Plan.one 2 (Plan.one 8 (Plan.quiet 11 (Plan.one 12 Plan.done))))))))))))) (by kernel_rfl) (by kernel_rfl) (⟨_, drew_is_plus _⟩) ?_
    refine wpPt_val rfl rfl ?_
    apply Exists.intro
    refine ⟨fun w' hS => ?_, ?_⟩
    focus (obtain ⟨y2, rfl⟩ := hS; simp [go_sem, ↓IntWalk.iteOmega, hbc] <;> first | done | exact rfl | (rw [IntWalk.i64_in _ (by omega)]; exact rfl) | trace_state)
    refine wpPt_val rfl rfl ?_
    apply Exists.intro
    refine ⟨fun w' hS => ?_, ?_⟩
    focus (obtain ⟨y2, rfl⟩ := hS; simp [go_sem, ↓IntWalk.iteOmega, hbc] <;> first | done | exact rfl | (rw [IntWalk.i64_in _ (by omega)]; exact rfl) | trace_state)
    refine wpPt_val rfl rfl ?_
    apply Exists.intro
    refine ⟨fun w' hS => ?_, ?_⟩
    focus (obtain ⟨y2, rfl⟩ := hS; simp [go_sem, ↓IntWalk.iteOmega, hbc] <;> first | done | exact rfl | (rw [IntWalk.i64_in _ (by omega)]; exact rfl) | trace_state)
    refine wpPt_val rfl rfl ?_
    apply Exists.intro
    refine ⟨fun w' hS => ?_, ?_⟩
    focus (obtain ⟨y2, rfl⟩ := hS; simp [go_sem, ↓IntWalk.iteOmega, hbc] <;> first | done | exact rfl | (rw [IntWalk.i64_in _ (by omega)]; exact rfl) | trace_state)
    refine wpPt_val rfl rfl ?_
    apply Exists.intro
    refine ⟨fun w' hS => ?_, ?_⟩
    focus (obtain ⟨y2, rfl⟩ := hS; simp [go_sem, ↓IntWalk.iteOmega, hbc] <;> first | done | exact rfl | (rw [IntWalk.i64_in _ (by omega)]; exact rfl) | trace_state)
    refine wpPt_val rfl rfl ?_
    apply Exists.intro
    refine ⟨fun w' hS => ?_, ?_⟩
    focus (obtain ⟨y2, rfl⟩ := hS; simp [go_sem, ↓IntWalk.iteOmega, hbc] <;> first | done | exact rfl | (rw [IntWalk.i64_in _ (by omega)]; exact rfl) | trace_state)
    refine wpPt_val rfl rfl ?_
    apply Exists.intro
    refine ⟨fun w' hS => ?_, ?_⟩
    focus (obtain ⟨y2, rfl⟩ := hS; simp [go_sem, ↓IntWalk.iteOmega, hbc] <;> first | done | exact rfl | (rw [IntWalk.i64_in _ (by omega)]; exact rfl) | trace_state)
    refine wpPt_val rfl rfl ?_
    apply Exists.intro
    refine ⟨fun w' hS => ?_, ?_⟩
    focus (obtain ⟨y2, rfl⟩ := hS; simp [go_sem, ↓IntWalk.iteOmega, hbc] <;> first | done | exact rfl | (rw [IntWalk.i64_in _ (by omega)]; exact rfl) | trace_state)
    refine wpPt_val rfl rfl ?_
    apply Exists.intro
    refine ⟨fun w' hS => ?_, ?_⟩
    focus (obtain ⟨y2, rfl⟩ := hS; simp [go_sem, ↓IntWalk.iteOmega, hbc] <;> first | done | exact rfl | (rw [IntWalk.i64_in _ (by omega)]; exact rfl) | trace_state)
    refine wpPt_one rfl rfl (fun K hK => ?_)
    go_simp
    refine hK _ _ (fun hkn => (by repeat (first | exact More.refl _ | (with_reducible apply more_seq) | (with_reducible apply more_draw) | apply More.plus | apply More.alloc | apply More.drew))) ?_
    clear hK K
    refine wpPt_one rfl rfl (fun K hK => ?_)
    refine oper_append_new encP _ _ _ _ i0 _ 16 rfl Tryz.underlying24 hi hz0 hz1 hz2 rfl (ps.take b) a cap (by repeat (first | (with_reducible exact HR.out) | (with_reducible apply Rd.plus) | (with_reducible apply Rd.alloc) | (with_reducible apply Rd.drew))) (by rw [HL.out]; exact h0) _ rfl (by rw [HL.out]; rfl) (by rw [HL.out]; omega) (by rw [HL.out]; omega) ?_
    intro c cur hrow hc3 hc4 hsz
    rw [HL.out] at hc3 ⊢
    have HW := Lib.hid hrow
    have HZ := Lib.hid hsz
    clear hrow hsz
    refine hK _ _ (fun hkn => (by repeat (first | exact More.refl _ | (with_reducible apply more_seq) | (with_reducible apply more_draw) | apply More.plus | apply More.alloc | apply More.drew))) ?_
    clear hK K
    refine wpPt_val rfl rfl ?_
    apply Exists.intro
    refine ⟨fun w' hS => ?_, ?_⟩
    focus (obtain ⟨y2, rfl⟩ := hS; simp [go_sem, ↓IntWalk.iteOmega, hbc] <;> first | done | exact rfl | (rw [IntWalk.i64_in _ (by omega)]; exact rfl) | trace_state)
    refine wpPt_one rfl rfl (fun K hK => ?_)
    go_simp
    refine hK _ _ (fun hkn => absurd hkn (by decide)) ?_
    clear hK K
    refine NoPanic.normal ?_
    go_wp2
    refine bodyPost_ret (v := .agg #[.int .i64 o, .int .i64 l, .int .i64 m, .slice (some ⟨w.heap.size + 1 + 1 + 1, 0, none⟩) b c, .int .i64 b, .int .i64 (-1)]) (by simp [results, Tryz.results114, go_sem]) rfl ⟨some ⟨w.heap.size + 1 + 1 + 1, 0, none⟩, c, by rw [HL.out], ?_, (by repeat (first | exact More.refl _ | apply More.plus | apply More.alloc | apply More.drew | apply More.drewN))⟩
    exact Own.newAt (by simp) (by omega) HZ.out HW.out (by rw [HL.out]; exact hc3) hc4

end Go.Proofs.YtmddcbebaijjkaaGreatDoor

/- The walk of tree.forget: the pairs behind the base are gone. -/
namespace Go.Proofs.YtmddcbebaijjkaaGreatDoor
open Go.RowKit
set_option linter.unusedVariables false
set_option linter.unusedSimpArgs false

end Go.Proofs.YtmddcbebaijjkaaGreatDoor

/- The walk of tree.follow: what is known behind a code. -/
namespace Go.Proofs.YtmddcbebaijjkaaGreatDoor
open Go.RowKit
set_option linter.unusedVariables false
set_option linter.unusedSimpArgs false

end Go.Proofs.YtmddcbebaijjkaaGreatDoor
