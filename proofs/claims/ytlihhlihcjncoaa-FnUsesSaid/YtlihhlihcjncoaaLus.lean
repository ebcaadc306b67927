/- The law Uses: plain sums, and the walk. -/
import Derived.Test.YtlihhlihcjncoaaDrm
import Derived.Test.YtlihhlihcjncoaaSog
import Derived.Test.YtlihhlihcjncoaaWus
namespace Go.Proofs.Ytlihhlihcjncoaa
open Go.RowKit
set_option linter.unusedVariables false
set_option linter.unusedSimpArgs false

/-- how many codes are among those of the first b pairs -/
def cntI (e : Int) (b : Nat) : List Int → Int
  | [] => 0
  | c :: cs => (if 0 ≤ c - e - 1 ∧ c - e - 1 < b then 1 else 0) + cntI e b cs

theorem cnt_app (e : Int) (b : Nat) : ∀ xs ys : List Int, cntI e b (xs ++ ys) = cntI e b xs + cntI e b ys
  | [], ys => by simp [cntI]
  | x :: xs, ys => by
    show (if _ then _ else _) + cntI e b (xs ++ ys) = (if _ then _ else _) + cntI e b xs + cntI e b ys
    rw [cnt_app e b xs ys]; omega

theorem cnt_bd (e : Int) (b : Nat) : ∀ xs : List Int, 0 ≤ cntI e b xs ∧ cntI e b xs ≤ xs.length
  | [] => by simp [cntI]
  | x :: xs => by
    have := cnt_bd e b xs
    simp only [cntI, List.length_cons]
    split <;> omega

def sumI : List Int → Int
  | [] => 0
  | x :: xs => x + sumI xs

theorem sum_app : ∀ xs ys : List Int, sumI (xs ++ ys) = sumI xs + sumI ys
  | [], ys => by simp [sumI]
  | x :: xs, ys => by
    show x + sumI (xs ++ ys) = x + sumI xs + sumI ys
    rw [sum_app xs ys]; omega

theorem sum_set : ∀ (us : List Int) (j : Nat) (x v : Int), us[j]? = some x → sumI (us.set j v) = sumI us - x + v
  | [], j, x, v, h => by simp at h
  | u :: us, 0, x, v, h => by
    simp at h
    subst h
    show v + sumI us = u + sumI us - u + v
    omega
  | u :: us, j + 1, x, v, h => by
    simp only [List.getElem?_cons_succ] at h
    show u + sumI (us.set j v) = u + sumI us - x + v
    rw [sum_set us j x v h]; omega

theorem bump_sum {e : Int} {b : Nat} {us : List Int} (h : us.length = b) (c : Int) : sumI (bump e b us c) = sumI us + cntI e b [c] := by
  unfold bump
  simp only [cntI]
  split
  · rename_i hc
    obtain ⟨x, hx⟩ : ∃ x, us[(c - e - 1).toNat]? = some x := ⟨_, List.getElem?_eq_getElem (by omega)⟩
    rw [hx, sum_set us _ x _ hx]
    simp only [Option.getD_some]
    omega
  · omega

theorem fold_sum (e : Int) (b : Nat) : ∀ (cs us : List Int), us.length = b → sumI (cs.foldl (bump e b) us) = sumI us + cntI e b cs
  | [], us, _ => by simp [cntI]
  | c :: cs, us, h => by
    rw [List.foldl_cons, fold_sum e b cs _ (by rw [bump_len]; exact h), bump_sum h]
    have : cntI e b (c :: cs) = cntI e b [c] + cntI e b cs := cnt_app e b [c] cs
    omega

theorem sum_zeros : ∀ b : Nat, sumI (List.replicate b 0) = 0
  | 0 => rfl
  | b + 1 => by
    rw [List.replicate_succ]
    show 0 + sumI _ = 0
    rw [sum_zeros b]; rfl

theorem use_sum (e : Int) (b : Nat) (cs : List Int) : sumI (useL e b cs) = cntI e b cs := by
  unfold useL
  rw [fold_sum e b cs _ (by simp), sum_zeros]; omega

theorem fold_few (e : Int) (b : Nat) : ∀ (cs us : List Int) (k : Nat), Few us k → Few (cs.foldl (bump e b) us) (k + cs.length)
  | [], us, k, h => h
  | c :: cs, us, k, h => by
    rw [List.foldl_cons]
    have := fold_few e b cs _ _ (h.bump (e := e) (b := b) (c := c))
    rw [List.length_cons, show k + (cs.length + 1) = k + 1 + cs.length by omega]
    exact this

theorem sum_pos : ∀ us : List Int, (∀ u ∈ us, 0 ≤ u) → 0 ≤ sumI us
  | [], _ => by simp [sumI]
  | u :: us, h => by
    have := sum_pos us fun x hx => h x (List.mem_cons_of_mem _ hx)
    have := h u (by simp)
    simp only [sumI]; omega

/-- the partial sums of the uses -/
theorem use_part (e : Int) (b : Nat) (cs : List Int) (k : Nat) : 0 ≤ sumI ((useL e b cs).take k) ∧ sumI ((useL e b cs).take k) ≤ cs.length := by
  have hf : Few (useL e b cs) (0 + cs.length) := fold_few e b cs _ 0 (few_zero b)
  have hp : ∀ u ∈ useL e b cs, 0 ≤ u := fun u hu => by
    obtain ⟨i, hi⟩ := List.getElem?_of_mem hu
    exact (hf i u hi).1
  have h1 := sum_pos ((useL e b cs).take k) fun u hu => hp u (List.mem_of_mem_take hu)
  have h2 := sum_pos ((useL e b cs).drop k) fun u hu => hp u (List.mem_of_mem_drop hu)
  have h3 := sum_app ((useL e b cs).take k) ((useL e b cs).drop k)
  rw [List.take_append_drop, use_sum] at h3
  have h4 := cnt_bd e b cs
  omega

theorem take_snoc_at {xs : List Int} {k : Nat} {x : Int} (h : xs[k]? = some x) : xs.take (k + 1) = xs.take k ++ [x] := by
  rw [List.take_add_one, h]; rfl

set_option maxRecDepth 100000 in
set_option maxHeartbeats 1000000 in
theorem lawUses_any (a : Option Addr) (cap : Nat) (bs : List UInt8) (w : World) (hr : Rd encB w a cap bs) :
    Calls Try.prog 9 #[.slice a bs.length cap] w (fun e w' => e = .returned (.bool true) ∧ Below w.heap.size w w') := by
  have g1 := hr.1
  have g2 := hr.2.1
  by_cases h1 : bs.length ≤ 1048576
  case neg =>
    go_enter Try.func9, Try.ntmps9
    go_wp2
    go_ret
    exact ⟨rfl, (by repeat (first | exact Below.refl _ _ | refine below_plus ?_ (by first | omega | (simp <;> omega)) _ | refine Below.alloc ?_ (by first | omega | (simp <;> omega)) _ | refine below_patch ?_ (by omega) _ | refine Below.drew ?_))⟩
  go_enter Try.func9, Try.ntmps9
  go_wp2_with fail
  refine (DrawWordUses_any a cap bs _ (by repeat (first | exact hr | apply rd_seq | apply Rd.plus | apply Rd.alloc | apply Rd.drew | apply Rd.drewN | refine rd_patch ?_ _ _ (by intro A hA; first | (cases hA; show _ ≠ _; omega) | (have := hal A hA; omega))))).mono ?_
  rintro e w' ⟨o, l, m, pa, pc, ps, base, last, s, rfl, hl3, hs5, hrd, x1, rfl⟩
  have hm : s.size ≤ maxLen := by unfold maxLen; omega
  have HR := Lib.hid (show Rd encP _ pa pc ps from hrd)
  clear hrd
  by_cases hbad : kvb o l m ps base last = false ∨ dfB o l m s = false
  · have HI := Lib.hid (fun (W : World) (h : RdP W pa pc ps) => implWordUses_no o l m pa pc ps base last s W h hm hbad)
    have HS := Lib.hid (fun (W : World) (h : RdP W pa pc ps) => specWordUses_no o l m pa pc ps base last s W h hm hbad)
    have HG := Lib.hid (fun (W : World) (h : RdP W pa pc ps) => implGreedyCodes_no o l m pa pc ps base last s W h hm hbad)
    clear hbad
    go_wp2_with fail
    refine (HI.out _ (by (try unfold RdP); repeat (first | (with_reducible exact HR.out) | (with_reducible apply rd_seq) | (with_reducible apply Rd.plus) | (with_reducible apply Rd.alloc) | (with_reducible apply Rd.drew) | (with_reducible apply Rd.drewN)))).mono ?_
    rintro e w' ⟨ua, uc, rfl, hown, y1, rfl⟩
    (try simp only [plus_plus] at hown)
    have HU := Lib.hid (show Rd encI _ ua uc _ from hown.rd)
    clear hown
    go_wp2_with fail
    refine (HS.out _ (by (try unfold RdP); repeat (first | (with_reducible exact HR.out) | (with_reducible apply rd_seq) | (with_reducible apply Rd.plus) | (with_reducible apply Rd.alloc) | (with_reducible apply Rd.drew) | (with_reducible apply Rd.drewN)))).mono ?_
    rintro e w' ⟨va, vc, rfl, hown, y2, rfl⟩
    (try simp only [plus_plus] at hown)
    have HV := Lib.hid (show Rd encI _ va vc _ from hown.rd)
    clear hown
    go_wp2_with fail
    refine (HG.out _ (by (try unfold RdP); repeat (first | (with_reducible exact HR.out) | (with_reducible apply rd_seq) | (with_reducible apply Rd.plus) | (with_reducible apply Rd.alloc) | (with_reducible apply Rd.drew) | (with_reducible apply Rd.drewN)))).mono ?_
    rintro e w' ⟨ga, gc, rfl, hown, y3, rfl⟩
    (try simp only [plus_plus] at hown)
    have HGR := Lib.hid (show Rd encI _ ga gc _ from hown.rd)
    clear hown
    go_wp2_with fail
    refine (soInts_yes ua va uc vc [] _ (by (try unfold RdP); repeat (first | (with_reducible exact HU.out) | (with_reducible apply rd_seq) | (with_reducible apply Rd.plus) | (with_reducible apply Rd.alloc) | (with_reducible apply Rd.drew) | (with_reducible apply Rd.drewN))) (by (try unfold RdP); repeat (first | (with_reducible exact HV.out) | (with_reducible apply rd_seq) | (with_reducible apply Rd.plus) | (with_reducible apply Rd.alloc) | (with_reducible apply Rd.drew) | (with_reducible apply Rd.drewN)))).mono ?_
    rintro e w' ⟨rfl, y4, rfl⟩
    go_wp2_with fail
    refine (soInts_yes ua va uc vc [] _ (by (try unfold RdP); repeat (first | (with_reducible exact HU.out) | (with_reducible apply rd_seq) | (with_reducible apply Rd.plus) | (with_reducible apply Rd.alloc) | (with_reducible apply Rd.drew) | (with_reducible apply Rd.drewN))) (by (try unfold RdP); repeat (first | (with_reducible exact HV.out) | (with_reducible apply rd_seq) | (with_reducible apply Rd.plus) | (with_reducible apply Rd.alloc) | (with_reducible apply Rd.drew) | (with_reducible apply Rd.drewN)))).mono ?_
    rintro e w' ⟨rfl, y5, rfl⟩
    go_wp2_with fail
    go_ret
    exact ⟨rfl, (by repeat (first | exact Below.refl _ _ | refine below_plus ?_ (by first | omega | (simp <;> omega)) _ | refine Below.alloc ?_ (by first | omega | (simp <;> omega)) _ | refine below_patch ?_ (by omega) _ | refine Below.drew ?_))⟩
  have hk : kvb o l m ps base last = true := by
    cases hk : kvb o l m ps base last
    · exact absurd (.inl hk) hbad
    · rfl
  have hd : dfB o l m s = true := by
    cases hd : dfB o l m s
    · exact absurd (.inr hd) hbad
    · rfl
  have hkv := kvb_iff.1 hk
  have hs := hkv.s
  obtain ⟨b, rfl⟩ : ∃ b : Nat, base = b := ⟨base.toNat, by have := hkv.b0; omega⟩
  have hbp : b ≤ ps.length := by have := hkv.b1; omega
  obtain ⟨_, _, _, _, t1, t2, t4, _⟩ := hkv.lim.bds
  have hgb := greL_bd hkv rfl hd
  obtain ⟨G, hG⟩ : ∃ G, greL l m b ps s.data.toList = G := ⟨_, rfl⟩
  have hgl : G.length ≤ 3100 := by rw [← hG]; exact greL_len2 hkv (by rw [bstr_bytes]; exact hd) (by rw [bytes_len]; exact dfB_len hd)
  obtain ⟨U, hU⟩ : ∃ U, useL (two l + 1) b G = U := ⟨_, rfl⟩
  have hUl : U.length = b := by rw [← hU]; exact useL_len _ _ _
  have hsum : sumI U = cntI (two l + 1) b G := by rw [← hU]; exact use_sum _ _ _
  have hpart : ∀ k, 0 ≤ sumI (U.take k) ∧ sumI (U.take k) ≤ 3100 := fun k => by
    have := use_part (two l + 1) b G k
    rw [hU] at this; omega
  have hcb : ∀ k, 0 ≤ cntI (two l + 1) b (G.take k) ∧ cntI (two l + 1) b (G.take k) ≤ 3100 := fun k => by
    have := cnt_bd (two l + 1) b (G.take k)
    rw [List.length_take] at this
    omega
  rw [hG] at hgb
  have HI := Lib.hid (fun (W : World) (h : RdP W pa pc ps) => implWordUses_yes o l m pa pc ps b last s W h hm hk hd b rfl U (by rw [hG]; exact hU))
  have HS := Lib.hid (fun (W : World) (h : RdP W pa pc ps) => specWordUses_yes o l m pa pc ps b last s W h hm hk hd b rfl U (by rw [hG]; exact hU))
  have HG := Lib.hid (fun (W : World) (h : RdP W pa pc ps) => implGreedyCodes_yes o l m pa pc ps b last s W h hm hk hd b rfl G hG)
  have HPT := Lib.hid hpart
  have HCB := Lib.hid hcb
  have HGB := Lib.hid hgb
  have HSU := Lib.hid hsum
  have HUL := Lib.hid hUl
  have hUl2 : U.length ≤ 2000 := by have := kv_len hk; omega
  clear hUl hbad hk hd hkv hG hU hpart hcb hgb hsum
  go_wp2_with fail
  refine (HI.out _ (by (try unfold RdP); repeat (first | (with_reducible exact HR.out) | (with_reducible apply rd_seq) | (with_reducible apply Rd.plus) | (with_reducible apply Rd.alloc) | (with_reducible apply Rd.drew) | (with_reducible apply Rd.drewN)))).mono ?_
  rintro e w' ⟨ua, uc, rfl, hown, y1, rfl⟩
  (try simp only [plus_plus] at hown)
  have HU := Lib.hid (show Rd encI _ ua uc _ from hown.rd)
  clear hown
  go_wp2_with fail
  refine (HS.out _ (by (try unfold RdP); repeat (first | (with_reducible exact HR.out) | (with_reducible apply rd_seq) | (with_reducible apply Rd.plus) | (with_reducible apply Rd.alloc) | (with_reducible apply Rd.drew) | (with_reducible apply Rd.drewN)))).mono ?_
  rintro e w' ⟨va, vc, rfl, hown, y2, rfl⟩
  (try simp only [plus_plus] at hown)
  have HV := Lib.hid (show Rd encI _ va vc _ from hown.rd)
  clear hown
  go_wp2_with fail
  refine (HG.out _ (by (try unfold RdP); repeat (first | (with_reducible exact HR.out) | (with_reducible apply rd_seq) | (with_reducible apply Rd.plus) | (with_reducible apply Rd.alloc) | (with_reducible apply Rd.drew) | (with_reducible apply Rd.drewN)))).mono ?_
  rintro e w' ⟨ga, gc, rfl, hown, y3, rfl⟩
  (try simp only [plus_plus] at hown)
  have HGR := Lib.hid (show Rd encI _ ga gc _ from hown.rd)
  clear hown
  go_wp2_with fail
  refine (soInts_yes ua va uc vc U _ (by (try unfold RdP); repeat (first | (with_reducible exact HU.out) | (with_reducible apply rd_seq) | (with_reducible apply Rd.plus) | (with_reducible apply Rd.alloc) | (with_reducible apply Rd.drew) | (with_reducible apply Rd.drewN))) (by (try unfold RdP); repeat (first | (with_reducible exact HV.out) | (with_reducible apply rd_seq) | (with_reducible apply Rd.plus) | (with_reducible apply Rd.alloc) | (with_reducible apply Rd.drew) | (with_reducible apply Rd.drewN)))).mono ?_
  rintro e w' ⟨rfl, y4, rfl⟩
  go_wp2_with fail
  refine wpn (fun X => X.heap[w.heap.size + x1.n]? = some (.cells #[.int .i64 o, .int .i64 l, .int .i64 m, .slice pa ps.length pc, .int .i64 b, .int .i64 last] 27 (0, 0)) ∧
    Rd encI X ua uc U ∧ Rd encI X ga gc G ∧ Below w.heap.size w X) ⟨?_, (by (try unfold RdP); repeat (first | (with_reducible exact HU.out) | (with_reducible apply rd_seq) | (with_reducible apply Rd.plus) | (with_reducible apply Rd.alloc) | (with_reducible apply Rd.drew) | (with_reducible apply Rd.drewN))), (by (try unfold RdP); repeat (first | (with_reducible exact HGR.out) | (with_reducible apply rd_seq) | (with_reducible apply Rd.plus) | (with_reducible apply Rd.alloc) | (with_reducible apply Rd.drew) | (with_reducible apply Rd.drewN))), (by repeat (first | exact Below.refl _ _ | refine below_plus ?_ (by first | omega | (simp <;> omega)) _ | refine Below.alloc ?_ (by first | omega | (simp <;> omega)) _ | refine below_patch ?_ (by omega) _ | refine Below.drew ?_))⟩ ?_
  · (repeat (first | exact push_new _ _ _ (by simp <;> omega) | apply blk_plus | apply blk_alloc | apply blk_drew))
  generalize w.heap.size + x1.n = bk
  clear HU HGR HV HR HI HS HG
  rintro X ⟨hbk, hU, hG, hB⟩
  have zk := (Array.getElem?_eq_some_iff.1 hbk).1
  have ck := cell_of hbk
  have HB := Lib.hid hB
  have zw := hB.size
  obtain ⟨zu1, zu2, hou⟩ := rdI_open hU
  obtain ⟨zg1, zg2, hog⟩ := rdI_open hG
  have HOU := Lib.hid hou
  have HOG := Lib.hid hog
  clear hbk hU hG hB hou hog
  go_wp2_with fail
  go_loopw [11, 12] (fun n i wr => ∃ (k : Nat) (z : Ext), k ≤ U.length ∧ n = .int .i64 (sumI (U.take k)) ∧ i = .int .i64 k ∧ wr = plus X z) (fun _ i _ => U.length - (intOf i).toNat)
  case atStart => exact ⟨0, _, Nat.zero_le _, rfl, rfl, (plus_self _).symm⟩
  case round =>
    obtain ⟨k, z, hk1, rfl, rfl, rfl⟩ := hrel
    rcases dec (k < U.length) with ⟨hlt, blt⟩ | ⟨hlt, blt⟩
    · obtain ⟨u, hu⟩ : ∃ u, U[k]? = some u := ⟨U[k], List.getElem?_eq_getElem hlt⟩
      have hp0 := HPT.out k
      have hp1 := HPT.out (k + 1)
      have hsn : sumI (U.take (k + 1)) = sumI (U.take k) + u := by
        rw [take_snoc_at hu, sum_app]
        simp [sumI]
      rw [hsn] at hp1
      have HSN := Lib.hid hsn
      rcases HOU.out with h9 | ⟨b1, off, rfl, hb, hc⟩
      · exact absurd hlt (by omega)
      have c1 := hc k u hu
      have VW := Lib.hid (show IntKind.i64.wrap (sumI (U.take k) + u) = sumI (U.take k) + u from IntWalk.i64_in _ (by omega))
      clear hc hu hsn
      go_wp2_with fail
      go_roundw
      case rel => exact ⟨k + 1, _, by omega, by rw [HSN.out], by go_num, rfl⟩
      case measure => simp [intOf]; omega
    · obtain rfl : k = U.length := by omega
      rw [List.take_length, HSU.out]
      have hc0 := HCB.out G.length
      rw [List.take_length] at hc0
      obtain ⟨N, hN⟩ : ∃ N, cntI (two l + 1) b G = N := ⟨_, rfl⟩
      rw [hN] at hc0 ⊢
      have HN := Lib.hid hN
      clear hN
      go_wp2_with fail
      go_loopw [11, 13] (fun n i wr => ∃ (k : Nat) (z : Ext), k ≤ G.length ∧ n = .int .i64 (N - cntI (two l + 1) b (G.take k)) ∧ i = .int .i64 k ∧ wr = plus X z) (fun _ i _ => G.length - (intOf i).toNat)
      case atStart => exact ⟨0, _, Nat.zero_le _, by simp [cntI], rfl, rfl⟩
      case round =>
        obtain ⟨k, z, hk1, rfl, rfl, rfl⟩ := hrel
        rcases dec (k < G.length) with ⟨hlt, blt⟩ | ⟨hlt, blt⟩
        · obtain ⟨c, hc9⟩ : ∃ c, G[k]? = some c := ⟨G[k], List.getElem?_eq_getElem hlt⟩
          have hb9 := HGB.out c (List.mem_of_getElem? hc9)
          have hp0 := HCB.out k
          have hsn : cntI (two l + 1) b (G.take (k + 1)) = cntI (two l + 1) b (G.take k) + (if 0 ≤ c - (two l + 1) - 1 ∧ c - (two l + 1) - 1 < b then 1 else 0) := by
            rw [take_snoc_at hc9, cnt_app]
            simp [cntI]
          have HSN := Lib.hid hsn
          rcases HOG.out with h9 | ⟨b1, off, rfl, hb, hc⟩
          · exact absurd hlt (by omega)
          have c1 := hc k c hc9
          clear hc hc9 hsn
          rcases dec (c > two l + 1) with ⟨d1, v1⟩ | ⟨d1, v1⟩
          · rcases dec (c ≤ two l + 1 + b) with ⟨d2, v2⟩ | ⟨d2, v2⟩
            · have HS2 := Lib.hid (show cntI (two l + 1) b (G.take (k + 1)) = cntI (two l + 1) b (G.take k) + 1 by rw [HSN.out, if_pos (by omega)])
              go_wp2_with fail
              (refine wp_region_calm (by kernel_rfl) (by kernel_rfl) ?_
               repeat (first | go_big_quiet_skip | (go_big_quiet_want; go_big_quiet_op; first | go_big_quiet_on | (apply Exists.intro; refine ⟨fun _ => ?_, ?_⟩; (focus ((first | (go_at_call 44; first | refine calm_of (EndCode_yes _ _ _ hs _) | refine calm_seq (EndCode_yes _ _ _ hs _))))); go_big_quiet_on)))
               refine wpQuiet_nil ?_
               intro _ hw'
               obtain ⟨xq, hw''⟩ := hw'
               subst hw'')
              go_wp2_with fail
              go_roundw
              case rel => exact ⟨k + 1, _, by omega, by rw [HS2.out]; go_num, by go_num, rfl⟩
              case measure => simp [intOf]; omega
            · have HS2 := Lib.hid (show cntI (two l + 1) b (G.take (k + 1)) = cntI (two l + 1) b (G.take k) by rw [HSN.out, if_neg (by omega)]; omega)
              go_wp2_with fail
              (refine wp_region_calm (by kernel_rfl) (by kernel_rfl) ?_
               repeat (first | go_big_quiet_skip | (go_big_quiet_want; go_big_quiet_op; first | go_big_quiet_on | (apply Exists.intro; refine ⟨fun _ => ?_, ?_⟩; (focus ((first | (go_at_call 44; first | refine calm_of (EndCode_yes _ _ _ hs _) | refine calm_seq (EndCode_yes _ _ _ hs _))))); go_big_quiet_on)))
               refine wpQuiet_nil ?_
               intro _ hw'
               obtain ⟨xq, hw''⟩ := hw'
               subst hw'')
              go_wp2_with fail
              go_roundw
              case rel => exact ⟨k + 1, _, by omega, by rw [HS2.out], by go_num, rfl⟩
              case measure => simp [intOf]; omega
          · have HS2 := Lib.hid (show cntI (two l + 1) b (G.take (k + 1)) = cntI (two l + 1) b (G.take k) by rw [HSN.out, if_neg (by omega)]; omega)
            go_wp2_with fail
            (refine wp_region_calm (by kernel_rfl) (by kernel_rfl) ?_
             repeat (first | go_big_quiet_skip | (go_big_quiet_want; go_big_quiet_op; first | go_big_quiet_on | (apply Exists.intro; refine ⟨fun _ => ?_, ?_⟩; (focus ((first | (go_at_call 44; first | refine calm_of (EndCode_yes _ _ _ hs _) | refine calm_seq (EndCode_yes _ _ _ hs _))))); go_big_quiet_on)))
             refine wpQuiet_nil ?_
             intro _ hw'
             obtain ⟨xq, hw''⟩ := hw'
             subst hw'')
            go_wp2_with fail
            go_roundw
            case rel => exact ⟨k + 1, _, by omega, by rw [HS2.out], by go_num, rfl⟩
            case measure => simp [intOf]; omega
        · obtain rfl : k = G.length := by omega
          rw [List.take_length, HN.out]
          have hUb := HUL.out
          go_wp2_with fail
          go_ret
          exact ⟨by simp, (by repeat (first | (with_reducible exact HB.out) | refine below_plus ?_ (by first | omega | (simp <;> omega)) _ | refine Below.alloc ?_ (by first | omega | (simp <;> omega)) _ | refine below_patch ?_ (by omega) _ | refine Below.drew ?_))⟩

end Go.Proofs.Ytlihhlihcjncoaa
