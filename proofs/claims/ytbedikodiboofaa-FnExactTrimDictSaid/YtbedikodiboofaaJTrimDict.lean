/- The law of TrimDict, for every argument. -/
import Derived.Test.YtbedikodiboofaaL5TrimDict
import Derived.Test.YtbedikodiboofaaTrd
namespace Go.Proofs.Ytbedikodiboofaa
open Go.RowKit
set_option linter.unusedVariables false
set_option linter.unusedSimpArgs false

theorem lawTrimDict_any (o l m : Int) (s1 : ByteArray) (w : World) (hm1 : s1.size ≤ maxLen) :
    Calls Try.prog 9 #[.agg #[.int .i64 o, .int .i64 l, .int .i64 m], .string s1] w fun e w' => e = .returned (.bool true) ∧ Below w.heap.size w w' := by
  by_cases h : sv o l m = false ∨ dfB o l m s1 = false
  · exact lawTrimDict_sizes o l m s1 w _ false hm1 (fun W => specTrimDict_no o l m s1 W hm1 h) (fun W => implTrimDict_no o l m s1 W hm1 h)
  · have hs : sv o l m = true := by
      cases hk : sv o l m
      · exact absurd (.inl hk) h
      · rfl
    have hd : dfB o l m s1 = true := by
      cases hd : dfB o l m s1
      · exact absurd (.inr hd) h
      · rfl
    have hTx : Tx o l m 0 [] (-1) s1.data.toList := ⟨kv_start hs, by rw [bstr_bytes]; exact hd⟩
    obtain ⟨_, _, q1, q2, _⟩ := trim_main s1.size [] (-1) s1.data.toList 0 0 0 hTx (by rw [bytes_len]; omega) (by omega) (by omega)
    rw [bytes_len] at q1
    have hN : ned l m s1.size [] (-1) s1.data.toList 0 0 = ((ned l m s1.size [] (-1) s1.data.toList 0 0).toNat : Int) := by omega
    exact lawTrimDict_sizes o l m s1 w _ true hm1 (fun W => specTrimDict_yes o l m s1 W hm1 hs hd _ hN (by omega)) (fun W => implTrimDict_yes o l m s1 W hm1 hs hd _ hN (by omega))

end Go.Proofs.Ytbedikodiboofaa
