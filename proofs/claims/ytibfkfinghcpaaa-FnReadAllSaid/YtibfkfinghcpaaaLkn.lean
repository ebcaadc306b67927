/- The walks of LearnKnown and StartWith, of the program and of the reference. -/
import Derived.Test.YtibfkfinghcpaaaGf
import Derived.Test.YtibfkfinghcpaaaRng
namespace Go.Proofs.Ytibfkfinghcpaaa
open Go.RowKit
set_option linter.unusedVariables false
set_option linter.unusedSimpArgs false

/-- what can be known stays so while a text is learned -/
theorem lrn_kv {o l m : Int} {base : Int} : ∀ (f : Nat) (ps : List Pr) (last : Int) (d : List UInt8), KV o l m ps base last → dfB o l m (bstr d) = true → KV o l m (lrn l m f ps last d).1 base (lrn l m f ps last d).2
  | 0, ps, last, d, h, _ => h
  | f + 1, ps, last, d, h, hd => by
    by_cases hz : d = []
    · subst hz
      rw [lrn_nil]; exact h
    · have hz0 : 0 < (bstr d).size := by
        rw [bstr_size]
        exact List.length_pos_iff.2 hz
      obtain ⟨n, hn⟩ := lon_ex h hd hz0
      rw [bytes_bstr] at hn
      obtain ⟨c, hc⟩ := fnd_ex l m ps last (d.take n) (h.lim.bds).2.2.2.2.1
      rw [lrn_step hz hn hc]
      refine lrn_kv f _ _ _ (h.after (fnd_ok hn hc)) ?_
      have := dfB_drop hd n
      have e : (bstr d).extract n (bstr d).size = bstr (d.drop n) := by
        rw [← bstr_bytes ((bstr d).extract n (bstr d).size), ext_drop, bytes_bstr]
      rwa [e] at this

theorem lrn_len {o l m : Int} {base : Int} {ps : List Pr} {last : Int} {s : ByteArray} (h : KV o l m ps base last) (hd : dfB o l m s = true) (f : Nat) : (lrn l m f ps last s.data.toList).1.length ≤ 2000 :=
  kv_len (kvb_iff.2 (lrn_kv f ps last s.data.toList h (by rw [bstr_bytes]; exact hd)))

end Go.Proofs.Ytibfkfinghcpaaa
