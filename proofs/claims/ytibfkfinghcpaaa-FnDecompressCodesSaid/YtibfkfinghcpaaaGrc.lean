/- The walks of GreedyCodes, of the program and of the reference. -/
import Derived.Test.YtibfkfinghcpaaaSgr
import Derived.Test.YtibfkfinghcpaaaWri
import Derived.Test.YtibfkfinghcpaaaLkn
namespace Go.Proofs.Ytibfkfinghcpaaa
open Go.RowKit
set_option linter.unusedVariables false
set_option linter.unusedSimpArgs false

theorem Clip_any (A : Addr) (n c : Nat) (w : World) (hn : n ≤ c) (hc : c ≤ 9223372036854775807) : Calls Try.prog 62 #[.slice (some A) n c] w (Ret w (.slice (some A) n n)) := by
  go_enter Try.func62, Try.ntmps62
  go_wp2
  go_ret
  exact Ret.mk (by repeat (first | exact More.refl _ | apply More.plus | apply More.alloc | apply More.drew | apply More.drewN))

theorem wrt_empty {e : TypeId} {w : World} {b lo : Nat} (hb : b = w.heap.size) (hlo : lo ≤ b) : Wrt encI e (w.alloc (.cells #[] e)) (some ⟨b, 0, none⟩) 0 [] lo :=
  .inr ⟨b, #[], rfl, hlo, by subst hb; rw [push_at, if_neg (by omega), if_pos rfl], by simp, fun j u hj => by simp [flat] at hj, Nat.le_refl _, by omega⟩

theorem greL_pos (l m : Int) (b : Nat) (ps : List Pr) (d : List UInt8) : 0 < (greL l m b ps d).length := by unfold greL; simp

theorem greL_len {o l m base last : Int} {b : Nat} {ps : List Pr} {s : ByteArray} (hkv : KV o l m ps base last) (hb : base = b) (hd : dfB o l m s = true) : (greL l m b ps s.data.toList).length ≤ 5000 := by
  subst hb
  have h := gre_len (o := o) (b := b) s.data.toList.length (ps.take b) (-1) s.data.toList ⟨by simpa using hkv.cleared, by rw [bstr_bytes]; exact hd⟩
  unfold dfB at hd
  simp only [Bool.and_eq_true, decide_eq_true_eq] at hd
  have := hd.2.1
  rw [bytes_len] at h
  unfold greL
  simp
  omega

end Go.Proofs.Ytibfkfinghcpaaa
