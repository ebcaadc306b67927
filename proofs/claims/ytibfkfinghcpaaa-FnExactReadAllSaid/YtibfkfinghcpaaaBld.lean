/- strings.Builder: writing a text. -/
import Derived.Test.YtibfkfinghcpaaaShelfB
import Derived.Test.YtibfkfinghcpaaaAps
import Derived.Test.YtibfkfinghcpaaaGb
namespace Go.Proofs.Ytibfkfinghcpaaa
open Go.RowKit
set_option linter.unusedVariables false
set_option linter.unusedSimpArgs false

theorem sizeBld : (Try.prog.info? 116).map (·.size) = some 2 := by kernel_rfl

set_option maxRecDepth 100000 in
set_option maxHeartbeats 1000000 in
theorem bld_used (b : Nat) (v : Value) (w : World) (hb : w.heap[b]? = some (.cells #[.pointer (some ⟨b, 0, none⟩), v] 116 (0, 0))) :
    Calls Try.prog 136 #[.pointer (some ⟨b, 0, none⟩)] w fun e w' => e = .returned (.tuple #[]) ∧ w' = w := by
  obtain ⟨j, hj, _⟩ := Option.map_eq_some_iff.1 sizeBld
  have r0 := cell_of hb
  go_enter Try.func136, Try.ntmps136
  go_wp2
  rw [Lib.run_neq_ptr_same w _ Try.underlying114 hj]
  go_wp2
  go_end0
  exact ⟨rfl, rfl⟩

set_option maxRecDepth 100000 in
set_option maxHeartbeats 1000000 in
theorem bld_fresh (b : Nat) (v : Value) (w : World) (hb : w.heap[b]? = some (.cells #[.pointer none, v] 116 (0, 0))) :
    Calls Try.prog 136 #[.pointer (some ⟨b, 0, none⟩)] w fun e w' => e = .returned (.tuple #[]) ∧ w' = patch w b (.cells #[.pointer (some ⟨b, 0, none⟩), v] 116 (0, 0)) := by
  obtain ⟨j, hj, hjs⟩ := Option.map_eq_some_iff.1 sizeBld
  have r0 := cell_of hb
  have f0 := free_of hb
  have s0 := fun i v => setCell_patch hb i v
  go_enter Try.func136, Try.ntmps136
  go_wp2
  have hsh : w.shape? b = some (116, 2) := by simp [World.shape?, hb]
  rw [Lib.run_to_unsafe w ⟨b, 0, none⟩ Try.underlying114 Try.underlying151 hj (by rw [hjs]; decide) hsh (Nat.zero_lt_succ 1)]
  simp only [Result.andThen]
  rw [Oper.upon_value]
  go_wp2
  rw [run_callFunc_extern Try.func144 (by kernel_rfl) (by kernel_rfl) (by kernel_rfl) (e := Extern.AbiNoEscape.same) (by kernel_rfl)]
  rw [Lib.run_noEscape]
  simp only [Result.andThen]
  rw [Oper.upon_value]
  go_wp2
  rw [Lib.run_from_unsafe w ⟨b, 0, none⟩ Try.underlying151 Try.underlying114 hj hsh (by kernel_rfl)]
  simp only [Result.andThen]
  rw [Oper.upon_value]
  go_wp2
  go_end0
  exact ⟨rfl, rfl⟩

theorem patch_same {w : World} {b : Nat} {o : Obj} (h : w.heap[b]? = some o) : patch w b o = w := by
  refine world_ext (fun k => ?_) rfl rfl rfl rfl
  rw [patch_heap]
  split
  · rename_i e
    subst e
    rw [if_pos (Array.getElem?_eq_some_iff.1 h).1]
    exact h.symm
  · rfl

theorem bld_check (b : Nat) (p v : Value) (hp : p = .pointer none ∨ p = .pointer (some ⟨b, 0, none⟩)) (w : World) (hb : w.heap[b]? = some (.cells #[p, v] 116 (0, 0))) :
    Calls Try.prog 136 #[.pointer (some ⟨b, 0, none⟩)] w fun e w' => e = .returned (.tuple #[]) ∧ w' = patch w b (.cells #[.pointer (some ⟨b, 0, none⟩), v] 116 (0, 0)) := by
  rcases hp with rfl | rfl
  · exact bld_fresh b v w hb
  · refine (bld_used b v w hb).mono ?_
    rintro e w' ⟨rfl, rfl⟩
    exact ⟨rfl, (patch_same hb).symm⟩

/-- what WriteString leaves -/
def RetWs (b : Nat) (xs : List UInt8) (A : Option Addr) (cap lo : Nat) (s : ByteArray) (w : World) (e : Ending) (w' : World) : Prop :=
  e = .returned (.tuple #[.int .i64 s.size, .nilIface]) ∧ ∃ (A' : Option Addr) (cap' : Nat) (w2 : World), Grew A (patch w b (.cells #[.pointer (some ⟨b, 0, none⟩), .slice A xs.length cap] 116 (0, 0))) w2 ∧
    w' = patch w2 b (.cells #[.pointer (some ⟨b, 0, none⟩), .slice A' (xs ++ s.data.toList).length cap'] 116 (0, 0)) ∧ Own encB 5 w2 A' cap' (xs ++ s.data.toList) lo ∧ Nxt A A' w.heap.size

set_option maxRecDepth 100000 in
set_option maxHeartbeats 1000000 in
theorem bld_write (b : Nat) (p : Value) (hp : p = .pointer none ∨ p = .pointer (some ⟨b, 0, none⟩)) (xs : List UInt8) (A : Option Addr) (cap lo : Nat) (s : ByteArray) (w : World) (hb : w.heap[b]? = some (.cells #[p, .slice A xs.length cap] 116 (0, 0))) (hown : Own encB 5 w A cap xs lo) (hoff : Off A b) (hlo : lo ≤ w.heap.size) (hsz : xs.length + s.size ≤ 140737488355328) :
    Calls Try.prog 95 #[.pointer (some ⟨b, 0, none⟩), .string s] w (RetWs b xs A cap lo s w) := by
  obtain ⟨i0, hi, hz0, hz1, hz2⟩ := info_parts infoByte
  have hlt : b < w.heap.size := (Array.getElem?_eq_some_iff.1 hb).1
  go_enter Try.func95, Try.ntmps95
  go_wp2_with fail
  refine (bld_check b p _ hp w hb).mono ?_
  rintro e w1 ⟨rfl, rfl⟩
  have h1 := patch_at w b (.cells #[.pointer (some ⟨b, 0, none⟩), .slice A xs.length cap] 116 (0, 0)) hlt
  have hown1 := own_patch (ob := .cells #[.pointer (some ⟨b, 0, none⟩), .slice A xs.length cap] 116 (0, 0)) hown hoff
  have r1 := cell_of h1
  go_wp2_with (at_builtin; refine wpList_append_str _ _ _ _ _ i0 rfl rfl Try.underlying22 Try.underlying9 hi hz0 hz1 hz2 xs A cap lo hown1 rfl s rfl hsz (by simp; omega) ?_; intro A6 c6 w6 hw6 hg6 hx6; have h6 := blk_grew hg6 h1 (fun X hX e => hoff X hX e); have r6 := cell_of h6; have f6 := free_of h6; have s6 := fun i v => setCell_patch h6 i v)
  refine bodyPost_ret (v := .tuple #[.int .i64 s.size, .nilIface]) (by simp [results, Try.results95, go_sem, ↓IntWalk.iteOmega]) rfl ⟨rfl, A6, c6, w6, hg6, (by simp), hw6, ?_⟩
  simpa using hx6

theorem bld_string (b : Nat) (p : Value) (hp : p = .pointer none ∨ p = .pointer (some ⟨b, 0, none⟩)) (xs : List UInt8) (A : Option Addr) (cap : Nat) (w : World) (hb : w.heap[b]? = some (.cells #[p, .slice A xs.length cap] 116 (0, 0))) (hown : Own encB 5 w A cap xs b) (hoff : Off A b) :
    Calls Try.prog 96 #[.pointer (some ⟨b, 0, none⟩)] w fun e w' => e = .returned (.string ⟨xs.toArray⟩) ∧ Below b w w' := by
  have hlt : b < w.heap.size := (Array.getElem?_eq_some_iff.1 hb).1
  have hfl : flat encB xs = Lib.byteCells xs := by rw [flatB]; simp [Lib.byteCells]
  have hr : w.ownsRow b 5 1 (.slice A xs.length cap) xs.length (Lib.byteCells xs) := by
    refine ⟨by simp [Lib.byteCells], ?_⟩
    rcases hown with ⟨rfl, rfl, rfl⟩ | ⟨g, cur, rfl, h1, h2, h3, h4, h5, h6⟩
    · exact .inl ⟨rfl, rfl⟩
    · refine .inr ⟨g, cap, cur, rfl, h1, h2, h5, by unfold maxLen; omega, by simpa [encB] using h3, ?_⟩
      have := row_take h4
      rw [hfl] at this
      exact this
  have ho : Value.ownBlock (.slice A xs.length cap) ≠ some b := by
    cases A with
    | none => intro h; cases h
    | some X => intro h; exact hoff X rfl (by simpa [Value.ownBlock] using h)
  have hl : (Lib.byteCells xs).length = xs.length := by simp [Lib.byteCells]
  refine Try.Builder_String_any b b xs w ?_ (by omega)
  rcases hp with rfl | rfl
  · exact .inl ⟨Nat.le_refl _, _, hb, by rw [hl]; exact hr, ho⟩
  · exact .inr ⟨Nat.le_refl _, _, hb, by rw [hl]; exact hr, ho⟩

end Go.Proofs.Ytibfkfinghcpaaa
