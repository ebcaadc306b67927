/- A reading in memory, and its three slices of the call's own. -/
import Derived.Test.YtibfkfinghcpaaaRdp
namespace Go.Proofs.Ytibfkfinghcpaaa
open Go.RowKit
set_option linter.unusedVariables false
set_option linter.unusedSimpArgs false

theorem numL_bd (o : Int) (bs : List UInt8) (h : bs.length ≤ 10) : 0 ≤ numL o bs ∧ numL o bs < 1024 := by
  have := numK_bd (o := o) (w := bs.length) (bs := bs) (k := bs.length) (Nat.le_refl _) (Nat.le_refl _) h
  rwa [numK_all] at this

theorem can_clear {l m : Int} {n : Nat} {last : Int} (h0 : 2 ≤ two l) : canB l m n last (two l) = true := canB_iff.2 ⟨by omega, by unfold gt nw; split <;> omega⟩

theorem can_end {l m : Int} {n : Nat} {last : Int} (h0 : 2 ≤ two l) : canB l m n last (two l + 1) = true := canB_iff.2 ⟨by omega, by unfold gt nw; split <;> omega⟩

/-- a reading in block B, and its three slices of the call's own, apart from each other -/
structure T4r (w : World) (B lo : Nat) (o l m : Int) (ps : List Pr) (base last : Int) (pa : Option Addr) (pc : Nat) (ca : Option Addr) (cc : Nat) (C : List Int) (da : Option Addr) (dc : Nat) (D : List UInt8) (e p : Int) : Prop where
  blk : w.heap[B]? = some (.cells #[.int .i64 o, .int .i64 l, .int .i64 m, .slice pa ps.length pc, .int .i64 base, .int .i64 last, .slice ca C.length cc, .slice da D.length dc, .int .i64 e, .int .i64 p] 86 (0, 0))
  op : Own encP 137 w pa pc ps lo
  oc : Own encI 3 w ca cc C lo
  od : Own encB 5 w da dc D lo
  cp : ∀ X, ca = some X → Off pa X.block
  cd : ∀ X, ca = some X → Off da X.block
  dp : ∀ X, da = some X → Off pa X.block
  bp : Off pa B
  bc : Off ca B
  bd : Off da B

section
variable {w w' : World} {B lo : Nat} {o l m : Int} {ps : List Pr} {base last last' : Int} {pa : Option Addr} {pc : Nat} {ca : Option Addr} {cc : Nat} {C : List Int} {da : Option Addr} {dc : Nat} {D : List UInt8} {e p : Int}

theorem T4r.plus (h : T4r w B lo o l m ps base last pa pc ca cc C da dc D e p) (x : Ext) : T4r (Go.Proofs.Ytibfkfinghcpaaa.plus w x) B lo o l m ps base last pa pc ca cc C da dc D e p :=
  ⟨blk_plus h.blk _, h.op.plus _, h.oc.plus _, h.od.plus _, h.cp, h.cd, h.dp, h.bp, h.bc, h.bd⟩

theorem T4r.alloc (h : T4r w B lo o l m ps base last pa pc ca cc C da dc D e p) (ob : Obj) : T4r (w.alloc ob) B lo o l m ps base last pa pc ca cc C da dc D e p := by rw [alloc_plus]; exact h.plus _

theorem T4r.drew (h : T4r w B lo o l m ps base last pa pc ca cc C da dc D e p) : T4r w.drew B lo o l m ps base last pa pc ca cc C da dc D e p := by rw [drew_is_plus]; exact h.plus _

theorem t4_seq {x y : Ext} (h : T4r (Go.Proofs.Ytibfkfinghcpaaa.plus w x) B lo o l m ps base last pa pc ca cc C da dc D e p) : T4r (Go.Proofs.Ytibfkfinghcpaaa.plus w (x.seq y)) B lo o l m ps base last pa pc ca cc C da dc D e p := by rw [← plus_plus]; exact h.plus y

theorem T4r.B_lt (h : T4r w B lo o l m ps base last pa pc ca cc C da dc D e p) : B < w.heap.size := (Array.getElem?_eq_some_iff.1 h.blk).1

/-- the numbers have turned -/
theorem T4r.turn (h : T4r w B lo o l m ps base last pa pc ca cc C da dc D e p) (e' p' : Int) :
    T4r (patch w B (.cells #[.int .i64 o, .int .i64 l, .int .i64 m, .slice pa ps.length pc, .int .i64 base, .int .i64 last, .slice ca C.length cc, .slice da D.length dc, .int .i64 e', .int .i64 p'] 86)) B lo o l m ps base last pa pc ca cc C da dc D e' p' :=
  ⟨patch_at _ _ _ h.B_lt, own_patch h.op h.bp, own_patch h.oc h.bc, own_patch h.od h.bd, h.cp, h.cd, h.dp, h.bp, h.bc, h.bd⟩

theorem T4r.grewC {A' : Option Addr} {c' : Nat} {ys : List Int} (h : T4r w B lo o l m ps base last pa pc ca cc C da dc D e p) (hown : Own encI 3 w' A' c' ys lo) (hg : Grew ca w w') (hx : Nxt ca A' w.heap.size) (e' : Int) :
    T4r (patch w' B (.cells #[.int .i64 o, .int .i64 l, .int .i64 m, .slice pa ps.length pc, .int .i64 base, .int .i64 last, .slice A' ys.length c', .slice da D.length dc, .int .i64 e', .int .i64 p] 86)) B lo o l m ps base last pa pc A' c' ys da dc D e' p := by
  have hB := h.B_lt
  have hs := hg.size
  have hb : Off A' B := hx.off h.bc (by omega)
  refine ⟨patch_at _ _ _ (by omega), own_patch (own_grew h.op hg fun X hX Y hY e => h.cp Y hY X hX e.symm) h.bp, own_patch hown hb, own_patch (own_grew h.od hg fun X hX Y hY e => h.cd Y hY X hX e.symm) h.bd, ?_, ?_, h.dp, h.bp, hb, h.bd⟩
  · intro X hX Y hY e
    rcases hx X hX with ⟨Z, hZ, he⟩ | he
    · exact h.cp Z hZ Y hY (by omega)
    · have := (own_lt h.op Y hY).2; omega
  · intro X hX Y hY e
    rcases hx X hX with ⟨Z, hZ, he⟩ | he
    · exact h.cd Z hZ Y hY (by omega)
    · have := (own_lt h.od Y hY).2; omega

theorem T4r.grewC_blk {w' : World} (h : T4r w B lo o l m ps base last pa pc ca cc C da dc D e p) (hg : Grew ca w w') : w'.heap[B]? = some (.cells #[.int .i64 o, .int .i64 l, .int .i64 m, .slice pa ps.length pc, .int .i64 base, .int .i64 last, .slice ca C.length cc, .slice da D.length dc, .int .i64 e, .int .i64 p] 86 (0, 0)) := by
  rw [hg.block B h.B_lt h.bc]; exact h.blk

theorem T4r.grewD {A' : Option Addr} {c' : Nat} {ys : List UInt8} (h : T4r w B lo o l m ps base last pa pc ca cc C da dc D e p) (hown : Own encB 5 w' A' c' ys lo) (hg : Grew da w w') (hx : Nxt da A' w.heap.size) :
    T4r (patch w' B (.cells #[.int .i64 o, .int .i64 l, .int .i64 m, .slice pa ps.length pc, .int .i64 base, .int .i64 last, .slice ca C.length cc, .slice A' ys.length c', .int .i64 e, .int .i64 p] 86)) B lo o l m ps base last pa pc ca cc C A' c' ys e p := by
  have hB := h.B_lt
  have hs := hg.size
  have hb : Off A' B := hx.off h.bd (by omega)
  refine ⟨patch_at _ _ _ (by omega), own_patch (own_grew h.op hg fun X hX Y hY e => h.dp Y hY X hX e.symm) h.bp, own_patch (own_grew h.oc hg fun X hX Y hY e => h.cd X hX Y hY e) h.bc, own_patch hown hb, h.cp, ?_, ?_, h.bp, h.bc, hb⟩
  · intro X hX Y hY e
    rcases hx Y hY with ⟨Z, hZ, he⟩ | he
    · exact h.cd X hX Z hZ (by omega)
    · have := (own_lt h.oc X hX).2; omega
  · intro X hX Y hY e
    rcases hx X hX with ⟨Z, hZ, he⟩ | he
    · exact h.dp Z hZ Y hY (by omega)
    · have := (own_lt h.op Y hY).2; omega

theorem T4r.grewD_blk {w' : World} (h : T4r w B lo o l m ps base last pa pc ca cc C da dc D e p) (hg : Grew da w w') : w'.heap[B]? = some (.cells #[.int .i64 o, .int .i64 l, .int .i64 m, .slice pa ps.length pc, .int .i64 base, .int .i64 last, .slice ca C.length cc, .slice da D.length dc, .int .i64 e, .int .i64 p] 86 (0, 0)) := by
  rw [hg.block B h.B_lt h.bd]; exact h.blk

/-- the pairs have grown, and something else is known -/
theorem T4r.adv {A' : Option Addr} {c' : Nat} {qs : List Pr} (h : T4r w B lo o l m ps base last pa pc ca cc C da dc D e p) (hown : Own encP 137 w' A' c' qs lo) (hg : Grew pa w w') (hx : Within pa A' w.heap.size) :
    T4r (patch w' B (.cells #[.int .i64 o, .int .i64 l, .int .i64 m, .slice A' qs.length c', .int .i64 base, .int .i64 last', .slice ca C.length cc, .slice da D.length dc, .int .i64 e, .int .i64 p] 86)) B lo o l m qs base last' A' c' ca cc C da dc D e p := by
  have hB := h.B_lt
  have hs := hg.size
  have hb : Off A' B := fun Y hY e => by
    rcases hx Y hY with ⟨Z, hZ, he⟩ | he
    · exact h.bp Z hZ (by omega)
    · omega
  refine ⟨patch_at _ _ _ (by omega), own_patch hown hb, own_patch (own_grew h.oc hg fun X hX Y hY e => h.cp X hX Y hY e) h.bc, own_patch (own_grew h.od hg fun X hX Y hY e => h.dp X hX Y hY e) h.bd, ?_, h.cd, ?_, hb, h.bc, h.bd⟩
  · intro X hX Y hY e
    rcases hx Y hY with ⟨Z, hZ, he⟩ | he
    · exact h.cp X hX Z hZ (by omega)
    · have := (own_lt h.oc X hX).2; omega
  · intro X hX Y hY e
    rcases hx Y hY with ⟨Z, hZ, he⟩ | he
    · exact h.dp X hX Z hZ (by omega)
    · have := (own_lt h.od X hX).2; omega

theorem T4r.adv_blk {w' : World} (h : T4r w B lo o l m ps base last pa pc ca cc C da dc D e p) (hg : Grew pa w w') : w'.heap[B]? = some (.cells #[.int .i64 o, .int .i64 l, .int .i64 m, .slice pa ps.length pc, .int .i64 base, .int .i64 last, .slice ca C.length cc, .slice da D.length dc, .int .i64 e, .int .i64 p] 86 (0, 0)) := by
  rw [hg.block B h.B_lt h.bp]; exact h.blk

theorem T4r.clear {b : Nat} (h : T4r w B lo o l m ps base last pa pc ca cc C da dc D e p) (hb : b ≤ ps.length) :
    T4r (patch w B (.cells #[.int .i64 o, .int .i64 l, .int .i64 m, .slice pa b pc, .int .i64 base, .int .i64 (-1), .slice ca C.length cc, .slice da D.length dc, .int .i64 e, .int .i64 p] 86)) B lo o l m (ps.take b) base (-1) pa pc ca cc C da dc D e p := by
  have hl : (ps.take b).length = b := by rw [List.length_take]; omega
  refine ⟨?_, own_patch (own_cutP h.op b) h.bp, own_patch h.oc h.bc, own_patch h.od h.bd, h.cp, h.cd, h.dp, h.bp, h.bc, h.bd⟩
  rw [hl]
  exact patch_at _ _ _ h.B_lt

end

theorem patch_comm (w : World) {b c : Nat} (ob oc : Obj) (h : b ≠ c) : patch (patch w b ob) c oc = patch (patch w c oc) b ob := by
  refine world_ext (fun k => ?_) rfl rfl rfl rfl
  rw [patch_heap, patch_heap, patch_heap, patch_heap, patch_size, patch_size]
  by_cases h1 : b = k
  · subst h1
    rw [if_neg (fun e => h e.symm), if_pos rfl, if_pos rfl]
  · rw [if_neg h1, if_neg h1]

/-- a block below has turned -/
theorem T4r.low {w : World} {B lo n : Nat} {o l m : Int} {ps : List Pr} {base last : Int} {pa : Option Addr} {pc : Nat} {ca : Option Addr} {cc : Nat} {C : List Int} {da : Option Addr} {dc : Nat} {D : List UInt8} {e p : Int} {Y : Obj}
    (h : T4r (patch w B Y) B lo o l m ps base last pa pc ca cc C da dc D e p) (hn : n < lo) (hB : n ≠ B) (Z : Obj) : T4r (patch (patch w n Z) B Y) B lo o l m ps base last pa pc ca cc C da dc D e p := by
  rw [patch_comm _ _ _ hB]
  exact ⟨by rw [patch_other _ _ _ (fun e => hB e.symm)]; exact h.blk, own_patch h.op fun X hX e => by have := own_lo h.op X hX; omega, own_patch h.oc fun X hX e => by have := own_lo h.oc X hX; omega, own_patch h.od fun X hX e => by have := own_lo h.od X hX; omega, h.cp, h.cd, h.dp, h.bp, h.bc, h.bd⟩

/-- what readCodes leaves -/
def RetRg (w : World) (o l m base : Int) (R : Rg) (E : Ending) (w' : World) : Prop :=
  ∃ pa pc ca cc da dc, E = .returned (.agg #[.int .i64 o, .int .i64 l, .int .i64 m, .slice pa R.ps.length pc, .int .i64 base, .int .i64 R.last, .slice ca R.C.length cc, .slice da R.D.length dc, .int .i64 R.e, .int .i64 R.p]) ∧
    Own encP 137 w' pa pc R.ps w.heap.size ∧ Own encI 3 w' ca cc R.C w.heap.size ∧ Own encB 5 w' da dc R.D w.heap.size ∧ ∃ x, w' = plus w x

/-- the position of the reading in block B -/
def posAt (w : World) (B : Nat) : Int := match w.cell? ⟨B, 9, none⟩ with | some (.int _ n) => n | _ => 0

theorem T4r.pos {w : World} {B lo : Nat} {o l m : Int} {ps : List Pr} {base last : Int} {pa : Option Addr} {pc : Nat} {ca : Option Addr} {cc : Nat} {C : List Int} {da : Option Addr} {dc : Nat} {D : List UInt8} {e p : Int} (h : T4r w B lo o l m ps base last pa pc ca cc C da dc D e p) : posAt w B = p := by
  unfold posAt
  rw [cell_of h.blk]
  rfl

end Go.Proofs.Ytibfkfinghcpaaa
