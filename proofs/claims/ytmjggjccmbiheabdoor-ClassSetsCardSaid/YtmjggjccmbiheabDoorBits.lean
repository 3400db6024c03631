/- Blocks, cells, results: small facts; what a call leaves but for two blocks. -/
import Derived.Test.YtmjggjccmbiheabDoorPlain
import Derived.Lib.Hide
import Derived.Deep.LoopGhost
import Derived.Deep.QuietTactic
import Derived.BigQuiet
import Derived.IntWalk
import Derived.WalkLawsBesides
import Derived.Deep.RegionHeld3
namespace Go.Proofs.YtmjggjccmbiheabDoor
open Go Go.RowKit Go.Proofs

theorem cellA_new (w : World) (cs : Array Value) (t : TypeId) (i : Nat) : (w.alloc (.cells cs t)).cell? ⟨w.heap.size, i, none⟩ = cs[i]? := by
  unfold World.cell?
  simp only
  rw [heap_alloc_new]
  rfl
theorem frozenA_new (w : World) (cs : Array Value) (t : TypeId) (i : Nat) : (w.alloc (.cells cs t)).frozen? ⟨w.heap.size, i, none⟩ = false := by
  unfold World.frozen?
  simp only
  rw [heap_alloc_new]
  simp
theorem blk_cell {W : World} {z : Nat} {cs : Array Value} {t : TypeId} {fr : Nat × Nat} (h : W.heap[z]? = some (.cells cs t fr)) (i : Nat) : W.cell? ⟨z, i, none⟩ = cs[i]? := by
  unfold World.cell?
  rw [h]
  simp
theorem blk_frozen {W : World} {z : Nat} {cs : Array Value} {t : TypeId} (h : W.heap[z]? = some (.cells cs t)) (i : Nat) : W.frozen? ⟨z, i, none⟩ = false := by
  unfold World.frozen?
  rw [h]
  simp
theorem blk_lt {W : World} {z : Nat} {o : Obj} (h : W.heap[z]? = some o) : z < W.heap.size := (Array.getElem?_eq_some_iff.1 h).1
theorem heap_stay {W : World} {b : Nat} {o : Obj} (h : W.heap[b]? = some o) (o' : Obj) : (W.alloc o').heap[b]? = some o := by
  rw [((Below.refl W.heap.size W).alloc (Nat.le_refl _) o').block b (Array.getElem?_eq_some_iff.1 h).1]; exact h
theorem heap_setCell_at {W : World} {R : Nat} {cs : Array Value} {t : TypeId} {fr : Nat × Nat} (h : W.heap[R]? = some (.cells cs t fr)) (o : Nat) (u : Value) : (W.setCell ⟨R, o, none⟩ u).heap[R]? = some (.cells (cs.setIfInBounds o u) t fr) := by
  simp [World.setCell, Array.getElem?_modify, h]
theorem results_cell1 {fn : Func} {p : Tmp} {ty : TypeId} (h : fn.results = #[.cell p ty]) (tmps : Array Value) (P : Program) (w : World) :
    (results fn tmps).run P w = ((asAddr (tmps.getD p undef)).run P w).andThen fun a w₁ => (loadVar ty a).run P w₁ := by
  simp only [results, h]
  simp [Sem.run_bind]
/-- What was there is as it was, but for two blocks. -/
structure Keep (R B : Nat) (W W' : World) : Prop where
  os : W'.os = W.os
  tape : W'.tape = W.tape
  output : W'.output = W.output
  size : W.heap.size ≤ W'.heap.size
  block : ∀ k, k < W.heap.size → k ≠ R → k ≠ B → W'.heap[k]? = W.heap[k]?
section
variable {R B : Nat} {W W' W'' : World}
theorem Keep.refl (R B : Nat) (W : World) : Keep R B W W := ⟨rfl, rfl, rfl, Nat.le_refl _, fun _ _ _ _ => rfl⟩
theorem Keep.below (h : Below W.heap.size W W') : Keep R B W W' := ⟨h.os, h.tape, h.output, h.size, fun k hk _ _ => h.block k hk⟩
theorem Keep.trans (h : Keep R B W W') (k : Keep R B W' W'') : Keep R B W W'' :=
  ⟨k.os.trans h.os, k.tape.trans h.tape, k.output.trans h.output, Nat.le_trans h.size k.size, fun j hj h1 h2 => (k.block j (Nat.lt_of_lt_of_le hj h.size) h1 h2).trans (h.block j hj h1 h2)⟩
theorem Keep.grownB (h : W.grownBy W' (some B)) : Keep R B W W' := ⟨h.os, h.tape, h.output, h.size, fun k hk _ h2 => h.block k hk (fun e => h2 (by simpa using e))⟩
theorem Keep.setR (o : Nat) (u : Value) : Keep R B W (W.setCell ⟨R, o, none⟩ u) :=
  ⟨rfl, rfl, rfl, by simp, fun k _ hR _ => by simp [World.setCell, Array.getElem?_modify, Ne.symm hR]⟩
theorem Keep.cell (h : Keep R B W W') {b o : Nat} (hb : b < W.heap.size) (h1 : b ≠ R) (h2 : b ≠ B) : W'.cell? ⟨b, o, none⟩ = W.cell? ⟨b, o, none⟩ := World.cell?_of_block (a := ⟨b, o, none⟩) (h.block b hb h1 h2)
theorem Keep.under {D : Nat} {w : World} (hb : Below D w W) (h : Keep R B W W') (hR : D ≤ R) (hB : D ≤ B) (hD : D ≤ W.heap.size) : Below D w W' :=
  ⟨h.os.trans hb.os, h.tape.trans hb.tape, h.output.trans hb.output, Nat.le_trans hb.size h.size, fun j hj => (h.block j (by omega) (by omega) (by omega)).trans (hb.block j hj)⟩
end
end Go.Proofs.YtmjggjccmbiheabDoor
