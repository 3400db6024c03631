/- Whole sets out of blocks and into blocks. -/
import Derived.Test.YtmjggjccmbiheabDoorText
import Derived.Deep.WholeRow
import Derived.Deep.MidRow
import Derived.Laws.ResultCell
namespace Go.Proofs.YtmjggjccmbiheabDoor
open Go Go.RowKit Go.Proofs
attribute [local go_sem] mk_list mk_size mk_data

theorem zero37 (w : World) : (zeroValue 37).run Tryd.prog w = .ok (.agg (vb fun _ => false)) w := by
  rw [vb_none]
  kernel_rfl
theorem size37 : (Tryd.prog.info? 37).map (·.size) = some 256 := by kernel_rfl
theorem row37 : ∃ d, Tryd.prog.underlying 37 = some d ∧ d.isRow = true := ⟨_, Tryd.underlying37, rfl⟩
theorem bools_at {w : World} {z o : Nat} {pre : List Value} {f : Nat → Bool} {ty : TypeId} {fr : Nat × Nat} (hw : w.heap[z]? = some (.cells (pb pre f) ty fr)) (ho : pre.length = o) : w.rangeAt z o (bools f) := by
  intro j v hj
  have hl : j < 256 := by have := (List.getElem?_eq_some_iff.1 hj).1; rwa [bools_len] at this
  rw [blk_cell hw, ← ho, pb_get pre f hl, ← bools_get f hl]
  exact hj
/-- A whole set out of a block. -/
theorem load_bits {op : Oper} {a : Act} {w : World} {K : Act → World → Prop} {Q : Exit → Act → World → Prop} (x : Operand) (ho : op.op = .load 37 x) (z o : Nat) (hx : a.eval x = .pointer (some ⟨z, o, none⟩)) {pre : List Value} {f : Nat → Bool} {ty : TypeId} {fr : Nat × Nat} (hw : w.heap[z]? = some (.cells (pb pre f) ty fr)) (hp : pre.length = o)
    (h : K (a.put op.dst (.agg (vb f))) w) : op.wp Tryd.prog a w K Q := by
  obtain ⟨d, hu, hd⟩ := row37
  exact wp_load_mid 37 x ho z o hx (bools f) d (bools_at hw hp) hu hd (by rw [bools_len]; exact size37) h
theorem setCells_block : ∀ (vs : List Value) (z o : Nat) (w : World) (cs : List Value) (ty : TypeId) (fr : Nat × Nat), w.heap[z]? = some (.cells cs.toArray ty fr) → o + vs.length ≤ cs.length → (w.setCells z o vs).heap[z]? = some (.cells (cs.take o ++ vs ++ cs.drop (o + vs.length)).toArray ty fr) ∧ Keep z z w (w.setCells z o vs)
  | [], z, o, w, cs, ty, fr, h, _ => by
    rw [World.setCells, List.append_nil, List.length_nil, Nat.add_zero, List.take_append_drop]
    exact ⟨h, Keep.refl _ _ _⟩
  | v :: r, z, o, w, cs, ty, fr, h, hl => by
    rw [List.length_cons] at hl
    rw [World.setCells]
    have h1 := heap_setCell_at h o v
    rw [List.setIfInBounds_toArray] at h1
    have h2 := setCells_block r z (o + 1) _ _ ty fr h1 (by rw [List.length_set]; omega)
    refine ⟨?_, (Keep.setR o v).trans h2.2⟩
    rw [h2.1]
    congr 3
    apply List.ext_getElem?
    intro i
    simp only [List.length_cons]
    have e1 : (cs.set o v).drop (o + 1 + r.length) = cs.drop (o + (r.length + 1)) := by
      rw [List.drop_set, if_pos (by omega)]
      congr 1
      omega
    have e2 : (cs.set o v).take (o + 1) = cs.take o ++ [v] := by
      rw [List.take_set, List.take_succ_eq_append_getElem (by omega), List.set_append_right _ _ (by rw [List.length_take]; omega)]
      rw [List.length_take, Nat.min_eq_left (by omega), Nat.sub_self]
      rfl
    rw [e1, e2]
    simp
theorem store_block {z : Nat} {w : World} {f g : Nat → Bool} {ty : TypeId} {fr : Nat × Nat} (hw : w.heap[z]? = some (.cells (vb f) ty fr)) : (w.setCells z 0 (bools g)).heap[z]? = some (.cells (vb g) ty fr) ∧ Keep z z w (w.setCells z 0 (bools g)) := by
  have h := setCells_block (bools g) z 0 w (bools f) ty fr hw (by rw [bools_len, bools_len]; omega)
  refine ⟨?_, h.2⟩
  rw [h.1, List.take_zero, List.drop_eq_nil_of_le (by rw [bools_len, bools_len]; omega), List.append_nil]
  rfl
/-- A whole set into a block. -/
theorem store_run {z : Nat} {w : World} {f : Nat → Bool} (g : Nat → Bool) {ty : TypeId} (hw : w.heap[z]? = some (.cells (vb f) ty)) : ∃ w', (storeCells ⟨z, 0, none⟩ (vb g).toList).run Tryd.prog w = .ok () w' ∧ w'.heap[z]? = some (.cells (vb g) ty) ∧ Keep z z w w' := by
  have hl : (vb g).toList.length = 256 := by rw [Array.length_toList, vb_size]
  have hin : ∀ j, j < 256 → (w.cell? ⟨z, 0 + j, none⟩).isSome = true ∧ w.frozen? ⟨z, 0 + j, none⟩ = false := by
    intro j hj
    have hg := pb_get [] f (k := j) hj
    rw [List.length_nil] at hg
    refine ⟨?_, blk_frozen hw _⟩
    rw [blk_cell hw]
    unfold vb
    rw [hg]
    rfl
  have h := run_storeCells_cells (P := Tryd.prog) z 0 (vb g).toList 0 w (fun j hj => by rw [hl] at hj; simpa using (hin j hj).1) (fun j hj => by rw [hl] at hj; simpa using (hin j hj).2)
    (fun v hv => (Array.all_eq_true_iff_forall_mem.1 (vb_one g)) v (by simpa using hv))
  exact ⟨_, h, store_block hw⟩
theorem result_bits {z : Nat} {w : World} {f : Nat → Bool} {ty : TypeId} (hw : w.heap[z]? = some (.cells (vb f) ty)) : (loadVar 37 ⟨z, 0, none⟩).run Tryd.prog w = .ok (.agg (vb f)) w := by
  obtain ⟨d, hu, hd⟩ := row37
  exact run_loadVar_mid (P := Tryd.prog) w z 0 37 (bools f) d (bools_at (pre := []) hw rfl) hu hd (by rw [bools_len]; exact size37)
abbrev W2 (W : World) : World := (W.alloc (.cells (vb fun _ => false) 37)).alloc (.cells (vb fun _ => false) 37)
theorem three2 (W : World) : Below W.heap.size W (W2 W) ∧ (W2 W).heap[W.heap.size]? = some (.cells (vb fun _ => false) 37) ∧ (W2 W).heap[W.heap.size + 1]? = some (.cells (vb fun _ => false) 37) := by
  have h := heap_alloc_new (W.alloc (.cells (vb fun _ => false) 37)) (.cells (vb fun _ => false) 37)
  rw [World.size_alloc] at h
  exact ⟨((Below.refl _ _).alloc (Nat.le_refl _) _).alloc (by simp) _, heap_stay (heap_alloc_new _ _) _, h⟩
end Go.Proofs.YtmjggjccmbiheabDoor
