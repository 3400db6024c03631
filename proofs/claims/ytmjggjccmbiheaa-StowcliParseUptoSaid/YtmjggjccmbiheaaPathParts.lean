/- path.Parts and path.Clean, step by step: a text's parts, in a row of the call's own. -/
import Derived.Test.YtmjggjccmbiheaaPathIter
import Derived.Test.YtmjggjccmbiheaaStrs
namespace Go.Proofs.Ytmjggjccmbiheaa
open Go Go.RowKit Go.Proofs Go.Sort Go.Shelf
attribute [local go_sem] mk_list mk_size mk_data
attribute [local go_sem] Oper.semAt_some

theorem parts_make (l : Tx) (w : World) : Calls Try.prog 116 #[.string (mk l)] w fun e w' => e = .returned (.func (.func 149) #[] #[.pointer (some ⟨w.heap.size, 0, none⟩)]) ∧ w' = w.alloc (.cells #[.string (mk l)] 9) := by
  go_enter Try.func116, Try.ntmps116
  go_wp2
  go_ret
  exact ⟨rfl, rfl⟩

theorem partsL_len (l : Tx) : (partsL l).length ≤ l.length + 1 := by
  have h : ∀ l : Tx, (split l).length ≤ l.length + 1 := by
    intro l
    induction l with
    | nil => simp [split]
    | cons c l ih =>
      unfold split
      split
      · simp; omega
      · split
        · rename_i h; rw [h] at ih; simp at ih ⊢; omega
        · simp
  exact Nat.le_trans (List.length_filter_le _ _) (h l)

/-- The box B holds a row of these texts, laid from D on; what lay below B is as it was. -/
def BoxS (w : World) (D B : Nat) (xs : List Tx) (W : World) : Prop :=
  (∃ v, Boxed W B 29 v ∧ W.ownsRow D 9 1 v xs.length (xs.map fun x => .string (mk x))) ∧ Below B w W ∧ D ≤ W.heap.size
theorem row_mono {W : World} {D D' : Nat} {e : TypeId} {size k : Nat} {v : Value} {xs : List Value} (h : W.ownsRow D e size v k xs) (hD : D' ≤ D) : W.ownsRow D' e size v k xs := by
  refine ⟨h.1, ?_⟩
  rcases h.2 with h0 | ⟨g, cap, cur, e, hbg, rest⟩
  · exact .inl h0
  · exact .inr ⟨g, cap, cur, e, Nat.le_trans hD hbg, rest⟩
theorem row_ne {W : World} {D Bn : Nat} {e : TypeId} {size k : Nat} {v : Value} {xs : List Value} (h : W.ownsRow D e size v k xs) (hB : Bn < D) : v.ownBlock ≠ some Bn := by
  intro e'
  have := (h.lt Bn e').1
  omega
theorem row_cells {W : World} {D : Nat} {e : TypeId} {size k : Nat} {v : Value} {xs : List Value} (h : W.ownsRow D e size v k xs) {row : Option Nat} (hr : ∀ r, row = some r → ∃ o : Obj, W.heap[r]? = some o ∧ o.isCells = false) : v.ownBlock = none ∨ v.ownBlock ≠ row := by
  rcases h.2 with ⟨rfl, _⟩ | ⟨g, cap, cur, rfl, _, hg, _⟩
  · exact .inl rfl
  · refine .inr fun e' => ?_
    obtain ⟨o, ho, hc⟩ := hr g (by rw [← e']; rfl)
    rw [hg] at ho
    cases ho
    cases hc
theorem boxS_bears (w : World) (D B : Nat) (hB : B < D) : Bears D (BoxS w D B) := by
  rintro xs W W' row ⟨⟨v, hv, hr⟩, hb, hs⟩ hg hrow
  refine ⟨⟨v, hv.kept hg ?_, hr.kept hg (row_cells hr fun r e => (hrow r e).2)⟩, hb.grown hg ?_ fun k e => ?_, Nat.le_trans hs hg.size⟩
  · intro e
    have := (hrow B e.symm).1
    omega
  · exact Nat.le_of_lt hv.lt
  · have := (hrow k e).1
    omega
theorem boxS_set (w : World) (D B Bn : Nat) (hB : B < Bn) (hD : Bn < D) (xs : List Tx) (W : World) (u : Value) (h : BoxS w D B xs W) : BoxS w D B xs (W.setCell ⟨Bn, 0, none⟩ u) := by
  obtain ⟨⟨v, hv, hr⟩, hb, hs⟩ := h
  refine ⟨⟨v, hv.kept (grownBy_setCell' W Bn u) (by simp; omega), hr.kept (grownBy_setCell' W Bn u) (.inr (row_ne hr hD))⟩, hb.setCell (p := ⟨Bn, 0, none⟩) (Nat.le_of_lt hB) u, by simpa using hs⟩
theorem boxS_put {w W w1 : World} {D B Bn : Nat} {v v' : Value} {pre : List Tx} {x : Tx} {tmp : Obj} (hBn : B < Bn) (hD : Bn < D) (hDW : D ≤ W.heap.size) (hv : Boxed W B 29 v) (hr : W.ownsRow D 9 1 v pre.length (pre.map fun x => .string (mk x))) (hb : Below B w W)
    (hown : w1.ownsRow D 9 1 v' (pre.length + 1) (pre.map (fun x => .string (mk x)) ++ [.string (mk x)])) (hg : (W.alloc tmp).grownBy w1 v.ownBlock) :
    Boxed w1 B 29 v ∧ KeepsOthers W (w1.setCell ⟨B, 0, none⟩ v') ∧ (w1.setCell ⟨B, 0, none⟩ v').heap[Bn]? = W.heap[Bn]? ∧ BoxS w D B (pre ++ [x]) (w1.setCell ⟨B, 0, none⟩ v') := by
  have hv1 : Boxed w1 B 29 v := (hv.alloc tmp).kept hg (hv.not_row (by decide) hr)
  have hsz := hg.size
  refine ⟨hv1, ?_, ?_, ⟨v', hv1.set v', ?_⟩, ?_, by simp at hsz ⊢; omega⟩
  · refine ((KeepsOthers.alloc W tmp).trans (KeepsOthers.of_grownBy hg fun j o ej hj => ?_)).trans (KeepsOthers.setCell _ _ _)
    rcases (hr.alloc tmp).2 with ⟨rfl, _⟩ | ⟨g, cap, cur, rfl, _, hgb, _⟩
    · simp [Value.ownBlock] at ej
    · obtain rfl : g = j := by simpa [Value.ownBlock] using ej
      rw [hgb] at hj; cases hj; rfl
  · refine (Below.heap_setCell _ _ _ _ (by simp; omega)).trans ?_
    refine (hg.block Bn (by simp; omega) (row_ne hr hD).symm).trans ?_
    exact Below.heap_alloc _ _ _ (by omega)
  · rw [List.length_append, List.map_append]
    exact hown.kept (grownBy_setCell' w1 B v') (.inr (row_ne hown (by omega)))
  · refine Below.setCell (p := ⟨B, 0, none⟩) ?_ (Nat.le_refl _) v'
    refine (hb.alloc (by omega) tmp).grown hg (by simp; omega) fun j ej => ?_
    have := (hr.lt j ej).1
    omega

set_option maxRecDepth 100000 in
set_option maxHeartbeats 2000000 in
theorem path_Parts (l : Tx) (w : World) (hl : l.length ≤ 4000000000000) :
    Calls Try.prog 88 #[.string (mk l)] w fun e w' => ∃ v, e = .returned v ∧ w'.ownsRow w.heap.size 9 1 v (partsL l).length ((partsL l).map fun x => .string (mk x)) ∧ Below w.heap.size w w' := by
  refine (callsIn_wide (n := 9)).1 ?_
  obtain ⟨i0, hi, hzz⟩ := Option.map_eq_some_iff.1 info9
  simp only [Prod.mk.injEq] at hzz
  have HZ := Lib.hid hzz
  clear hzz
  refine callsIn_of_wp_marks Try.func88 rfl trivial ?_ rfl
  simp only [Try.ntmps88, List.size_toArray, List.length_cons, List.length_nil, Nat.reduceAdd, Nat.reduceSub, Array.replicate_succ, Array.replicate_zero, List.push_toArray, List.append_toArray, List.nil_append, List.cons_append]
  gi_wp2_with (refine ⟨trivial, ?_⟩; gi_at_call 116; refine (callsIn_wide.2 (parts_make _ _)).mono ?_; rintro e w' ⟨rfl, rfl⟩)
  have bO := Boxed.new w 29 (.slice none 0 0)
  have bN := Boxed.new (w.alloc (.cells #[.slice none 0 0] 29)) 9 (.string (mk l))
  rw [World.size_alloc] at bN
  have hB0 : Below w.heap.size w ((w.alloc (.cells #[.slice none 0 0] 29)).alloc (.cells #[.string (mk l)] 9)) := ((Below.refl _ w).alloc (Nat.le_refl _) _).alloc (by simp) _
  have hpl := partsL_len l
  refine range_box (F := Fence.wide) (n := 9) rfl (by omega) (gf := 149) (lb := #[.pointer (some ⟨w.heap.size + 1, 0, none⟩)]) rfl trivial (enters_of Try.func149 (by kernel_rfl) rfl)
    (parts_iter 8 (w.heap.size + 1) (l.length + 1) (by omega) l (by omega) hpl _ bN) (by simp) (fun _ => rfl)
    (BoxS w (w.heap.size + 2) w.heap.size) (by simpa using boxS_bears w (w.heap.size + 2) w.heap.size (by omega))
    (fun s W v h => boxS_set w (w.heap.size + 2) w.heap.size (w.heap.size + 1) (by omega) (by omega) s W v h)
    ⟨⟨_, bO.alloc _, World.ownsRow_nil _ _ _ _⟩, hB0, by simp⟩
    (fun x => { tmps := #[.string (mk l), undef, .slice none 0 0, .pointer (some ⟨w.heap.size, 0, none⟩), .string (mk x), .string (mk l), .func (.func 149) #[] #[.pointer (some ⟨w.heap.size + 1, 0, none⟩)], .string (mk x), undef, undef, undef, undef, undef], defers := [] }) ?assign ?body ?done
  case assign =>
    intro l x W K hK
    gi_wp2
    exact hK
  case body =>
    rintro l2 pre x W ⟨⟨v, hv, hrow⟩, hB, hsz⟩ hlt
    have hc := hv.cell
    have HR := Lib.hid hrow
    have HB := Lib.hid hB
    have HV := Lib.hid hv
    have HSZ := Lib.hid hsz
    clear hrow hB hv hsz
    gi_wp2_with (gi_at_builtin; refine wpListIn_append_own _ rfl _ _ 29 rfl (w.heap.size + 2) 9 i0 (.string ⟨#[]⟩) 1 16 Try.underlying29 hi HZ.out.1 HZ.out.2.1 HZ.out.2.2 rfl (by decide) _ _ _ rfl (HR.out.alloc _) ⟨W.heap.size, 0, none⟩ 1 1 [.string (mk x)] rfl rfl (cell_one_new _ _ _) (by simp [Value.oneCell']) (by simp only [maxLen]; omega) (by omega) (by have := HSZ.out; simp; omega) ?_; intro v' w1 hown' hgrow _; have HO := Lib.hid hown'; obtain ⟨g', cap', rfl⟩ := ownsRow_succ hown'; have HP := Lib.hid (boxS_put (Bn := w.heap.size + 1) (by omega) (by omega) HSZ.out HV.out HR.out HB.out hown' hgrow); have hc1 := HP.out.1.cell; have hf1 := HP.out.1.frozen; clear hown' hgrow)
    exact HP.out.2
  case done =>
    rintro D ys W hD rfl ⟨⟨v, hv, hrow⟩, hB, hsz⟩ hK
    have hc := hv.cell
    gi_wp2
    refine ⟨by simp, .inl ⟨_, _, rfl, run_takeDeferred hK, ?_⟩⟩
    refine ⟨_, results_tmp rfl _ _ _, v, rfl, ?_, hB.trans (belowK_b (w := w) (Nat.le_refl _) W D _ _ (by simp at hD; omega) hK rfl rfl)⟩
    exact row_mono (ownsRow_putObj hrow _ hK rfl) (by omega)
end Go.Proofs.Ytmjggjccmbiheaa
