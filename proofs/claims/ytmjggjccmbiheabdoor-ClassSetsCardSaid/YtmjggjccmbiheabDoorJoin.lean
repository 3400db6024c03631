/- join, step by step. -/
import Derived.Test.YtmjggjccmbiheabDoorOf
namespace Go.Proofs.YtmjggjccmbiheabDoor
open Go Go.RowKit Go.Proofs
attribute [local go_sem] mk_list mk_size mk_data

theorem join_step (f h : Nat → Bool) {k : Nat} {v : Bool} (hv : v = (f k || h k)) (i : Nat) : (if i = k then v else (f i || (decide (i < k) && h i))) = (f i || (decide (i < k + 1) && h i)) := by
  by_cases e : i = k
  · subst e
    rw [if_pos rfl, decide_eq_true (Nat.lt_succ_self i), Bool.true_and, hv]
  · rw [if_neg e]
    by_cases e2 : i < k
    · rw [decide_eq_true e2, decide_eq_true (Nat.lt_succ_of_lt e2)]
    · rw [decide_eq_false e2, decide_eq_false (show ¬ i < k + 1 by omega)]
theorem updB_if (f : Nat → Bool) (k : Nat) (v : Bool) : updB f k v = fun i => if i = k then v else f i := rfl
set_option maxRecDepth 100000 in
set_option maxHeartbeats 4000000 in
theorem class_join (z o : Nat) (pre : List Value) (f : Nat → Bool) (ty : TypeId) (s : Tx) (W : World) (h : W.heap[z]? = some (.cells (pb pre f) ty)) (ho : pre.length = o) (hs : s.length ≤ 9223372036854775807) :
    Calls Tryd.prog 22 #[.pointer (some ⟨z, o, none⟩), .string (mk s)] W fun e w' => e = .returned (.tuple #[]) ∧ w'.heap[z]? = some (.cells (pb pre fun i => f i || hasT s i) ty) ∧ Keep z z W w' := by
  have HH := Lib.hid h
  have HO := Lib.hid ho
  have HF := Lib.hid (class_of s W hs)
  have hz := zero37
  clear h ho hs
  go_enter Tryd.func22, Tryd.ntmps22
  go_wp2_with fail
  refine HF.out.mono ?_
  rintro e w1 ⟨rfl, hb1⟩
  have HB1 := Lib.hid hb1
  have hX := heap_alloc_new w1 (.cells (vb fun _ => false) 37)
  clear hb1
  go_wp2_with fail
  obtain ⟨w2, hrun, hb, hk⟩ := store_run (hasT s) hX
  rw [hrun]
  simp only [Result.andThen_ok]
  rw [Oper.upon_skip]
  obtain ⟨X, hXe⟩ : ∃ X, w1.heap.size = X := ⟨_, rfl⟩
  rw [hXe] at hb hk hX ⊢
  have H2 : Hid (w2.heap[X]? = some (.cells (vb (hasT s)) 37) ∧ w2.heap[z]? = some (.cells (pb pre f) ty) ∧ Keep z z W w2 ∧ z ≠ X) := Lib.hid (by
    have hz1 := (HB1.out.block _ (blk_lt HH.out)).trans HH.out
    have hlt := Nat.lt_of_lt_of_le (blk_lt HH.out) HB1.out.size
    have hsz := HB1.out.size
    have hne : z ≠ X := by omega
    refine ⟨hb, (hk.block _ (by rw [World.size_alloc]; omega) hne hne).trans (heap_stay hz1 _), ?_, hne⟩
    refine ⟨hk.os.trans HB1.out.os, hk.tape.trans HB1.out.tape, hk.output.trans HB1.out.output, by have := hk.size; rw [World.size_alloc] at this; omega, fun j hj h1 _ => ?_⟩
    rw [hk.block j (by rw [World.size_alloc]; omega) (by omega) (by omega)]
    exact (((Below.refl w1.heap.size w1).alloc (Nat.le_refl _) _).block j (by omega)).trans (HB1.out.block j hj))
  clear hrun hb hk hX hXe hz
  go_wp2_with fail
  go_loopg [8] 256 (fun g cv wx => ∃ k : Nat, k + g = 256 ∧ cv = .int .i64 k ∧ Hid (wx.heap[z]? = some (.cells (pb pre fun i => f i || (decide (i < k) && hasT s i)) ty) ∧ wx.heap[X]? = some (.cells (vb (hasT s)) 37) ∧ Keep z z W wx))
  case atStart => exact ⟨0, by omega, rfl, Lib.hid ⟨by rw [pb_congr pre (g := f) fun i _ => by rw [decide_eq_false (Nat.not_lt_zero i), Bool.false_and, Bool.or_false]]; exact H2.out.2.1, H2.out.1, H2.out.2.2.1⟩⟩
  case round =>
    obtain ⟨k, hk, rfl, HX⟩ := hrel
    cases gk with
    | zero =>
      obtain rfl : k = 256 := by omega
      have hn : ¬ ((256 : Nat) : Int) < 256 := by omega
      go_wp2_with fail
      go_end0
      refine ⟨rfl, ?_, HX.out.2.2⟩
      rw [HX.out.1]
      rw [pb_congr pre fun i hi => by rw [decide_eq_true hi, Bool.true_and]]
    | succ g =>
      have hn : (k : Int) < 256 := by omega
      have h0 : (0 : Int) ≤ (k : Int) := by omega
      have x0 := blk_cell HX.out.1 (o + k)
      rw [← HO.out, pb_get pre _ (by omega), HO.out, decide_eq_false (Nat.lt_irrefl k), Bool.false_and, Bool.or_false] at x0
      have z0 := blk_frozen HX.out.1 (o + k)
      have hlt := blk_lt HX.out.1
      have y0 := blk_cell HX.out.2.1 k
      rw [vb_get _ (by omega)] at y0
      have hne := H2.out.2.2.2
      have hne2 : ¬ X = z := Ne.symm hne
      have HE : Hid (∀ v, v = (f k || hasT s k) → (wr.setCell ⟨z, o + k, none⟩ (.bool v)).heap[z]? = some (.cells (pb pre fun i => f i || (decide (i < k + 1) && hasT s i)) ty) ∧ (wr.setCell ⟨z, o + k, none⟩ (.bool v)).heap[X]? = some (.cells (vb (hasT s)) 37) ∧ Keep z z W (wr.setCell ⟨z, o + k, none⟩ (.bool v))) := Lib.hid (fun v hv => by
        have kk : Keep z z wr (wr.setCell ⟨z, o + k, none⟩ (.bool v)) := Keep.setR _ _
        refine ⟨?_, (kk.block _ (blk_lt HX.out.2.1) hne2 hne2).trans HX.out.2.1, HX.out.2.2.trans kk⟩
        rw [heap_setCell_at HX.out.1, ← HO.out, pb_set, updB_if]
        rw [pb_congr pre fun i _ => join_step f (hasT s) hv i])
      cases hf : f k
      · rw [hf] at x0 HE
        rw [Bool.false_or] at HE
        generalize hasT s k = b at y0 HE
        go_wp2_with fail
        go_region
        all_goals (
          go_wp2_with fail
          go_roundg g
          case measure => omega
          case rel => exact ⟨k + 1, by omega, by go_num, Lib.hid ⟨(HE.out _ rfl).1, (HE.out _ rfl).2.1, (HE.out _ rfl).2.2.trans (Keep.below (below_drewN (Below.refl _ _) 1))⟩⟩)
      · rw [hf] at x0 HE
        rw [Bool.true_or] at HE
        go_wp2_with fail
        go_region
        all_goals (
          go_wp2_with fail
          go_roundg g
          case measure => omega
          case rel => exact ⟨k + 1, by omega, by go_num, Lib.hid ⟨(HE.out _ rfl).1, (HE.out _ rfl).2.1, (HE.out _ rfl).2.2.trans (Keep.below (below_drewN (Below.refl _ _) 1))⟩⟩)
end Go.Proofs.YtmjggjccmbiheabDoor
