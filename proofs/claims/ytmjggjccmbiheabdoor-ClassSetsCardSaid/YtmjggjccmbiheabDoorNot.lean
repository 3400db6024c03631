/- Not, Count, step by step. -/
import Derived.Test.YtmjggjccmbiheabDoorSpan
namespace Go.Proofs.YtmjggjccmbiheabDoor
open Go Go.RowKit Go.Proofs
attribute [local go_sem] mk_list mk_size mk_data

theorem not_step (h : Nat → Bool) {k : Nat} {v : Bool} (hv : v = !h k) (i : Nat) : (if i = k then v else (if i < k then !h i else h i)) = (if i < k + 1 then !h i else h i) := by
  by_cases e : i = k
  · subst e
    rw [if_pos rfl, if_pos (Nat.lt_succ_self i), hv]
  · rw [if_neg e]
    by_cases e2 : i < k
    · rw [if_pos e2, if_pos (Nat.lt_succ_of_lt e2)]
    · rw [if_neg e2, if_neg (show ¬ i < k + 1 by omega)]
set_option maxRecDepth 100000 in
set_option maxHeartbeats 4000000 in
theorem class_Not (s : Tx) (W : World) (hs : s.length ≤ 9223372036854775807) :
    Calls Tryd.prog 11 #[.string (mk s)] W fun e w' => e = .returned (.string (mk (tb (notB s)))) ∧ Below W.heap.size W w' := by
  have e0 : (⟨#[]⟩ : ByteArray) = mk [] := rfl
  have hz := zero37
  have HF := Lib.hid (class_of s W hs)
  have HTX := Lib.hid (fun w => class_text (notB s) w)
  clear hs
  go_enter Tryd.func11, Tryd.ntmps11
  simp only [e0]
  clear e0
  go_wp2_with fail
  refine HF.out.mono ?_
  rintro e w1 ⟨rfl, hb1⟩
  have HB1 := Lib.hid hb1
  have hX := heap_alloc_new w1 (.cells (vb fun _ => false) 37)
  clear hb1
  go_wp2_with fail
  obtain ⟨w2, hrun, hb, hk⟩ := store_run (hasT s) hX
  rw [hrun]
  simp only [Result.andThen_ok]
  rw [Oper.upon_skip]
  obtain ⟨X, hXe⟩ : ∃ X, w1.heap.size = X := ⟨_, rfl⟩
  rw [hXe] at hb hk ⊢
  have H2 : Hid (w2.heap[X]? = some (.cells (vb (hasT s)) 37) ∧ Below W.heap.size W w2 ∧ W.heap.size ≤ X) := Lib.hid ⟨hb, ext_trans HB1.out (by rw [← hXe] at hk; exact Keep.under ((Below.refl _ _).alloc (Nat.le_refl _) _) hk (Nat.le_refl _) (Nat.le_refl _) (by simp)), by rw [← hXe]; exact HB1.out.size⟩
  clear hrun hb hk hX hz hXe
  go_wp2_with fail
  go_loopg [7] 256 (fun g cv wx => ∃ k : Nat, k + g = 256 ∧ cv = .int .i64 k ∧ Hid (Keep X X w2 wx ∧ wx.heap[X]? = some (.cells (vb fun i => if i < k then !hasT s i else hasT s i) 37)))
  case atStart => exact ⟨0, by omega, rfl, Lib.hid ⟨Keep.refl _ _ _, by rw [vb_congr (g := hasT s) fun i _ => if_neg (Nat.not_lt_zero i)]; exact H2.out.1⟩⟩
  case round =>
    obtain ⟨k, hk, rfl, HX⟩ := hrel
    cases gk with
    | zero =>
      obtain rfl : k = 256 := by omega
      have hn : ¬ ((256 : Nat) : Int) < 256 := by omega
      have h4 := HX.out.2
      rw [show (vb fun i => if i < 256 then !hasT s i else hasT s i) = vb (notB s) from vb_congr fun i hi => if_pos hi] at h4
      have HB3 : Hid (Below W.heap.size W wr) := Lib.hid (Keep.under H2.out.2.1 HX.out.1 H2.out.2.2 H2.out.2.2 H2.out.2.1.size)
      go_wp2_with fail
      refine load_bits _ rfl X 0 rfl (pre := []) h4 rfl ?_
      go_wp2_with fail
      refine (HTX.out _).mono ?_
      rintro e w4 ⟨rfl, hb4⟩
      have HB4 := Lib.hid (ext_trans HB3.out hb4)
      clear hb4 h4
      go_wp2_with fail
      go_ret
      exact ⟨rfl, HB4.out⟩
    | succ g =>
      have hn : (k : Int) < 256 := by omega
      have h0 : (0 : Int) ≤ (k : Int) := by omega
      have x0 := blk_cell HX.out.2 k
      rw [vb_get _ (by omega), if_neg (Nat.lt_irrefl k)] at x0
      have z0 := blk_frozen HX.out.2 k
      have hlt := blk_lt HX.out.2
      have HE : Hid (∀ v, v = (!hasT s k) → (wr.setCell ⟨X, k, none⟩ (.bool v)).heap[X]? = some (.cells (vb fun i => if i < k + 1 then !hasT s i else hasT s i) 37)) := Lib.hid (fun v hv => by
        rw [heap_setCell_at HX.out.2, vb_set]
        rw [vb_congr fun i _ => not_step (hasT s) hv i])
      generalize hasT s k = b at x0 HE
      go_wp2_with fail
      go_roundg g
      case measure => omega
      case rel => exact ⟨k + 1, by omega, by go_num, Lib.hid ⟨HX.out.1.trans (Keep.setR _ _), HE.out _ rfl⟩⟩
theorem count_step (h : Nat → Bool) (k : Nat) : (List.range (k + 1)).countP h = (List.range k).countP h + if h k then 1 else 0 := by
  rw [List.range_succ, List.countP_append, List.countP_cons, List.countP_nil, Nat.zero_add]
theorem count_le (h : Nat → Bool) (k : Nat) : (List.range k).countP h ≤ k := by
  have := List.countP_le_length (p := h) (l := List.range k)
  rwa [List.length_range] at this
set_option maxRecDepth 100000 in
set_option maxHeartbeats 4000000 in
theorem class_Count (s : Tx) (W : World) (hs : s.length ≤ 9223372036854775807) :
    Calls Tryd.prog 15 #[.string (mk s)] W fun e w' => e = .returned (.int .i64 (countT s)) ∧ Below W.heap.size W w' := by
  have HF := Lib.hid (class_of s W hs)
  have HC : Hid (countT s = (List.range 256).countP (hasT s)) := Lib.hid rfl
  clear hs
  go_enter Tryd.func15, Tryd.ntmps15
  go_wp2_with fail
  refine HF.out.mono ?_
  rintro e w1 ⟨rfl, hb1⟩
  have HB1 := Lib.hid hb1
  clear hb1
  go_wp2_with fail
  go_loopg [8, 3] 256 (fun g cv nv wx => ∃ k n : Nat, k + g = 256 ∧ cv = .int .i64 k ∧ nv = .int .i64 n ∧ Hid (n = (List.range k).countP (hasT s)) ∧ wx = w1)
  case atStart => exact ⟨0, 0, by omega, rfl, rfl, Lib.hid rfl, rfl⟩
  case round =>
    obtain ⟨k, n, hk, rfl, rfl, HN, rfl⟩ := hrel
    have hnb : n ≤ 256 := by have := count_le (hasT s) k; have := HN.out; omega
    cases gk with
    | zero =>
      obtain rfl : k = 256 := by omega
      have hn : ¬ ((256 : Nat) : Int) < 256 := by omega
      go_wp2_with fail
      go_ret
      exact ⟨by rw [HC.out, ← HN.out]; rfl, HB1.out⟩
    | succ g =>
      have hn : (k : Int) < 256 := by omega
      have h0 : (0 : Int) ≤ (k : Int) := by omega
      have hix := fun w => index37 (hasT s) (show k < 256 by omega) .i64 w
      have HS := Lib.hid (count_step (hasT s) k)
      cases hb : hasT s k
      · rw [hb] at HS
        simp only [hb] at hix
        go_wp2_with fail
        go_roundg g
        case measure => omega
        case rel => exact ⟨k + 1, n, by omega, by go_num, rfl, Lib.hid (by rw [HS.out]; simpa using HN.out), rfl⟩
      · rw [hb] at HS
        simp only [hb] at hix
        go_wp2_with fail
        go_roundg g
        case measure => omega
        case rel => exact ⟨k + 1, n + 1, by omega, by go_num, by go_num, Lib.hid (by rw [HS.out, ← HN.out]; rfl), rfl⟩
end Go.Proofs.YtmjggjccmbiheabDoor
