/- The reference's Span, Union, Not, Count, step by step. -/
import Derived.Test.YtmjggjccmbiheabDoorRHas
import Derived.Test.YtmjggjccmbiheabDoorNot
namespace Go.Proofs.YtmjggjccmbiheabDoor
open Go Go.RowKit Go.Proofs
attribute [local go_sem] mk_list mk_size mk_data

theorem span_step (a : Nat) {c : Nat} (hac : a ≤ c) (i : Nat) : (if i = c then true else decide (a ≤ i ∧ i < c)) = decide (a ≤ i ∧ i < c + 1) := by
  by_cases e : i = c
  · subst e
    rw [if_pos rfl, decide_eq_true (show a ≤ i ∧ i < i + 1 by omega)]
  · rw [if_neg e]
    exact decide_eq_decide.2 (by omega)
set_option maxRecDepth 100000 in
set_option maxHeartbeats 4000000 in
theorem ref_Span (a b : Nat) (W : World) (hb : b < 256) :
    Calls Tryd.prog 7 #[.int .i64 a, .int .i64 b] W fun e w' => e = .returned (.string (mk (tb (spanB a b)))) ∧ Below W.heap.size W w' := by
  have e0 : (⟨#[]⟩ : ByteArray) = mk [] := rfl
  have hmk := makeB256
  have HMK := Lib.hid (fun w (h : w.heap[W.heap.size]? = some (.cells (vb (spanB a b)) 4)) => ref_Make W.heap.size (spanB a b) w h)
  obtain ⟨F, hF⟩ : ∃ F, spanB a b = F := ⟨_, rfl⟩
  have HF := Lib.hid hF
  rw [hF] at HMK ⊢
  have H1 : Hid (Below W.heap.size W (W.alloc (.cells (vb fun _ => false) 4)) ∧ (W.alloc (.cells (vb fun _ => false) 4)).heap[W.heap.size]? = some (.cells (vb fun _ => false) 4)) := Lib.hid ⟨(Below.refl _ _).alloc (Nat.le_refl _) _, heap_alloc_new _ _⟩
  obtain ⟨w1, hw1⟩ : ∃ w1, W.alloc (.cells (vb fun _ => false) 4) = w1 := ⟨_, rfl⟩
  obtain ⟨B, hB⟩ : ∃ B, W.heap.size = B := ⟨_, rfl⟩
  rw [hw1, hB] at H1
  rw [hB] at HMK ⊢
  clear hF
  go_enter Tryd.func7, Tryd.ntmps7
  simp only [e0]
  clear e0
  go_wp2_with fail
  try rw [hw1]
  try rw [hB]
  clear hmk hw1
  go_loopg [6] (b + 1 - a) (fun g cv wx => ∃ c : Nat, c + g = a + (b + 1 - a) ∧ a ≤ c ∧ cv = .int .i64 c ∧ Hid (wx.heap[B]? = some (.cells (vb fun i => decide (a ≤ i ∧ i < c)) 4) ∧ Keep B B w1 wx))
  case atStart => exact ⟨a, by omega, by omega, rfl, Lib.hid ⟨by rw [show (vb fun i => decide (a ≤ i ∧ i < a)) = vb fun _ => false from vb_congr fun i _ => decide_eq_false (by omega)]; exact H1.out.2, Keep.refl _ _ _⟩⟩
  case round =>
    obtain ⟨c, hc, hac, rfl, HX⟩ := hrel
    cases gk with
    | zero =>
      have hn : ¬ (c : Int) ≤ (b : Int) := by omega
      have HV : Hid ((vb fun i => decide (a ≤ i ∧ i < c)) = vb F) := Lib.hid (by
        rw [← HF.out]
        exact vb_congr fun i _ => decide_eq_decide.2 (by omega))
      have HB3 : Hid (Below B W wr) := Lib.hid (Keep.under H1.out.1 HX.out.2 (Nat.le_refl _) (Nat.le_refl _) (by have := H1.out.1.size; omega))
      go_wp2_with fail
      refine (HMK.out wr (by rw [HX.out.1, HV.out])).mono ?_
      rintro e w2 ⟨rfl, rfl⟩
      go_wp2_with fail
      go_ret
      exact ⟨rfl, HB3.out⟩
    | succ g =>
      have hn : (c : Int) ≤ (b : Int) := by omega
      have h256 : (c : Int) < 256 := by omega
      have h0 : (0 : Int) ≤ (c : Int) := by omega
      have x0 := blk_cell HX.out.1 c
      rw [vb_get _ (by omega)] at x0
      have z0 := blk_frozen HX.out.1 c
      have hlt := blk_lt HX.out.1
      go_wp2_with fail
      go_roundg g
      case measure => omega
      case rel =>
        refine ⟨c + 1, by omega, by omega, by go_num, Lib.hid ⟨?_, HX.out.2.trans (Keep.setR _ _)⟩⟩
        rw [heap_setCell_at HX.out.1, vb_set]
        rw [vb_congr fun i _ => span_step a hac i]
set_option maxRecDepth 100000 in
set_option maxHeartbeats 4000000 in
theorem ref_Union (s t : Tx) (W : World) (hs : s.length ≤ 9223372036854775807) (ht : t.length ≤ 9223372036854775807) :
    Calls Tryd.prog 13 #[.string (mk s), .string (mk t)] W fun e w' => e = .returned (.string (mk (tb (unionB s t)))) ∧ Below W.heap.size W w' := by
  have e0 : (⟨#[]⟩ : ByteArray) = mk [] := rfl
  have hmk := makeB256
  have HMK := Lib.hid (fun w (h : w.heap[W.heap.size]? = some (.cells (vb (unionB s t)) 4)) => ref_Make W.heap.size (unionB s t) w h)
  have HA := Lib.hid (fun c w (hc : c < 256) => ref_Has s c w hs hc)
  have HB := Lib.hid (fun c w (hc : c < 256) => ref_Has t c w ht hc)
  have HF : Hid (∀ i, unionB s t i = (hasT s i || hasT t i)) := Lib.hid fun _ => rfl
  obtain ⟨F, hF⟩ : ∃ F, unionB s t = F := ⟨_, rfl⟩
  rw [hF] at HMK HF ⊢
  have H1 : Hid (Below W.heap.size W (W.alloc (.cells (vb fun _ => false) 4)) ∧ (W.alloc (.cells (vb fun _ => false) 4)).heap[W.heap.size]? = some (.cells (vb fun _ => false) 4)) := Lib.hid ⟨(Below.refl _ _).alloc (Nat.le_refl _) _, heap_alloc_new _ _⟩
  obtain ⟨w1, hw1⟩ : ∃ w1, W.alloc (.cells (vb fun _ => false) 4) = w1 := ⟨_, rfl⟩
  obtain ⟨B, hB⟩ : ∃ B, W.heap.size = B := ⟨_, rfl⟩
  rw [hw1, hB] at H1
  rw [hB] at HMK ⊢
  clear hF hs ht
  go_enter Tryd.func13, Tryd.ntmps13
  simp only [e0]
  clear e0
  go_wp2_with fail
  try rw [hw1]
  try rw [hB]
  clear hmk hw1
  go_loopg [6] 256 (fun g cv wx => ∃ k : Nat, k + g = 256 ∧ cv = .int .i64 k ∧ Hid (wx.heap[B]? = some (.cells (vb fun i => if i < k then F i else false) 4) ∧ Keep B B w1 wx))
  case atStart => exact ⟨0, by omega, rfl, Lib.hid ⟨by rw [show (vb fun i => if i < 0 then F i else false) = vb fun _ => false from vb_congr fun i _ => if_neg (Nat.not_lt_zero i)]; exact H1.out.2, Keep.refl _ _ _⟩⟩
  case round =>
    obtain ⟨k, hk, rfl, HX⟩ := hrel
    cases gk with
    | zero =>
      obtain rfl : k = 256 := by omega
      have hn : ¬ ((256 : Nat) : Int) < 256 := by omega
      have HV : Hid ((vb fun i => if i < 256 then F i else false) = vb F) := Lib.hid (vb_congr fun i hi => if_pos hi)
      have HB3 : Hid (Below B W wr) := Lib.hid (Keep.under H1.out.1 HX.out.2 (Nat.le_refl _) (Nat.le_refl _) (by have := H1.out.1.size; omega))
      go_wp2_with fail
      refine (HMK.out wr (by rw [HX.out.1, HV.out])).mono ?_
      rintro e w2 ⟨rfl, rfl⟩
      go_wp2_with fail
      go_ret
      exact ⟨rfl, HB3.out⟩
    | succ g =>
      have hn : (k : Int) < 256 := by omega
      have h0 : (0 : Int) ≤ (k : Int) := by omega
      have x0 := blk_cell HX.out.1 k
      rw [vb_get _ (by omega)] at x0
      have z0 := blk_frozen HX.out.1 k
      have hlt := blk_lt HX.out.1
      have HE : Hid (∀ v, v = F k → (wr.setCell ⟨B, k, none⟩ (.bool v)).heap[B]? = some (.cells (vb fun i => if i < k + 1 then F i else false) 4)) := Lib.hid (fun v hv => by
        rw [heap_setCell_at HX.out.1, vb_set]
        rw [vb_congr fun i _ => step_to F false hv i])
      rw [HF.out k] at HE
      have HAK := Lib.hid (fun w => HA.out k w (show k < 256 by omega))
      have HBK := Lib.hid (fun w => HB.out k w (show k < 256 by omega))
      generalize hasT t k = q at HE HBK
      cases hp : hasT s k
      · rw [hp] at HE HAK
        rw [Bool.false_or] at HE
        go_wp2_with fail
        refine (HAK.out _).mono ?_
        rintro e w2 ⟨rfl, rfl⟩
        go_wp2_with fail
        refine (HBK.out _).mono ?_
        rintro e w2 ⟨rfl, rfl⟩
        go_wp2_with fail
        go_roundg g
        case measure => omega
        case rel => exact ⟨k + 1, by omega, by go_num, Lib.hid ⟨HE.out _ rfl, HX.out.2.trans (Keep.setR _ _)⟩⟩
      · rw [hp] at HE HAK
        rw [Bool.true_or] at HE
        go_wp2_with fail
        refine (HAK.out _).mono ?_
        rintro e w2 ⟨rfl, rfl⟩
        go_wp2_with fail
        go_roundg g
        case measure => omega
        case rel => exact ⟨k + 1, by omega, by go_num, Lib.hid ⟨HE.out _ rfl, HX.out.2.trans (Keep.setR _ _)⟩⟩
set_option maxRecDepth 100000 in
set_option maxHeartbeats 4000000 in
theorem ref_Not (s : Tx) (W : World) (hs : s.length ≤ 9223372036854775807) :
    Calls Tryd.prog 14 #[.string (mk s)] W fun e w' => e = .returned (.string (mk (tb (notB s)))) ∧ Below W.heap.size W w' := by
  have e0 : (⟨#[]⟩ : ByteArray) = mk [] := rfl
  have hmk := makeB256
  have HMK := Lib.hid (fun w (h : w.heap[W.heap.size]? = some (.cells (vb (notB s)) 4)) => ref_Make W.heap.size (notB s) w h)
  have HA := Lib.hid (fun c w (hc : c < 256) => ref_Has s c w hs hc)
  have HF : Hid (∀ i, notB s i = !hasT s i) := Lib.hid fun _ => rfl
  obtain ⟨F, hF⟩ : ∃ F, notB s = F := ⟨_, rfl⟩
  rw [hF] at HMK HF ⊢
  have H1 : Hid (Below W.heap.size W (W.alloc (.cells (vb fun _ => false) 4)) ∧ (W.alloc (.cells (vb fun _ => false) 4)).heap[W.heap.size]? = some (.cells (vb fun _ => false) 4)) := Lib.hid ⟨(Below.refl _ _).alloc (Nat.le_refl _) _, heap_alloc_new _ _⟩
  obtain ⟨w1, hw1⟩ : ∃ w1, W.alloc (.cells (vb fun _ => false) 4) = w1 := ⟨_, rfl⟩
  obtain ⟨B, hB⟩ : ∃ B, W.heap.size = B := ⟨_, rfl⟩
  rw [hw1, hB] at H1
  rw [hB] at HMK ⊢
  clear hF hs
  go_enter Tryd.func14, Tryd.ntmps14
  simp only [e0]
  clear e0
  go_wp2_with fail
  try rw [hw1]
  try rw [hB]
  clear hmk hw1
  go_loopg [4] 256 (fun g cv wx => ∃ k : Nat, k + g = 256 ∧ cv = .int .i64 k ∧ Hid (wx.heap[B]? = some (.cells (vb fun i => if i < k then F i else false) 4) ∧ Keep B B w1 wx))
  case atStart => exact ⟨0, by omega, rfl, Lib.hid ⟨by rw [show (vb fun i => if i < 0 then F i else false) = vb fun _ => false from vb_congr fun i _ => if_neg (Nat.not_lt_zero i)]; exact H1.out.2, Keep.refl _ _ _⟩⟩
  case round =>
    obtain ⟨k, hk, rfl, HX⟩ := hrel
    cases gk with
    | zero =>
      obtain rfl : k = 256 := by omega
      have hn : ¬ ((256 : Nat) : Int) < 256 := by omega
      have HV : Hid ((vb fun i => if i < 256 then F i else false) = vb F) := Lib.hid (vb_congr fun i hi => if_pos hi)
      have HB3 : Hid (Below B W wr) := Lib.hid (Keep.under H1.out.1 HX.out.2 (Nat.le_refl _) (Nat.le_refl _) (by have := H1.out.1.size; omega))
      go_wp2_with fail
      refine (HMK.out wr (by rw [HX.out.1, HV.out])).mono ?_
      rintro e w2 ⟨rfl, rfl⟩
      go_wp2_with fail
      go_ret
      exact ⟨rfl, HB3.out⟩
    | succ g =>
      have hn : (k : Int) < 256 := by omega
      have h0 : (0 : Int) ≤ (k : Int) := by omega
      have x0 := blk_cell HX.out.1 k
      rw [vb_get _ (by omega)] at x0
      have z0 := blk_frozen HX.out.1 k
      have hlt := blk_lt HX.out.1
      have HE : Hid (∀ v, v = F k → (wr.setCell ⟨B, k, none⟩ (.bool v)).heap[B]? = some (.cells (vb fun i => if i < k + 1 then F i else false) 4)) := Lib.hid (fun v hv => by
        rw [heap_setCell_at HX.out.1, vb_set]
        rw [vb_congr fun i _ => step_to F false hv i])
      rw [HF.out k] at HE
      have HAK := Lib.hid (fun w => HA.out k w (show k < 256 by omega))
      generalize hasT s k = q at HE HAK
      go_wp2_with fail
      refine (HAK.out _).mono ?_
      rintro e w2 ⟨rfl, rfl⟩
      go_wp2_with fail
      go_roundg g
      case measure => omega
      case rel => exact ⟨k + 1, by omega, by go_num, Lib.hid ⟨HE.out _ rfl, HX.out.2.trans (Keep.setR _ _)⟩⟩
set_option maxRecDepth 100000 in
set_option maxHeartbeats 4000000 in
theorem ref_Count (s : Tx) (W : World) (hs : s.length ≤ 9223372036854775807) :
    Calls Tryd.prog 16 #[.string (mk s)] W fun e w' => e = .returned (.int .i64 (countT s)) ∧ W = w' := by
  have HA := Lib.hid (fun c w (hc : c < 256) => ref_Has s c w hs hc)
  have HC : Hid (countT s = (List.range 256).countP (hasT s)) := Lib.hid rfl
  clear hs
  go_enter Tryd.func16, Tryd.ntmps16
  go_wp2_with fail
  go_loopg [4, 3] 256 (fun g cv nv wx => ∃ k n : Nat, k + g = 256 ∧ cv = .int .i64 k ∧ nv = .int .i64 n ∧ Hid (n = (List.range k).countP (hasT s)) ∧ wx = W)
  case atStart => exact ⟨0, 0, by omega, rfl, rfl, Lib.hid rfl, rfl⟩
  case round =>
    obtain ⟨k, n, hk, rfl, rfl, HN, rfl⟩ := hrel
    have hnb : n ≤ 256 := by have := count_le (hasT s) k; have := HN.out; omega
    cases gk with
    | zero =>
      obtain rfl : k = 256 := by omega
      have hn : ¬ ((256 : Nat) : Int) < 256 := by omega
      go_wp2_with fail
      go_ret
      exact ⟨by rw [HC.out, ← HN.out]; rfl, rfl⟩
    | succ g =>
      have hn : (k : Int) < 256 := by omega
      have h0 : (0 : Int) ≤ (k : Int) := by omega
      have HAK := Lib.hid (fun w => HA.out k w (show k < 256 by omega))
      have HS := Lib.hid (count_step (hasT s) k)
      cases hb : hasT s k
      · rw [hb] at HS HAK
        go_wp2_with fail
        refine (HAK.out _).mono ?_
        rintro e w2 ⟨rfl, rfl⟩
        go_wp2_with fail
        go_roundg g
        case measure => omega
        case rel => exact ⟨k + 1, n, by omega, by go_num, rfl, Lib.hid (by rw [HS.out]; simpa using HN.out), rfl⟩
      · rw [hb] at HS HAK
        go_wp2_with fail
        refine (HAK.out _).mono ?_
        rintro e w2 ⟨rfl, rfl⟩
        go_wp2_with fail
        go_roundg g
        case measure => omega
        case rel => exact ⟨k + 1, n + 1, by omega, by go_num, by go_num, Lib.hid (by rw [HS.out, ← HN.out]; rfl), rfl⟩
end Go.Proofs.YtmjggjccmbiheabDoor
