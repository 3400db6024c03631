/- text, step by step. -/
import Derived.Test.YtmjggjccmbiheabDoorAdd
import Derived.Laws.IdiomStrings
import Derived.Laws.MakeOwn
namespace Go.Proofs.YtmjggjccmbiheabDoor
open Go Go.RowKit Go.Proofs
attribute [local go_sem] mk_list mk_size mk_data

theorem info5 : (Tryd.prog.info? 5).map (fun i => (i.zero, i.size, i.bytes)) = some (some (.int .u8 0), 1, 1) := by kernel_rfl
theorem info4 : (Tryd.prog.info? 4).map (fun i => (i.zero, i.size, i.bytes)) = some (some (.bool false), 1, 1) := by kernel_rfl
theorem made5 : madeCells (Value.int .u8 0).cells (256 * 1) = ub fun _ => 0 := by kernel_rfl
theorem made4 : madeCells (Value.bool false).cells (256 * 1) = vb fun _ => false := by kernel_rfl
theorem make256 (w : World) : (Instr.makeSlice 48 (.int .i64 256) (.int .i64 256)).run Tryd.prog w = .ok (.slice (some ⟨w.heap.size, 0, none⟩) 256 256) (w.alloc (.cells (ub fun _ => 0) 5)) := by
  obtain ⟨i, hi, hz⟩ := Option.map_eq_some_iff.1 info5
  simp only [Prod.mk.injEq] at hz
  have h := run_makeSlice (P := Tryd.prog) (w := w) 48 5 i (.int .u8 0) Tryd.underlying48 hi hz.1 .i64 .i64 256 256 (by decide) (by decide) (by rw [hz.2.1]; decide) (by rw [hz.2.2]; decide) (by decide)
  rw [hz.2.1] at h
  rw [h, ← made5]
  rfl
theorem makeB256 (w : World) : (Instr.makeSlice 40 (.int .i64 256) (.int .i64 256)).run Tryd.prog w = .ok (.slice (some ⟨w.heap.size, 0, none⟩) 256 256) (w.alloc (.cells (vb fun _ => false) 4)) := by
  obtain ⟨i, hi, hz⟩ := Option.map_eq_some_iff.1 info4
  simp only [Prod.mk.injEq] at hz
  have h := run_makeSlice (P := Tryd.prog) (w := w) 40 4 i (.bool false) Tryd.underlying40 hi hz.1 .i64 .i64 256 256 (by decide) (by decide) (by rw [hz.2.1]; decide) (by rw [hz.2.2]; decide) (by decide)
  rw [hz.2.1] at h
  rw [h, ← made4]
  rfl
/-- string(out). -/
theorem back256 (w : World) (z : Nat) (g : Nat → UInt8) (hc : w.heap[z]? = some (.cells (ub g) 5)) : (convert 48 9 (.slice (some ⟨z, 0, none⟩) 256 256)).run Tryd.prog w = .ok (.string (mk (tg g))) w := by
  have h := run_convert_bytes_back (P := Tryd.prog) w 48 9 5 ⟨z, 0, none⟩ 256 (tg g) Tryd.underlying48 Tryd.underlying5 Tryd.underlying9 (fun j hj => by
    rw [tg_len] at hj
    rw [show (⟨z, 0, none⟩ : Addr).add j = ⟨z, j, none⟩ from by unfold Addr.add; split <;> simp_all, blk_cell hc, ub_get _ hj]
    simp [tg])
  rw [tg_len] at h
  exact h
set_option maxRecDepth 100000 in
set_option maxHeartbeats 2000000 in
theorem class_text (f : Nat → Bool) (W : World) :
    Calls Tryd.prog 19 #[.agg (vb f)] W fun e w' => e = .returned (.string (mk (tb f))) ∧ Below W.heap.size W w' := by
  have hz := vb_size f
  have hmk := make256
  have e0 : (⟨#[]⟩ : ByteArray) = mk [] := rfl
  go_enter Tryd.func19, Tryd.ntmps19
  simp only [e0]
  clear e0
  go_wp2_with fail
  obtain ⟨B, hB⟩ : ∃ B, W.heap.size = B := ⟨_, rfl⟩
  obtain ⟨w1, hw1⟩ : ∃ w1, (W.alloc (.cells (vb f) 37)).alloc (.cells (ub fun _ => 0) 5) = w1 := ⟨_, rfl⟩
  have H1 : Hid (Below B W w1 ∧ w1.heap[B]? = some (.cells (vb f) 37) ∧ w1.heap[B + 1]? = some (.cells (ub fun _ => 0) 5)) := Lib.hid (by
    rw [← hw1, ← hB]
    have h2 := heap_alloc_new (W.alloc (.cells (vb f) 37)) (.cells (ub fun _ => 0) 5)
    rw [World.size_alloc] at h2
    exact ⟨((Below.refl _ _).alloc (Nat.le_refl _) _).alloc (by simp) _, heap_stay (heap_alloc_new _ _) _, h2⟩)
  try rw [hB]
  try rw [hw1]
  clear hw1 hz hmk
  go_loopg [6] 256 (fun g cv wx => ∃ k : Nat, k + g = 256 ∧ cv = .int .i64 k ∧ Hid (Keep (B + 1) (B + 1) w1 wx ∧ wx.heap[B + 1]? = some (.cells (ub fun i => if i < k then (if f i then 49 else 48) else 0) 5)))
  case atStart => exact ⟨0, by omega, rfl, Lib.hid ⟨Keep.refl _ _ _, by rw [ub_congr (g := fun _ => 0) fun i _ => by simp]; exact H1.out.2.2⟩⟩
  case round =>
    obtain ⟨k, hk, rfl, HX⟩ := hrel
    cases gk with
    | zero =>
      obtain rfl : k = 256 := by omega
      have hn : ¬ ((256 : Nat) : Int) < 256 := by omega
      have hb := back256 wr (B + 1) _ HX.out.2
      go_wp2_with fail
      go_ret
      refine ⟨ret_str (congrArg mk ?_), Keep.under H1.out.1 HX.out.1 (Nat.le_succ _) (Nat.le_succ _) (by have := H1.out.1.size; omega)⟩
      rw [tb_tg]
      exact tg_congr fun i hi => if_pos hi
    | succ g =>
      have hn : (k : Int) < 256 := by omega
      have h0 : (0 : Int) ≤ (k : Int) := by omega
      have x0 := blk_cell HX.out.2 k
      rw [ub_get _ (by omega)] at x0
      have z0 := blk_frozen HX.out.2 k
      have hlt := blk_lt HX.out.2
      have y0 := blk_cell ((HX.out.1.block B (blk_lt H1.out.2.1) (by omega) (by omega)).trans H1.out.2.1) k
      unfold vb at y0
      have hpg := pb_get [] f (k := k) (by omega)
      rw [List.length_nil, Nat.zero_add] at hpg
      rw [hpg] at y0
      clear hpg
      have hBB : ¬ B + 1 = B := by omega
      cases hf : f k
      · rw [hf] at y0
        go_wp2_with fail
        go_roundg g
        case measure => omega
        case rel =>
          refine ⟨k + 1, by omega, by go_num, Lib.hid ⟨HX.out.1.trans (Keep.setR _ _), ?_⟩⟩
          rw [heap_setCell_at HX.out.2, show (Value.int IntKind.u8 48) = .int .u8 ((48 : UInt8).toNat : Int) from rfl, ub_set]
          rw [ub_congr fun i _ => step_to (fun i => if f i then 49 else 48) 0 (by simp only [hf]; rfl) i]
      · rw [hf] at y0
        go_wp2_with fail
        go_roundg g
        case measure => omega
        case rel =>
          refine ⟨k + 1, by omega, by go_num, Lib.hid ⟨(HX.out.1.trans (Keep.setR _ _)).trans (Keep.setR _ _), ?_⟩⟩
          rw [heap_setCell_at (heap_setCell_at HX.out.2 k _), show (Value.int IntKind.u8 48) = .int .u8 ((48 : UInt8).toNat : Int) from rfl, show (Value.int IntKind.u8 49) = .int .u8 ((49 : UInt8).toNat : Int) from rfl, ub_set, ub_set]
          rw [ub_congr fun i _ => step_to2 (fun i => if f i then 49 else 48) 0 (by simp only [hf]; rfl) i]
end Go.Proofs.YtmjggjccmbiheabDoor
