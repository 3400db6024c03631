/- add, step by step. -/
import Derived.Test.YtmjggjccmbiheabDoorBits
namespace Go.Proofs.YtmjggjccmbiheabDoor
open Go Go.RowKit Go.Proofs
attribute [local go_sem] mk_list mk_size mk_data

set_option maxRecDepth 100000 in
set_option maxHeartbeats 2000000 in
theorem class_add (z o : Nat) (pre : List Value) (f : Nat → Bool) (ty : TypeId) (a b : Nat) (W : World) (h : W.heap[z]? = some (.cells (pb pre f) ty)) (ho : pre.length = o) (hb : b < 256) :
    Calls Tryd.prog 18 #[.pointer (some ⟨z, o, none⟩), .int .i64 a, .int .i64 b] W fun e w' => e = .returned (.tuple #[]) ∧ w'.heap[z]? = some (.cells (pb pre fun i => f i || spanB a b i) ty) ∧ Keep z z W w' := by
  have HH := Lib.hid h
  have HO := Lib.hid ho
  clear h ho
  go_enter Tryd.func18, Tryd.ntmps18
  go_wp2_with fail
  go_loopg [6] (b + 1 - a) (fun g cv wx => ∃ c : Nat, c + g = a + (b + 1 - a) ∧ a ≤ c ∧ cv = .int .i64 c ∧ Hid (wx.heap[z]? = some (.cells (pb pre fun i => f i || decide (a ≤ i ∧ i < c)) ty) ∧ Keep z z W wx))
  case atStart => exact ⟨a, by omega, by omega, rfl, Lib.hid ⟨by rw [pb_congr pre (g := f) fun i _ => by rw [decide_eq_false (by omega), Bool.or_false]]; exact HH.out, Keep.refl _ _ _⟩⟩
  case round =>
    obtain ⟨c, hc, hac, rfl, HX⟩ := hrel
    cases gk with
    | zero =>
      have hn : ¬ (c : Int) ≤ (b : Int) := by omega
      go_wp2_with fail
      go_end0
      refine ⟨rfl, ?_, HX.out.2⟩
      rw [HX.out.1]
      congr 2
      refine pb_congr pre fun i _ => ?_
      unfold spanB
      congr 1
      exact decide_eq_decide.2 (by omega)
    | succ g =>
      have hn : (c : Int) ≤ (b : Int) := by omega
      have h256 : (c : Int) < 256 := by omega
      have h0 : (0 : Int) ≤ (c : Int) := by omega
      have x0 := blk_cell HX.out.1 (o + c)
      rw [← HO.out, pb_get pre _ (by omega), HO.out] at x0
      have z0 := blk_frozen HX.out.1 (o + c)
      have hlt := blk_lt HX.out.1
      go_wp2_with fail
      go_roundg g
      case measure => omega
      case rel =>
        refine ⟨c + 1, by omega, by omega, by go_num, Lib.hid ⟨?_, HX.out.2.trans (Keep.setR _ _)⟩⟩
        rw [heap_setCell_at HX.out.1, ← HO.out, pb_set]
        congr 2
        refine pb_congr pre fun i _ => ?_
        unfold updB
        by_cases e : i = c
        · subst e
          rw [if_pos rfl, decide_eq_true (by omega), Bool.or_true]
        · rw [if_neg e]
          dsimp only
          congr 1
          exact decide_eq_decide.2 (by omega)
end Go.Proofs.YtmjggjccmbiheabDoor
