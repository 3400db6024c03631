/- lives, step by step. -/
import Derived.Test.YtmjggjccmbiheabDoorParse
namespace Go.Proofs.YtmjggjccmbiheabDoor
open Go Go.RowKit Go.Proofs
attribute [local go_sem] mk_list mk_size mk_data

def sx : Tx := [91, 94, 97, 45, 99, 92, 100, 93, 120]
theorem sx_next2 : NextIs sx 2 3 (.agg #[.int .u8 (97 : Nat), .string ⟨#[]⟩]) := fun f R w h => class_next sx 2 (by decide) f R w 97 (by decide) (by decide) (by decide) h
theorem sx_next4 : NextIs sx 4 5 (.agg #[.int .u8 (99 : Nat), .string ⟨#[]⟩]) := fun f R w h => class_next sx 4 (by decide) f R w 99 (by decide) (by decide) (by decide) h
theorem sx_next5 : NextIs sx 5 7 (.agg #[.int .u8 0, .string (mk (tb dB))]) := fun f R w h => class_next_esc sx 5 (by decide) f R w (by decide) (by decide) 100 (by decide) (tb dB) rfl (by decide) h
theorem sx_span3 : SpanIs sx 3 true := fun f R w h => class_span sx 3 (by decide) (by decide) (by decide) f R w (by decide) h
theorem sx_span7 : SpanIs sx 7 false := fun f R w h => class_span_no sx 7 (by decide) (by decide) f R w (by decide) h
theorem sx_item1 : ItemIs sx 2 5 (spanB 97 99) := fun f R w h => class_item_span sx 2 3 5 97 99 sx_next2 sx_span3 sx_next4 (by decide) (by decide) (by decide) f R w h
theorem sx_item2 : ItemIs sx 5 7 (hasT (tb dB)) := fun f R w h => class_item_set sx 5 7 (tb dB) sx_next5 sx_span7 (by intro e; have := congrArg List.length e; rw [tb_len] at this; simp at this) (by rw [tb_len]; decide) f R w h
def finB : Nat → Bool := fun i => !(spanB 97 99 i || dB i)
theorem fin_is : tb (notB (tb fun i => spanB 97 99 i || hasT (tb dB) i)) = tb finB := tb_congr fun i hi => by
  unfold notB finB
  rw [has_tb _ hi, has_tb _ hi]
theorem fin_count : countT (tb finB) = 243 := by
  have h : countT (tb finB) = (List.range 256).countP finB := by
    unfold countT
    exact List.countP_congr fun i hi => by rw [has_tb _ (List.mem_range.1 hi)]
  rw [h]
  decide +kernel
theorem sx_Parse (W : World) : Calls Tryd.prog 23 #[.string (mk sx)] W fun e w' => e = .returned (.tuple #[.string (mk (tb finB)), .int .i64 8, .int .i64 0]) ∧ Below W.heap.size W w' := by
  have h := class_Parse sx (sx.drop 1) 5 7 (spanB 97 99) (hasT (tb dB)) rfl (by decide) sx_item1 sx_item2 (by decide) (by decide) (by decide) (by decide) (by decide) W
  rw [fin_is] at h
  exact h
set_option maxRecDepth 100000 in
set_option maxHeartbeats 4000000 in
theorem class_lives (W : World) : Calls Tryd.prog 17 #[] W fun e w' => e = .returned (.bool true) ∧ Below W.heap.size W w' := by
  have e0 : (⟨#[91, 94, 97, 45, 99, 92, 100, 93, 120]⟩ : ByteArray) = mk sx := rfl
  have HP := Lib.hid sx_Parse
  have HC : Hid (∀ w, Calls Tryd.prog 15 #[.string (mk (tb finB))] w fun e w' => e = .returned (.int .i64 243) ∧ Below w.heap.size w w') := Lib.hid (fun w => by
    have h := class_Count (tb finB) w (by rw [tb_len]; decide)
    rw [fin_count] at h
    exact h)
  have H98 : Hid (∀ w, Calls Tryd.prog 9 #[.string (mk (tb finB)), .int .u8 98] w fun e w' => e = .returned (.bool false) ∧ Below w.heap.size w w') := Lib.hid (fun w => by
    have h := class_Has (tb finB) 98 w (by rw [tb_len]; decide) (by decide)
    rw [has_tb _ (by decide)] at h
    exact h)
  have H120 : Hid (∀ w, Calls Tryd.prog 9 #[.string (mk (tb finB)), .int .u8 120] w fun e w' => e = .returned (.bool true) ∧ Below w.heap.size w w') := Lib.hid (fun w => by
    have h := class_Has (tb finB) 120 w (by rw [tb_len]; decide) (by decide)
    rw [has_tb _ (by decide)] at h
    exact h)
  generalize mk (tb finB) = T at *
  generalize mk sx = S at *
  go_enter Tryd.func17, Tryd.ntmps17
  simp only [e0]
  go_wp2_with fail
  refine (HP.out _).mono ?_
  rintro e w1 ⟨rfl, hb1⟩
  go_wp2_with fail
  refine (HC.out _).mono ?_
  rintro e w2 ⟨rfl, hb2⟩
  go_wp2_with fail
  refine (H98.out _).mono ?_
  rintro e w3 ⟨rfl, hb3⟩
  go_wp2_with fail
  refine (H120.out _).mono ?_
  rintro e w4 ⟨rfl, hb4⟩
  go_wp2_with fail
  go_ret
  exact ⟨rfl, ext_trans (ext_trans (ext_trans hb1 hb2) hb3) hb4⟩
end Go.Proofs.YtmjggjccmbiheabDoor
