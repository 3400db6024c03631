/- A nil tree, step by step. -/
import Derived.Test.YtmjggjccmbiheabTreeCopy
import Derived.Test.YtmjggjccmbiheabTreeRoom
namespace Go.Proofs.Ytmjggjccmbiheab
open Go Go.RowKit Go.Proofs Go.Sort
attribute [local go_sem] mk_list mk_size mk_data field0 field1 field2 field3

theorem tree_Kind_nil (k : Int) (W : World) : Calls Try.prog 13 #[.pointer none, .int .i64 k] W fun e w' => e = .returned (.int .i64 0) ∧ Below W.heap.size W w' := by
  go_enter Try.func13, Try.ntmps13
  go_wp2_with fail
  refine (tree_at_nil k W).mono ?_
  rintro e w1 ⟨rfl, hb⟩
  go_wp2_with fail
  go_ret
  exact ⟨rfl, hb⟩
theorem tree_Data_nil (k : Int) (W : World) : Calls Try.prog 21 #[.pointer none, .int .i64 k] W fun e w' => e = .returned (.string (mk [])) ∧ Below W.heap.size W w' := by
  go_enter Try.func21, Try.ntmps21
  go_wp2_with fail
  refine (tree_at_nil k W).mono ?_
  rintro e w1 ⟨rfl, hb⟩
  go_wp2_with fail
  go_ret
  exact ⟨rfl, hb⟩
theorem tree_Up_nil (k : Int) (W : World) : Calls Try.prog 12 #[.pointer none, .int .i64 k] W fun e w' => e = .returned (.int .i64 0) ∧ Below W.heap.size W w' := by
  go_enter Try.func12, Try.ntmps12
  go_wp2_with fail
  refine (tree_at_nil k W).mono ?_
  rintro e w1 ⟨rfl, hb⟩
  go_wp2_with fail
  go_ret
  exact ⟨rfl, hb⟩
theorem tree_List_nil (k : Int) (W : World) : Calls Try.prog 11 #[.pointer none, .int .i64 k] W fun e w' => (∃ v, e = .returned v ∧ OwnE w' W.heap.size v []) ∧ Below W.heap.size W w' := by
  go_enter Try.func11, Try.ntmps11
  go_wp2_with fail
  refine (tree_at_nil k W).mono ?_
  rintro e w1 ⟨rfl, hb⟩
  have HB := Lib.hid hb
  have HC := Lib.hid (ents_Clone none 0 [] w1 (.inl rfl) (by simp))
  clear hb
  go_wp2_with fail
  refine HC.out.mono ?_
  rintro e w2 ⟨v, rfl, ho, hb2⟩
  have HO := Lib.hid (And.intro ho hb2)
  clear ho hb2
  go_wp2_with fail
  go_ret
  exact ⟨⟨v, rfl, row_mono' HO.out.1 HB.out.size⟩, ext_trans HB.out HO.out.2⟩
theorem tree_Put_nil (d : Int) (s : Tx) (kind : Int) (data : Tx) (W : World) : Calls Try.prog 16 #[.pointer none, .int .i64 d, .string (mk s), .int .i64 kind, .string (mk data)] W fun e w' => e = .returned (.tuple #[.int .i64 0, .int .i64 1]) ∧ Below W.heap.size W w' := by
  go_enter Try.func16, Try.ntmps16
  go_wp2_with fail
  refine (tree_dir_nil d W).mono ?_
  rintro e w1 ⟨rfl, rfl⟩
  go_wp2_with fail
  go_ret2
  exact ⟨rfl, by first | exact Below.refl _ _ | exact below_drewN (Below.refl _ _) 1 | exact below_drewN (Below.refl _ _) 2⟩
theorem tree_Set_nil (n : Int) (data : Tx) (W : World) : Calls Try.prog 19 #[.pointer none, .int .i64 n, .string (mk data)] W fun e w' => e = .returned (.int .i64 1) ∧ Below W.heap.size W w' := by
  go_enter Try.func19, Try.ntmps19
  go_wp2_with fail
  refine (tree_at_nil n W).mono ?_
  rintro e w1 ⟨rfl, hb⟩
  go_wp2_with fail
  go_ret
  exact ⟨rfl, hb.alloc hb.size _⟩
theorem tree_Cut_nil (d : Int) (s : Tx) (W : World) : Calls Try.prog 17 #[.pointer none, .int .i64 d, .string (mk s)] W fun e w' => e = .returned (.int .i64 1) ∧ Below W.heap.size W w' := by
  go_enter Try.func17, Try.ntmps17
  go_wp2_with fail
  refine (tree_dir_nil d W).mono ?_
  rintro e w1 ⟨rfl, rfl⟩
  go_wp2_with fail
  go_ret
  exact ⟨rfl, Below.refl _ _⟩
theorem tree_Copy_nil (W : World) : Calls Try.prog 15 #[.pointer none] W fun e w' => e = .returned (.pointer none) ∧ Below W.heap.size W w' := by
  go_enter Try.func15, Try.ntmps15
  go_wp2_with fail
  go_ret
  exact ⟨rfl, Below.refl _ _⟩
theorem tree_Move_nil (from_ : Int) (s : Tx) (to_ : Int) (as_ : Tx) (W : World) : Calls Try.prog 20 #[.pointer none, .int .i64 from_, .string (mk s), .int .i64 to_, .string (mk as_)] W fun e w' => e = .returned (.int .i64 1) ∧ Below W.heap.size W w' := by
  go_enter Try.func20, Try.ntmps20
  go_wp2_with fail
  have HB0 : Hid (Below W.heap.size W (W.alloc (.cells #[.int .i64 from_, .int .i64 to_] 3))) := Lib.hid ((Below.refl _ _).alloc (Nat.le_refl _) _)
  obtain ⟨W0, hW0⟩ : ∃ W0, W.alloc (.cells #[.int .i64 from_, .int .i64 to_] 3) = W0 := ⟨_, rfl⟩
  have HW0 : Hid (W0.heap[W.heap.size]? = some (.cells #[.int .i64 from_, .int .i64 to_] 3)) := Lib.hid (by rw [← hW0]; exact heap_alloc_new _ _)
  rw [hW0] at HB0 ⊢
  clear hW0
  have c0 := blk_cell HW0.out 0
  have c1 := blk_cell HW0.out 1
  simp only [List.getElem?_toArray, List.getElem?_cons_zero, List.getElem?_cons_succ] at c0 c1
  go_loopg [24] 2 (fun g kv wx => kv = .int .i64 0 ∧ wx = W0)
  case atStart => exact ⟨rfl, rfl⟩
  case round =>
    obtain ⟨rfl, rfl⟩ := hrel
    have hlt := blk_lt HW0.out
    go_wp2_with fail
    refine (tree_dir_nil from_ _).mono ?_
    rintro e w1 ⟨rfl, rfl⟩
    go_wp2_with fail
    go_ret
    exact ⟨rfl, HB0.out⟩
end Go.Proofs.Ytmjggjccmbiheab
