/- The law TreeNone, step by step. -/
import Derived.Test.YtmjggjccmbiheabTreeNil
import Derived.Test.YtmjggjccmbiheabTreeLives
import Derived.Test.YtmjggjccmbiheabRowActs
namespace Go.Proofs.Ytmjggjccmbiheab
open Go Go.RowKit Go.Proofs Go.Sort
attribute [local go_sem] mk_list mk_size mk_data

set_option maxRecDepth 100000 in
set_option maxHeartbeats 8000000 in
theorem tree_none (dO dI tO : Int) (nM aS : Tx) (kD : Int) (dA : Tx) (W : World) : Calls Try.prog 5 #[.agg #[.int .i64 dO, .int .i64 dI, .int .i64 tO, .string (mk nM), .string (mk aS), .int .i64 kD, .string (mk dA)]] W fun e w' => e = .returned (.bool true) ∧ Below W.heap.size W w' := by
  have e0 : (⟨#[]⟩ : ByteArray) = mk [] := rfl
  obtain ⟨W0, hW0⟩ : ∃ W0, W.alloc (.cells #[.int .i64 dO, .int .i64 dI, .int .i64 tO, .string (mk nM), .string (mk aS), .int .i64 kD, .string (mk dA)] 34) = W0 := ⟨_, rfl⟩
  have HB : Hid (Below W.heap.size W W0) := Lib.hid (by rw [← hW0]; exact (Below.refl _ _).alloc (Nat.le_refl _) _)
  have HX : Hid (W0.heap[W.heap.size]? = some (.cells #[.int .i64 dO, .int .i64 dI, .int .i64 tO, .string (mk nM), .string (mk aS), .int .i64 kD, .string (mk dA)] 34)) := Lib.hid (by rw [← hW0]; exact heap_alloc_new _ _)
  have H0 := Lib.hid (And.intro HB.out HX.out)
  have x0 := blk_cell H0.out.2 0
  have x1 := blk_cell H0.out.2 1
  have x2 := blk_cell H0.out.2 2
  have x3 := blk_cell H0.out.2 3
  have x4 := blk_cell H0.out.2 4
  have x5 := blk_cell H0.out.2 5
  have x6 := blk_cell H0.out.2 6
  have hlt := blk_lt H0.out.2
  simp only [List.getElem?_toArray, List.getElem?_cons_zero, List.getElem?_cons_succ] at x0 x1 x2 x3 x4 x5 x6
  go_enter Try.func5, Try.ntmps5
  go_wp2_with fail
  try rw [hW0]
  clear hW0
  refine (tree_Put_nil dI nM kD dA _).mono ?_
  rintro e w1 ⟨rfl, hb⟩
  have H1 := Lib.hid (And.intro (ext_trans H0.out.1 hb) ((hb.block _ (blk_lt H0.out.2)).trans H0.out.2))
  clear hb x0 x1 x2 x3 x4 x5 x6 hlt
  have x0 := blk_cell H1.out.2 0
  have x1 := blk_cell H1.out.2 1
  have x2 := blk_cell H1.out.2 2
  have x3 := blk_cell H1.out.2 3
  have x4 := blk_cell H1.out.2 4
  have x5 := blk_cell H1.out.2 5
  have x6 := blk_cell H1.out.2 6
  have hlt := blk_lt H1.out.2
  simp only [List.getElem?_toArray, List.getElem?_cons_zero, List.getElem?_cons_succ] at x0 x1 x2 x3 x4 x5 x6
  go_wp2_with fail
  refine (tree_Set_nil dI dA _).mono ?_
  rintro e w2 ⟨rfl, hb⟩
  have H2 := Lib.hid (And.intro (ext_trans H1.out.1 hb) ((hb.block _ (blk_lt H1.out.2)).trans H1.out.2))
  clear hb x0 x1 x2 x3 x4 x5 x6 hlt
  have x0 := blk_cell H2.out.2 0
  have x1 := blk_cell H2.out.2 1
  have x2 := blk_cell H2.out.2 2
  have x3 := blk_cell H2.out.2 3
  have x4 := blk_cell H2.out.2 4
  have x5 := blk_cell H2.out.2 5
  have x6 := blk_cell H2.out.2 6
  have hlt := blk_lt H2.out.2
  simp only [List.getElem?_toArray, List.getElem?_cons_zero, List.getElem?_cons_succ] at x0 x1 x2 x3 x4 x5 x6
  go_wp2_with fail
  refine (tree_Cut_nil dI nM _).mono ?_
  rintro e w3 ⟨rfl, hb⟩
  have H3 := Lib.hid (And.intro (ext_trans H2.out.1 hb) ((hb.block _ (blk_lt H2.out.2)).trans H2.out.2))
  clear hb x0 x1 x2 x3 x4 x5 x6 hlt
  have x0 := blk_cell H3.out.2 0
  have x1 := blk_cell H3.out.2 1
  have x2 := blk_cell H3.out.2 2
  have x3 := blk_cell H3.out.2 3
  have x4 := blk_cell H3.out.2 4
  have x5 := blk_cell H3.out.2 5
  have x6 := blk_cell H3.out.2 6
  have hlt := blk_lt H3.out.2
  simp only [List.getElem?_toArray, List.getElem?_cons_zero, List.getElem?_cons_succ] at x0 x1 x2 x3 x4 x5 x6
  go_wp2_with fail
  refine (tree_Move_nil dI nM tO aS _).mono ?_
  rintro e w4 ⟨rfl, hb⟩
  have H4 := Lib.hid (And.intro (ext_trans H3.out.1 hb) ((hb.block _ (blk_lt H3.out.2)).trans H3.out.2))
  clear hb x0 x1 x2 x3 x4 x5 x6 hlt
  have x0 := blk_cell H4.out.2 0
  have x1 := blk_cell H4.out.2 1
  have x2 := blk_cell H4.out.2 2
  have x3 := blk_cell H4.out.2 3
  have x4 := blk_cell H4.out.2 4
  have x5 := blk_cell H4.out.2 5
  have x6 := blk_cell H4.out.2 6
  have hlt := blk_lt H4.out.2
  simp only [List.getElem?_toArray, List.getElem?_cons_zero, List.getElem?_cons_succ] at x0 x1 x2 x3 x4 x5 x6
  go_wp2_with fail
  refine (tree_Kind_nil dI _).mono ?_
  rintro e w5 ⟨rfl, hb⟩
  have H5 := Lib.hid (And.intro (ext_trans H4.out.1 hb) ((hb.block _ (blk_lt H4.out.2)).trans H4.out.2))
  clear hb x0 x1 x2 x3 x4 x5 x6 hlt
  have x0 := blk_cell H5.out.2 0
  have x1 := blk_cell H5.out.2 1
  have x2 := blk_cell H5.out.2 2
  have x3 := blk_cell H5.out.2 3
  have x4 := blk_cell H5.out.2 4
  have x5 := blk_cell H5.out.2 5
  have x6 := blk_cell H5.out.2 6
  have hlt := blk_lt H5.out.2
  simp only [List.getElem?_toArray, List.getElem?_cons_zero, List.getElem?_cons_succ] at x0 x1 x2 x3 x4 x5 x6
  go_wp2_with fail
  refine (tree_Data_nil dI _).mono ?_
  rintro e w6 ⟨rfl, hb⟩
  have H6 := Lib.hid (And.intro (ext_trans H5.out.1 hb) ((hb.block _ (blk_lt H5.out.2)).trans H5.out.2))
  clear hb x0 x1 x2 x3 x4 x5 x6 hlt
  have x0 := blk_cell H6.out.2 0
  have x1 := blk_cell H6.out.2 1
  have x2 := blk_cell H6.out.2 2
  have x3 := blk_cell H6.out.2 3
  have x4 := blk_cell H6.out.2 4
  have x5 := blk_cell H6.out.2 5
  have x6 := blk_cell H6.out.2 6
  have hlt := blk_lt H6.out.2
  simp only [List.getElem?_toArray, List.getElem?_cons_zero, List.getElem?_cons_succ] at x0 x1 x2 x3 x4 x5 x6
  go_wp2_with fail
  refine (tree_List_nil dI _).mono ?_
  rintro e w7 ⟨⟨v, rfl, ho⟩, hb⟩
  obtain ⟨Al, cl, rfl, _, _⟩ := ho.at
  clear ho
  have H7 := Lib.hid (And.intro (ext_trans H6.out.1 hb) ((hb.block _ (blk_lt H6.out.2)).trans H6.out.2))
  clear hb x0 x1 x2 x3 x4 x5 x6 hlt
  have x0 := blk_cell H7.out.2 0
  have x1 := blk_cell H7.out.2 1
  have x2 := blk_cell H7.out.2 2
  have x3 := blk_cell H7.out.2 3
  have x4 := blk_cell H7.out.2 4
  have x5 := blk_cell H7.out.2 5
  have x6 := blk_cell H7.out.2 6
  have hlt := blk_lt H7.out.2
  simp only [List.getElem?_toArray, List.getElem?_cons_zero, List.getElem?_cons_succ] at x0 x1 x2 x3 x4 x5 x6
  go_wp2_with fail
  refine (tree_Up_nil dI _).mono ?_
  rintro e w8 ⟨rfl, hb⟩
  have H8 := Lib.hid (And.intro (ext_trans H7.out.1 hb) ((hb.block _ (blk_lt H7.out.2)).trans H7.out.2))
  clear hb x0 x1 x2 x3 x4 x5 x6 hlt
  have x0 := blk_cell H8.out.2 0
  have x1 := blk_cell H8.out.2 1
  have x2 := blk_cell H8.out.2 2
  have x3 := blk_cell H8.out.2 3
  have x4 := blk_cell H8.out.2 4
  have x5 := blk_cell H8.out.2 5
  have x6 := blk_cell H8.out.2 6
  have hlt := blk_lt H8.out.2
  simp only [List.getElem?_toArray, List.getElem?_cons_zero, List.getElem?_cons_succ] at x0 x1 x2 x3 x4 x5 x6
  go_wp2_with fail
  refine (tree_Len_nil _).mono ?_
  rintro e wl ⟨rfl, rfl⟩
  go_wp2_with fail
  refine (tree_Copy_nil _).mono ?_
  rintro e w9 ⟨rfl, hb⟩
  have H9 := Lib.hid (And.intro (ext_trans H8.out.1 hb) ((hb.block _ (blk_lt H8.out.2)).trans H8.out.2))
  clear hb x0 x1 x2 x3 x4 x5 x6 hlt
  have x0 := blk_cell H9.out.2 0
  have x1 := blk_cell H9.out.2 1
  have x2 := blk_cell H9.out.2 2
  have x3 := blk_cell H9.out.2 3
  have x4 := blk_cell H9.out.2 4
  have x5 := blk_cell H9.out.2 5
  have x6 := blk_cell H9.out.2 6
  have hlt := blk_lt H9.out.2
  simp only [List.getElem?_toArray, List.getElem?_cons_zero, List.getElem?_cons_succ] at x0 x1 x2 x3 x4 x5 x6
  go_wp2_with fail
  refine (tree_lives _).mono ?_
  rintro e w10 ⟨rfl, hb⟩
  have H10 := Lib.hid (And.intro (ext_trans H9.out.1 hb) ((hb.block _ (blk_lt H9.out.2)).trans H9.out.2))
  clear hb x0 x1 x2 x3 x4 x5 x6 hlt
  have x0 := blk_cell H10.out.2 0
  have x1 := blk_cell H10.out.2 1
  have x2 := blk_cell H10.out.2 2
  have x3 := blk_cell H10.out.2 3
  have x4 := blk_cell H10.out.2 4
  have x5 := blk_cell H10.out.2 5
  have x6 := blk_cell H10.out.2 6
  have hlt := blk_lt H10.out.2
  simp only [List.getElem?_toArray, List.getElem?_cons_zero, List.getElem?_cons_succ] at x0 x1 x2 x3 x4 x5 x6
  go_wp2_with fail
  go_ret
  exact ⟨rfl, H10.out.1⟩
theorem tree_none_act (x : ActT) (W : World) : Calls Try.prog 5 #[.agg (actC x).toArray] W fun e w' => e = .returned (.bool true) ∧ Below W.heap.size W w' := tree_none x.dO x.dir x.to_ x.name x.as_ x.kind x.data W
end Go.Proofs.Ytmjggjccmbiheab
