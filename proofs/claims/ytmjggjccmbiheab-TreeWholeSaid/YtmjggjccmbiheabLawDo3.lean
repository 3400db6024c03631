/- The law's do at Move, step by step. -/
import Derived.Test.YtmjggjccmbiheabLawDo2
namespace Go.Proofs.Ytmjggjccmbiheab
open Go Go.RowKit Go.Proofs Go.Sort
attribute [local go_sem] mk_list mk_size mk_data nfield0 nfield1 nfield3

set_option maxRecDepth 100000 in
set_option maxHeartbeats 4000000 in
theorem law_do3 (t b : Nat) (A : Option Addr) (c : Nat) (L : List NodeT) (last : Int) (x : ActT) (W : World) (hT : TreeAt W t b (relS L last)) (hN : NodesAt W A L) (hW : WF L last) (hL : L.length ≤ 100) (hla : last ≤ 100) (hx : ActOk x) (h0 : x.dO = 3) :
    Calls Try.prog 10 #[.pointer (some ⟨t, 0, none⟩), .agg #[.slice A L.length c, .int .i64 last], .agg (actC x).toArray] W (DoTo t b L last W) := by
  have h1 : 1 ≤ last := by obtain ⟨y, hy, e⟩ := root_in hW; have := hW.nums y hy; omega
  have hpos : 0 < L.length := by obtain ⟨y, hy, _⟩ := root_in hW; exact List.length_pos_of_mem hy
  have HLT := Lib.hid hT.lt
  have HT := Lib.hid hT
  have HN := Lib.hid hN
  obtain ⟨rk, hr⟩ := hW.rank
  have HP := Lib.hid (fun w (h : TreeAt w t b (relS L last)) => tree_Move t b (relS L last) x.dir x.name x.to_ x.as_ w h (small_rel hW (by omega) (by omega)) hx.dir hx.to_ hx.as_ rk (inL L) (ranked_S hW (by omega) hr) (fun e => dir_in (by rw [← dir_rel hW]; exact e)))
  have HQ := Lib.hid (fun w (h : NodesAt w A L) => ref_Move A c L last x.dir x.name x.to_ x.as_ w h (by omega) hx.as_ (root_in hW) rk (inL L) (ranked_R hW hr) (fun e => dir_in e))
  have HPR := Lib.hid (move_rel hW hr x.dir x.name x.to_ x.as_)
  have HLE := Lib.hid HPR.out.2.2
  rw [HPR.out.1] at HP
  obtain ⟨P, hP⟩ : ∃ P, moveR L (rk x.to_) x.dir x.name x.to_ x.as_ = P := ⟨_, rfl⟩
  rw [hP] at HP HQ HPR HLE
  obtain ⟨L2, e2⟩ := P
  obtain ⟨m, hm⟩ : ∃ m, L.length = m := ⟨_, rfl⟩
  have HM := Lib.hid hm
  rw [hm] at HQ ⊢
  obtain ⟨dO, dI, tO, nM, aS, kD, dA⟩ := x
  simp only at HP HQ HPR HLE h0
  subst h0
  unfold actC
  simp only
  obtain ⟨W0, hW0⟩ : ∃ W0, ((W.alloc (.cells #[.slice A m c, .int .i64 last] 29)).alloc (.cells #[.int .i64 3, .int .i64 dI, .int .i64 tO, .string (mk nM), .string (mk aS), .int .i64 kD, .string (mk dA)] 34)).alloc (.cells #[.slice none 0 0, .int .i64 0] 29) = W0 := ⟨_, rfl⟩
  have HBX : Hid (Box3 W W0 t b (.slice A m c, .int .i64 last) (.slice none 0 0, .int .i64 0) ⟨3, dI, tO, nM, aS, kD, dA⟩) := Lib.hid (by rw [← hW0]; exact Box3.new W (.slice A m c, .int .i64 last) (.slice none 0 0, .int .i64 0) ⟨3, dI, tO, nM, aS, kD, dA⟩)
  have HW0 : Hid (Below W.heap.size W W0) := Lib.hid (by rw [← hW0]; exact (three_new W _ _ _).1)
  have a0 := blk_cell HBX.out.2.1 0
  have a1 := blk_cell HBX.out.2.1 1
  have hla := blk_lt HBX.out.2.1
  have b0 := blk_cell HBX.out.2.2.1 0
  have b1 := blk_cell HBX.out.2.2.1 1
  have b2 := blk_cell HBX.out.2.2.1 2
  have b3 := blk_cell HBX.out.2.2.1 3
  have b4 := blk_cell HBX.out.2.2.1 4
  have b5 := blk_cell HBX.out.2.2.1 5
  have b6 := blk_cell HBX.out.2.2.1 6
  have hlb := blk_lt HBX.out.2.2.1
  have c0 := blk_cell HBX.out.2.2.2 0
  have zc0 := blk_frozen HBX.out.2.2.2 0
  have c1 := blk_cell HBX.out.2.2.2 1
  have zc1 := blk_frozen HBX.out.2.2.2 1
  have hlc := blk_lt HBX.out.2.2.2
  simp only [List.getElem?_toArray, List.getElem?_cons_zero, List.getElem?_cons_succ, actC] at a0 a1 b0 b1 b2 b3 b4 b5 b6 c0 c1
  clear hP hm hT hN hW hL hla hx h1 hpos hr
  go_enter Try.func10, Try.ntmps10
  go_wp2_with fail
  try rw [hW0]
  clear hW0
  refine (HQ.out W0 (HN.out.below HW0.out)).mono ?_
  rintro e w1 ⟨⟨A2, c2, rfl, hN2⟩, hb2⟩
  have HB2 := Lib.hid (HBX.out.below hb2)
  have HN2 := Lib.hid hN2
  have HT2 := Lib.hid ((HT.out.below HW0.out).below hb2)
  simp only
  clear a0 a1 hla b0 b1 b2 b3 b4 b5 b6 hlb c0 zc0 c1 zc1 hlc
  have a0 := blk_cell HB2.out.2.1 0
  have a1 := blk_cell HB2.out.2.1 1
  have hla := blk_lt HB2.out.2.1
  have b0 := blk_cell HB2.out.2.2.1 0
  have b1 := blk_cell HB2.out.2.2.1 1
  have b2 := blk_cell HB2.out.2.2.1 2
  have b3 := blk_cell HB2.out.2.2.1 3
  have b4 := blk_cell HB2.out.2.2.1 4
  have b5 := blk_cell HB2.out.2.2.1 5
  have b6 := blk_cell HB2.out.2.2.1 6
  have hlb := blk_lt HB2.out.2.2.1
  have c0 := blk_cell HB2.out.2.2.2 0
  have zc0 := blk_frozen HB2.out.2.2.2 0
  have c1 := blk_cell HB2.out.2.2.2 1
  have zc1 := blk_frozen HB2.out.2.2.2 1
  have hlc := blk_lt HB2.out.2.2.2
  simp only [List.getElem?_toArray, List.getElem?_cons_zero, List.getElem?_cons_succ, actC] at a0 a1 b0 b1 b2 b3 b4 b5 b6 c0 c1
  clear hN2 hb2
  obtain ⟨w2, hw2⟩ : ∃ w2, w1.alloc (.cells #[.slice A2 L2.length c2, .int .i64 last] 29) = w2 := ⟨_, rfl⟩
  have HX : Hid (Below w1.heap.size w1 w2 ∧ w2.heap[w1.heap.size]? = some (.cells #[.slice A2 L2.length c2, .int .i64 last] 29)) := Lib.hid (by rw [← hw2]; exact ⟨(Below.refl _ _).alloc (Nat.le_refl _) _, heap_alloc_new _ _⟩)
  have HB3 := Lib.hid (HB2.out.below HX.out.1)
  obtain ⟨X, hX⟩ : ∃ X, w1.heap.size = X := ⟨_, rfl⟩
  have HXW : Hid (W.heap.size + 1 + 1 < X) := Lib.hid (by rw [← hX]; exact hlc)
  have HT3 := Lib.hid (HT2.out.below HX.out.1)
  have HN3 := Lib.hid (HN2.out.below HX.out.1)
  rw [hX] at HX
  go_wp2_with fail
  try rw [hw2]
  try rw [hX]
  clear hw2 hX
  clear a0 a1 hla b0 b1 b2 b3 b4 b5 b6 hlb c0 zc0 c1 zc1 hlc
  have a0 := blk_cell HB3.out.2.1 0
  have a1 := blk_cell HB3.out.2.1 1
  have hla := blk_lt HB3.out.2.1
  have b0 := blk_cell HB3.out.2.2.1 0
  have b1 := blk_cell HB3.out.2.2.1 1
  have b2 := blk_cell HB3.out.2.2.1 2
  have b3 := blk_cell HB3.out.2.2.1 3
  have b4 := blk_cell HB3.out.2.2.1 4
  have b5 := blk_cell HB3.out.2.2.1 5
  have b6 := blk_cell HB3.out.2.2.1 6
  have hlb := blk_lt HB3.out.2.2.1
  have c0 := blk_cell HB3.out.2.2.2 0
  have zc0 := blk_frozen HB3.out.2.2.2 0
  have c1 := blk_cell HB3.out.2.2.2 1
  have zc1 := blk_frozen HB3.out.2.2.2 1
  have hlc := blk_lt HB3.out.2.2.2
  simp only [List.getElem?_toArray, List.getElem?_cons_zero, List.getElem?_cons_succ, actC] at a0 a1 b0 b1 b2 b3 b4 b5 b6 c0 c1
  have x0 := blk_cell HX.out.2 0
  have x1 := blk_cell HX.out.2 1
  have hlx := blk_lt HX.out.2
  simp only [List.getElem?_toArray, List.getElem?_cons_zero, List.getElem?_cons_succ] at x0 x1
  have HKE : Hid (∀ w w' : World, Keep t b w w' → w2.heap.size ≤ w.heap.size → (fun w' : World => w'.cell? ⟨X, 0, none⟩ = some (.slice A2 L2.length c2) ∧ w'.cell? ⟨X, 1, none⟩ = some (.int .i64 last) ∧ w'.cell? ⟨W.heap.size + 1, 1, none⟩ = some (.int .i64 dI) ∧ w'.cell? ⟨W.heap.size + 1, 2, none⟩ = some (.int .i64 tO) ∧ w'.cell? ⟨W.heap.size + 1, 3, none⟩ = some (.string (mk nM)) ∧ w'.cell? ⟨W.heap.size + 1, 4, none⟩ = some (.string (mk aS))) w → (fun w' : World => w'.cell? ⟨X, 0, none⟩ = some (.slice A2 L2.length c2) ∧ w'.cell? ⟨X, 1, none⟩ = some (.int .i64 last) ∧ w'.cell? ⟨W.heap.size + 1, 1, none⟩ = some (.int .i64 dI) ∧ w'.cell? ⟨W.heap.size + 1, 2, none⟩ = some (.int .i64 tO) ∧ w'.cell? ⟨W.heap.size + 1, 3, none⟩ = some (.string (mk nM)) ∧ w'.cell? ⟨W.heap.size + 1, 4, none⟩ = some (.string (mk aS))) w') := Lib.hid (by
    intro w w' k hs h
    exact ⟨cell_keep k (h.1) (Nat.lt_of_lt_of_le hlx hs) (by have := HLT.out; have := HXW.out; omega) (by have := HLT.out; have := HXW.out; omega), cell_keep k (h.2.1) (Nat.lt_of_lt_of_le hlx hs) (by have := HLT.out; have := HXW.out; omega) (by have := HLT.out; have := HXW.out; omega), cell_keep k (h.2.2.1) (Nat.lt_of_lt_of_le hlb hs) (by have := HLT.out; have := HXW.out; omega) (by have := HLT.out; have := HXW.out; omega), cell_keep k (h.2.2.2.1) (Nat.lt_of_lt_of_le hlb hs) (by have := HLT.out; have := HXW.out; omega) (by have := HLT.out; have := HXW.out; omega), cell_keep k (h.2.2.2.2.1) (Nat.lt_of_lt_of_le hlb hs) (by have := HLT.out; have := HXW.out; omega) (by have := HLT.out; have := HXW.out; omega), cell_keep k (h.2.2.2.2.2) (Nat.lt_of_lt_of_le hlb hs) (by have := HLT.out; have := HXW.out; omega) (by have := HLT.out; have := HXW.out; omega)⟩)
  have HFA : Hid (∀ (w : World) (u v : Value), (fun w' : World => w'.cell? ⟨X, 0, none⟩ = some (.slice A2 L2.length c2) ∧ w'.cell? ⟨X, 1, none⟩ = some (.int .i64 last) ∧ w'.cell? ⟨W.heap.size + 1, 1, none⟩ = some (.int .i64 dI) ∧ w'.cell? ⟨W.heap.size + 1, 2, none⟩ = some (.int .i64 tO) ∧ w'.cell? ⟨W.heap.size + 1, 3, none⟩ = some (.string (mk nM)) ∧ w'.cell? ⟨W.heap.size + 1, 4, none⟩ = some (.string (mk aS))) w → (fun w' : World => w'.cell? ⟨X, 0, none⟩ = some (.slice A2 L2.length c2) ∧ w'.cell? ⟨X, 1, none⟩ = some (.int .i64 last) ∧ w'.cell? ⟨W.heap.size + 1, 1, none⟩ = some (.int .i64 dI) ∧ w'.cell? ⟨W.heap.size + 1, 2, none⟩ = some (.int .i64 tO) ∧ w'.cell? ⟨W.heap.size + 1, 3, none⟩ = some (.string (mk nM)) ∧ w'.cell? ⟨W.heap.size + 1, 4, none⟩ = some (.string (mk aS))) ((w.setCell ⟨W.heap.size + 1 + 1, 0, none⟩ u).setCell ⟨W.heap.size + 1 + 1, 1, none⟩ v)) := Lib.hid (by
    intro w u v h
    exact ⟨cell_far3 _ _ (h.1) (by have := HXW.out; omega), cell_far3 _ _ (h.2.1) (by have := HXW.out; omega), cell_far3 _ _ (h.2.2.1) (by have := HXW.out; omega), cell_far3 _ _ (h.2.2.2.1) (by have := HXW.out; omega), cell_far3 _ _ (h.2.2.2.2.1) (by have := HXW.out; omega), cell_far3 _ _ (h.2.2.2.2.2) (by have := HXW.out; omega)⟩)
  go_region_held3 (fun w' => w'.cell? ⟨X, 0, none⟩ = some (.slice A2 L2.length c2) ∧ w'.cell? ⟨X, 1, none⟩ = some (.int .i64 last) ∧ w'.cell? ⟨W.heap.size + 1, 1, none⟩ = some (.int .i64 dI) ∧ w'.cell? ⟨W.heap.size + 1, 2, none⟩ = some (.int .i64 tO) ∧ w'.cell? ⟨W.heap.size + 1, 3, none⟩ = some (.string (mk nM)) ∧ w'.cell? ⟨W.heap.size + 1, 4, none⟩ = some (.string (mk aS))) (first | exact ⟨x0, x1, b1, b2, b3, b4⟩ | exact HKE.out _ _ (by assumption) (Nat.le_refl _) ⟨x0, x1, b1, b2, b3, b4⟩ | exact HFA.out _ _ _ (by assumption) | go_keep)
    (first | (go_at_call 20; refine (HP.out _ (HT3.out.below (below_drewN (Below.refl _ _) 1))).mono ?_; rintro e w3 ⟨rfl, hT4, hK4⟩; have hK5 : Keep t b w2 w3 := (Keep.below (below_drewN (Below.refl _ _) 1)).trans hK4; clear hK4; have HB4 := Lib.hid (HB3.out.keep HLT.out hK5); have y0 := blk_cell HB4.out.2.2.2 0; have y1 := blk_cell HB4.out.2.2.2 1; have zy0 := blk_frozen HB4.out.2.2.2 0; have zy1 := blk_frozen HB4.out.2.2.2 1; have hly := blk_lt HB4.out.2.2.2; simp only [List.getElem?_toArray, List.getElem?_cons_zero, List.getElem?_cons_succ] at y0 y1))
  have HD := Lib.hid (do_done HB4.out HLT.out (hN := (HN3.out.turn HT3.out hK5)) (hT := hT4) (.slice A2 L2.length c2) (.int .i64 last))
  have d0 := cell_set0 HB4.out.2.2.2 (.slice A2 L2.length c2) (.int .i64 last)
  clear zc0 zc1 hlc c0 c1
  obtain ⟨w4, hw4⟩ : ∃ w4, (w3.setCell ⟨W.heap.size + 1 + 1, 0, none⟩ (.slice A2 L2.length c2)).setCell ⟨W.heap.size + 1 + 1, 1, none⟩ (.int .i64 last) = w4 := ⟨_, rfl⟩
  rw [hw4] at HD d0 ⊢
  obtain ⟨d0, d1⟩ := d0
  rename_i hH
  clear hw4 hH y0 y1 zy0 zy1 hly x0 x1 hlx hla hlb a0 a1 b0 b1 b2 b3 b4 b5 b6
  go_wp2_with fail
  refine bodyPost_ret (v := .tuple #[.agg #[.slice A2 L2.length c2, .int .i64 last], .bool true]) ?_ rfl ?_
  · rw [results_cell_tmp rfl]
    go_simp
  · exact ⟨⟨L2, last, A2, c2, rfl, HD.out.1, HD.out.2.1, HPR.out.2.1, by have := HLE.out; omega, by omega⟩, HD.out.2.2⟩
end Go.Proofs.Ytmjggjccmbiheab
