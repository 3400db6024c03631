/- The reference's Set and Cut, step by step. -/
import Derived.Test.YtmjggjccmbiheabRefWith
namespace Go.Proofs.Ytmjggjccmbiheab
open Go Go.RowKit Go.Proofs Go.Sort
attribute [local go_sem] mk_list mk_size mk_data nfield0 nfield1 nfield3

theorem NodesAt.far {W W' : World} {A : Option Addr} {L : List NodeT} {R : Nat} {u v : Value} {ty : TypeId} {fr : Nat × Nat} (h : NodesAt W A L) (hR : W.heap[R]? = some (.cells #[u, v] ty fr)) (k : Keep R R W W') : NodesAt W' A L := by
  rcases h with h | ⟨b, off, e, hlt, hc⟩
  · exact .inl h
  · cases L with
    | nil => exact .inl rfl
    | cons x l =>
      have hb : b ≠ R := by
        rintro rfl
        have h2 := hc 0 (by simp) 2 (.string (mk x.name)) rfl
        rw [blk_cell hR] at h2
        simp at h2
      exact .inr ⟨b, off, e, Nat.lt_of_lt_of_le hlt k.size, fun j hj i w hw => (k.cell hlt hb hb).trans (hc j hj i w hw)⟩
def RTo (L : List NodeT) (last e : Int) (W : World) (en : Ending) (w' : World) : Prop := (∃ A c, en = .returned (.tuple #[.agg #[.slice A L.length c, .int .i64 last], .int .i64 e]) ∧ NodesAt w' A L) ∧ Below W.heap.size W w'
def setR (L : List NodeT) (n : Int) (data : Tx) : List NodeT × Int :=
  if (atR L n).kind = 0 then (L, 5) else if (atR L n).kind = 1 then (L, 8) else if mayE (atR L n).kind data ≠ 0 then (L, mayE (atR L n).kind data) else (withR L { atR L n with data := data }, 0)
/-- The two blocks that a call begins with: the tree, and the result's. -/
theorem two_new (W : World) (a b : Obj) : Below W.heap.size W ((W.alloc a).alloc b) ∧ ((W.alloc a).alloc b).heap[W.heap.size]? = some a ∧ ((W.alloc a).alloc b).heap[W.heap.size + 1]? = some b := by
  have h := heap_alloc_new (W.alloc a) b
  rw [World.size_alloc] at h
  exact ⟨((Below.refl _ _).alloc (Nat.le_refl _) _).alloc (by simp) _, heap_stay (heap_alloc_new _ _) _, h⟩
/-- The result is written: what is left. -/
theorem ret_done {W w1 : World} {R : Nat} {A : Option Addr} {L : List NodeT} (hb : Below W.heap.size W w1) (hR : W.heap.size ≤ R) {u v : Value} {ty : TypeId} {fr : Nat × Nat} (hz : w1.heap[R]? = some (.cells #[u, v] ty fr)) (hn : NodesAt w1 A L) (x y : Value) :
    NodesAt ((w1.setCell ⟨R, 0, none⟩ x).setCell ⟨R, 1, none⟩ y) A L ∧ Below W.heap.size W ((w1.setCell ⟨R, 0, none⟩ x).setCell ⟨R, 1, none⟩ y) :=
  ⟨hn.far hz ((Keep.setR 0 _).trans (Keep.setR 1 _)), (hb.setCell (p := ⟨R, 0, none⟩) hR _).setCell (p := ⟨R, 1, none⟩) hR _⟩

set_option maxRecDepth 100000 in
set_option maxHeartbeats 4000000 in
theorem ref_Set (A : Option Addr) (c : Nat) (L : List NodeT) (last n : Int) (data : Tx) (W : World) (h : NodesAt W A L) (hpos : 0 < L.length) (hl : L.length ≤ 10000000) (hd : data.length ≤ 140737488351300) :
    Calls Try.prog 23 #[.agg #[.slice A L.length c, .int .i64 last], .int .i64 n, .string (mk data)] W (RTo (setR L n data).1 last (setR L n data).2 W) := by
  have HN := Lib.hid (And.intro h (And.intro hpos hl))
  have HM := Lib.hid (fun k w => ref_may k data w hd)
  obtain ⟨r, hr⟩ : ∃ r, setR L n data = r := ⟨_, rfl⟩
  have HR := Lib.hid hr.symm
  unfold setR at HR
  rw [hr]
  obtain ⟨m, hm⟩ : ∃ m, L.length = m := ⟨_, rfl⟩
  have HL := Lib.hid hm
  obtain ⟨W0, hW0⟩ : ∃ W0, (W.alloc (.cells #[.slice A m c, .int .i64 last] 29)).alloc (.cells #[.slice none 0 0, .int .i64 0] 29) = W0 := ⟨_, rfl⟩
  have HW := Lib.hid (two_new W (.cells #[.slice A m c, .int .i64 last] 29) (.cells #[.slice none 0 0, .int .i64 0] 29))
  rw [hW0] at HW
  have HAT := Lib.hid (ref_At A c L last n W0 (h.below HW.out.1) (by omega))
  obtain ⟨x, hx⟩ : ∃ x, atR L n = x := ⟨_, rfl⟩
  rw [hx] at HR HAT
  rw [hm] at HAT ⊢
  obtain ⟨xn, xu, xs, xk, xd⟩ := x
  unfold nodeA at HAT
  simp only at HR HAT
  have c0 := blk_cell HW.out.2.1 0
  have c1 := blk_cell HW.out.2.1 1
  simp only [List.getElem?_toArray, List.getElem?_cons_zero, List.getElem?_cons_succ] at c0 c1
  clear h hpos hl hd hr hm hx
  go_enter Try.func23, Try.ntmps23
  go_wp2_with fail
  try rw [hW0]
  clear hW0
  refine HAT.out.mono ?_
  rintro e w1 ⟨rfl, hb⟩
  have HB := Lib.hid (And.intro (ext_trans HW.out.1 hb) (And.intro ((hb.block _ (blk_lt HW.out.2.1)).trans HW.out.2.1) ((hb.block _ (blk_lt HW.out.2.2)).trans HW.out.2.2)))
  have HBB := Lib.hid hb
  clear hb c0 c1
  have c0 := blk_cell HB.out.2.1 0
  have c1 := blk_cell HB.out.2.1 1
  have e0 := blk_cell HB.out.2.2 0
  have e1 := blk_cell HB.out.2.2 1
  have q0 := blk_frozen HB.out.2.2 0
  have q1 := blk_frozen HB.out.2.2 1
  have hl0 := blk_lt HB.out.2.1
  have hl1 := blk_lt HB.out.2.2
  simp only [List.getElem?_toArray, List.getElem?_cons_zero, List.getElem?_cons_succ] at c0 c1 e0 e1
  by_cases h0 : xk = 0
  · subst h0
    have HR2 : Hid (r = (L, 5)) := HR
    obtain rfl := HR2.out
    go_wp2_with fail
    refine bodyPost_ret (v := .tuple #[.agg #[.slice A m c, .int .i64 last], .int .i64 5]) ?_ rfl ?_
    · rw [results_cell_tmp rfl]
      go_simp
    · have HD := ret_done HB.out.1 (Nat.le_succ _) HB.out.2.2 (HN.out.1.below HB.out.1) (.slice A m c) (.int .i64 last)
      exact ⟨⟨A, c, by rw [HL.out], HD.1.below ((Below.refl _ _).alloc (Nat.le_refl _) _)⟩, HD.2.alloc HD.2.size _⟩
  · have h0' : (xk == 0) = false := by simpa using h0
    by_cases h1 : xk = 1
    · subst h1
      have HR2 : Hid (r = (L, 8)) := HR
      obtain rfl := HR2.out
      clear h0 h0'
      go_wp2_with fail
      refine bodyPost_ret (v := .tuple #[.agg #[.slice A m c, .int .i64 last], .int .i64 8]) ?_ rfl ?_
      · rw [results_cell_tmp rfl]
        go_simp
      · have HD := ret_done HB.out.1 (Nat.le_succ _) HB.out.2.2 (HN.out.1.below HB.out.1) (.slice A m c) (.int .i64 last)
        exact ⟨⟨A, c, by rw [HL.out], HD.1.below ((Below.refl _ _).alloc (Nat.le_refl _) _)⟩, HD.2.alloc HD.2.size _⟩
    · have h1' : (xk == 1) = false := by simpa using h1
      obtain ⟨q, hq⟩ : ∃ q, mayE xk data = q := ⟨_, rfl⟩
      have HR2 : Hid (r = if q ≠ 0 then (L, q) else (withR L ⟨xn, xu, xs, xk, data⟩, 0)) := Lib.hid (by rw [HR.out, if_neg h0, if_neg h1, hq])
      have HMQ : Hid (∀ w, Calls Try.prog 44 #[.int .i64 xk, .string (mk data)] w fun e w' => e = .returned (.int .i64 q) ∧ w = w') := Lib.hid (by rw [← hq]; exact HM.out xk)
      clear h0 h1 HR hq
      go_wp2_with fail
      refine (HMQ.out _).mono ?_
      rintro e w2 ⟨rfl, rfl⟩
      by_cases hq0 : q = 0
      · subst hq0
        have HR3 : Hid (r = (withR L ⟨xn, xu, xs, xk, data⟩, 0)) := HR2
        obtain rfl := HR3.out
        have hal : Below w1.heap.size w1 (w1.alloc (.cells #[.int .i64 xn, .int .i64 xu, .string (mk xs), .int .i64 xk, .string (mk data)] 56)) := (Below.refl _ _).alloc (Nat.le_refl _) _
        have HWI := Lib.hid (ref_with A c L last ⟨xn, xu, xs, xk, data⟩ _ ((HN.out.1.below HB.out.1).below hal) HN.out.2.1 HN.out.2.2)
        rw [HL.out] at HWI
        unfold nodeA at HWI
        simp only at HWI
        have HAL := Lib.hid hal
        clear hal
        go_wp2_with fail
        refine HWI.out.mono ?_
        rintro e w3 ⟨⟨A3, c3, rfl, hn3⟩, hb3⟩
        have HB3 := Lib.hid (ext_trans HAL.out hb3)
        have HB4 := Lib.hid (And.intro (ext_trans HB.out.1 HB3.out) (And.intro ((HB3.out.block _ (blk_lt HB.out.2.2)).trans HB.out.2.2) hn3))
        clear hb3 hn3 c0 c1 e0 e1 q0 q1 hl0 hl1
        have e0 := blk_cell HB4.out.2.1 0
        have e1 := blk_cell HB4.out.2.1 1
        have q0 := blk_frozen HB4.out.2.1 0
        have q1 := blk_frozen HB4.out.2.1 1
        have hl1 := blk_lt HB4.out.2.1
        simp only [List.getElem?_toArray, List.getElem?_cons_zero, List.getElem?_cons_succ] at e0 e1
        go_wp2_with fail
        refine bodyPost_ret (v := .tuple #[.agg #[.slice A3 (withR L ⟨xn, xu, xs, xk, data⟩).length c3, .int .i64 last], .int .i64 0]) ?_ rfl ?_
        · rw [results_cell_tmp rfl]
          go_simp
        · have HD := ret_done HB4.out.1 (Nat.le_succ _) HB4.out.2.1 HB4.out.2.2 (.slice A3 (withR L ⟨xn, xu, xs, xk, data⟩).length c3) (.int .i64 last)
          exact ⟨⟨A3, c3, rfl, HD.1⟩, HD.2⟩
      · have hq1 : (q != 0) = true := by simpa using hq0
        have HR3 : Hid (r = (L, q)) := Lib.hid (by rw [HR2.out, if_pos hq0])
        obtain rfl := HR3.out
        clear hq0
        go_wp2_with fail
        refine bodyPost_ret (v := .tuple #[.agg #[.slice A m c, .int .i64 last], .int .i64 q]) ?_ rfl ?_
        · rw [results_cell_tmp rfl]
          go_simp
        · have HD := ret_done HB.out.1 (Nat.le_succ _) HB.out.2.2 (HN.out.1.below HB.out.1) (.slice A m c) (.int .i64 last)
          exact ⟨⟨A, c, by rw [HL.out], HD.1.below ((Below.refl _ _).alloc (Nat.le_refl _) _)⟩, HD.2.alloc HD.2.size _⟩
end Go.Proofs.Ytmjggjccmbiheab
