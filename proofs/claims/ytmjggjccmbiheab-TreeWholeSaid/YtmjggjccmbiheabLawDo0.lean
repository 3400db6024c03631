/- The law's do at Put, step by step. -/
import Derived.Test.YtmjggjccmbiheabLawShort
namespace Go.Proofs.Ytmjggjccmbiheab
open Go Go.RowKit Go.Proofs Go.Sort
attribute [local go_sem] mk_list mk_size mk_data nfield0 nfield1 nfield3

/-- The three blocks that do begins with. -/
abbrev Box3 (W w : World) (t b : Nat) (p q : Value × Value) (x : ActT) : Prop :=
  Keep t b W w ∧ w.heap[W.heap.size]? = some (.cells #[p.1, p.2] 29) ∧ w.heap[W.heap.size + 1]? = some (.cells (actC x).toArray 34) ∧ w.heap[W.heap.size + 1 + 1]? = some (.cells #[q.1, q.2] 29)
theorem Box3.below {W w w' : World} {t b : Nat} {p q : Value × Value} {x : ActT} (h : Box3 W w t b p q x) (hb : Below w.heap.size w w') : Box3 W w' t b p q x :=
  ⟨h.1.trans (Keep.below hb), (hb.block _ (blk_lt h.2.1)).trans h.2.1, (hb.block _ (blk_lt h.2.2.1)).trans h.2.2.1, (hb.block _ (blk_lt h.2.2.2)).trans h.2.2.2⟩
theorem Box3.keep {W w w' : World} {t b : Nat} {p q : Value × Value} {x : ActT} (h : Box3 W w t b p q x) (hl : t < W.heap.size ∧ b < W.heap.size) (k : Keep t b w w') : Box3 W w' t b p q x :=
  ⟨h.1.trans k, (k.block _ (blk_lt h.2.1) (by omega) (by omega)).trans h.2.1, (k.block _ (blk_lt h.2.2.1) (by omega) (by omega)).trans h.2.2.1, (k.block _ (blk_lt h.2.2.2) (by omega) (by omega)).trans h.2.2.2⟩
theorem Box3.new {t b : Nat} (W : World) (p q : Value × Value) (x : ActT) : Box3 W (((W.alloc (.cells #[p.1, p.2] 29)).alloc (.cells (actC x).toArray 34)).alloc (.cells #[q.1, q.2] 29)) t b p q x := by
  have h := three_new W (.cells #[p.1, p.2] 29) (.cells (actC x).toArray 34) (.cells #[q.1, q.2] 29)
  exact ⟨Keep.below h.1, h.2⟩
theorem do_done {W w : World} {t b : Nat} {p : Value × Value} {x : ActT} {A : Option Addr} {L : List NodeT} {S : TreeSt} {s : Option Addr} {n c : Nat} {i : Int} (h : Box3 W w t b p (.slice s n c, .int .i64 i) x) (hl : t < W.heap.size ∧ b < W.heap.size) (hN : NodesAt w A L) (hT : TreeAt w t b S) (u v : Value) :
    NodesAt ((w.setCell ⟨W.heap.size + 1 + 1, 0, none⟩ u).setCell ⟨W.heap.size + 1 + 1, 1, none⟩ v) A L ∧ TreeAt ((w.setCell ⟨W.heap.size + 1 + 1, 0, none⟩ u).setCell ⟨W.heap.size + 1 + 1, 1, none⟩ v) t b S ∧ Keep t b W ((w.setCell ⟨W.heap.size + 1 + 1, 0, none⟩ u).setCell ⟨W.heap.size + 1 + 1, 1, none⟩ v) := by
  have k : Keep (W.heap.size + 1 + 1) (W.heap.size + 1 + 1) w ((w.setCell ⟨W.heap.size + 1 + 1, 0, none⟩ u).setCell ⟨W.heap.size + 1 + 1, 1, none⟩ v) := (Keep.setR 0 _).trans (Keep.setR 1 _)
  exact ⟨hN.far h.2.2.2 k, hT.far h.2.2.2 ⟨by omega, by omega⟩ k, h.1.own (by omega) k⟩
theorem put_len (L : List NodeT) (last d : Int) (s : Tx) (kind : Int) (data : Tx) : (putR L last d s kind data).L.length ≤ L.length + 1 ∧ (putR L last d s kind data).last ≤ last + 1 := by
  unfold putR
  repeat' split
  all_goals first | (constructor <;> simp only [List.length_append, List.length_singleton] <;> omega) | (constructor <;> simp only <;> omega)

set_option maxRecDepth 100000 in
set_option maxHeartbeats 4000000 in
theorem law_do0 (t b : Nat) (A : Option Addr) (c : Nat) (L : List NodeT) (last : Int) (x : ActT) (W : World) (hT : TreeAt W t b (relS L last)) (hN : NodesAt W A L) (hW : WF L last) (hL : L.length ≤ 100) (hla : last ≤ 100) (hx : ActOk x) (h0 : x.dO = 0) :
    Calls Try.prog 10 #[.pointer (some ⟨t, 0, none⟩), .agg #[.slice A L.length c, .int .i64 last], .agg (actC x).toArray] W (DoTo t b L last W) := by
  have h1 : 1 ≤ last := by obtain ⟨y, hy, e⟩ := root_in hW; have := hW.nums y hy; omega
  have hpos : 0 < L.length := by obtain ⟨y, hy, _⟩ := root_in hW; exact List.length_pos_of_mem hy
  have HLT := Lib.hid hT.lt
  have HT := Lib.hid hT
  have HN := Lib.hid hN
  have HP := Lib.hid (fun w (h : TreeAt w t b (relS L last)) => tree_Put t b (relS L last) x.dir x.name x.kind x.data w h (small_rel hW (by omega) (by omega)) hx.dir hx.data hx.name (by show last < 1000000; omega))
  have HQ := Lib.hid (fun w (h : NodesAt w A L) => ref_Put A c L last x.dir x.name x.kind x.data w h hpos (by omega) hx.name hx.data ⟨by omega, by omega⟩)
  have HPR := Lib.hid (put_rel hW x.dir x.name x.kind x.data)
  have HLE := Lib.hid (put_len L last x.dir x.name x.kind x.data)
  rw [HPR.out.1] at HP
  obtain ⟨P, hP⟩ : ∃ P, putR L last x.dir x.name x.kind x.data = P := ⟨_, rfl⟩
  rw [hP] at HP HQ HPR HLE
  obtain ⟨L2, last2, n2, e2⟩ := P
  obtain ⟨m, hm⟩ : ∃ m, L.length = m := ⟨_, rfl⟩
  have HM := Lib.hid hm
  rw [hm] at HQ ⊢
  obtain ⟨dO, dI, tO, nM, aS, kD, dA⟩ := x
  simp only at HP HQ HPR HLE h0
  subst h0
  unfold actC
  simp only
  obtain ⟨W0, hW0⟩ : ∃ W0, ((W.alloc (.cells #[.slice A m c, .int .i64 last] 29)).alloc (.cells #[.int .i64 0, .int .i64 dI, .int .i64 tO, .string (mk nM), .string (mk aS), .int .i64 kD, .string (mk dA)] 34)).alloc (.cells #[.slice none 0 0, .int .i64 0] 29) = W0 := ⟨_, rfl⟩
  have HBX : Hid (Box3 W W0 t b (.slice A m c, .int .i64 last) (.slice none 0 0, .int .i64 0) ⟨0, dI, tO, nM, aS, kD, dA⟩) := Lib.hid (by rw [← hW0]; exact Box3.new W (.slice A m c, .int .i64 last) (.slice none 0 0, .int .i64 0) ⟨0, dI, tO, nM, aS, kD, dA⟩)
  have HW0 : Hid (Below W.heap.size W W0) := Lib.hid (by rw [← hW0]; exact (three_new W _ _ _).1)
  have a0 := blk_cell HBX.out.2.1 0
  have a1 := blk_cell HBX.out.2.1 1
  have hla := blk_lt HBX.out.2.1
  have b0 := blk_cell HBX.out.2.2.1 0
  have b1 := blk_cell HBX.out.2.2.1 1
  have b2 := blk_cell HBX.out.2.2.1 2
  have b3 := blk_cell HBX.out.2.2.1 3
  have b4 := blk_cell HBX.out.2.2.1 4
  have b5 := blk_cell HBX.out.2.2.1 5
  have b6 := blk_cell HBX.out.2.2.1 6
  have hlb := blk_lt HBX.out.2.2.1
  have c0 := blk_cell HBX.out.2.2.2 0
  have zc0 := blk_frozen HBX.out.2.2.2 0
  have c1 := blk_cell HBX.out.2.2.2 1
  have zc1 := blk_frozen HBX.out.2.2.2 1
  have hlc := blk_lt HBX.out.2.2.2
  simp only [List.getElem?_toArray, List.getElem?_cons_zero, List.getElem?_cons_succ, actC] at a0 a1 b0 b1 b2 b3 b4 b5 b6 c0 c1
  clear hP hm hT hN hW hL hla hx h1 hpos
  go_enter Try.func10, Try.ntmps10
  go_wp2_with fail
  try rw [hW0]
  clear hW0
  refine (HP.out W0 (HT.out.below HW0.out)).mono ?_
  rintro e w1 ⟨rfl, hT1, hK1⟩
  have HB1 := Lib.hid (HBX.out.keep HLT.out hK1)
  have HN1 := Lib.hid ((HN.out.below HW0.out).turn (HT.out.below HW0.out) hK1)
  have HT1 := Lib.hid hT1
  simp only
  clear a0 a1 hla b0 b1 b2 b3 b4 b5 b6 hlb c0 zc0 c1 zc1 hlc
  have a0 := blk_cell HB1.out.2.1 0
  have a1 := blk_cell HB1.out.2.1 1
  have hla := blk_lt HB1.out.2.1
  have b0 := blk_cell HB1.out.2.2.1 0
  have b1 := blk_cell HB1.out.2.2.1 1
  have b2 := blk_cell HB1.out.2.2.1 2
  have b3 := blk_cell HB1.out.2.2.1 3
  have b4 := blk_cell HB1.out.2.2.1 4
  have b5 := blk_cell HB1.out.2.2.1 5
  have b6 := blk_cell HB1.out.2.2.1 6
  have hlb := blk_lt HB1.out.2.2.1
  have c0 := blk_cell HB1.out.2.2.2 0
  have zc0 := blk_frozen HB1.out.2.2.2 0
  have c1 := blk_cell HB1.out.2.2.2 1
  have zc1 := blk_frozen HB1.out.2.2.2 1
  have hlc := blk_lt HB1.out.2.2.2
  simp only [List.getElem?_toArray, List.getElem?_cons_zero, List.getElem?_cons_succ, actC] at a0 a1 b0 b1 b2 b3 b4 b5 b6 c0 c1
  clear hT1 hK1
  go_wp2_with fail
  refine (HQ.out w1 HN1.out).mono ?_
  rintro e w2 ⟨⟨A2, c2, rfl, hN2⟩, hb2⟩
  have HB2 := Lib.hid (HB1.out.below hb2)
  have HN2 := Lib.hid hN2
  have HT2 := Lib.hid (HT1.out.below hb2)
  simp only
  clear a0 a1 hla b0 b1 b2 b3 b4 b5 b6 hlb c0 zc0 c1 zc1 hlc
  have a0 := blk_cell HB2.out.2.1 0
  have a1 := blk_cell HB2.out.2.1 1
  have hla := blk_lt HB2.out.2.1
  have b0 := blk_cell HB2.out.2.2.1 0
  have b1 := blk_cell HB2.out.2.2.1 1
  have b2 := blk_cell HB2.out.2.2.1 2
  have b3 := blk_cell HB2.out.2.2.1 3
  have b4 := blk_cell HB2.out.2.2.1 4
  have b5 := blk_cell HB2.out.2.2.1 5
  have b6 := blk_cell HB2.out.2.2.1 6
  have hlb := blk_lt HB2.out.2.2.1
  have c0 := blk_cell HB2.out.2.2.2 0
  have zc0 := blk_frozen HB2.out.2.2.2 0
  have c1 := blk_cell HB2.out.2.2.2 1
  have zc1 := blk_frozen HB2.out.2.2.2 1
  have hlc := blk_lt HB2.out.2.2.2
  simp only [List.getElem?_toArray, List.getElem?_cons_zero, List.getElem?_cons_succ, actC] at a0 a1 b0 b1 b2 b3 b4 b5 b6 c0 c1
  clear hN2 hb2
  go_wp2_with fail
  refine bodyPost_ret (v := .tuple #[.agg #[.slice A2 L2.length c2, .int .i64 last2], .bool true]) ?_ rfl ?_
  · rw [results_cell_tmp rfl]
    go_simp
  · have HD := do_done HB2.out HLT.out HN2.out HT2.out (.slice A2 L2.length c2) (.int .i64 last2)
    have hal := fun o => (Below.refl _ ((w2.setCell ⟨W.heap.size + 1 + 1, 0, none⟩ (.slice A2 L2.length c2)).setCell ⟨W.heap.size + 1 + 1, 1, none⟩ (.int .i64 last2))).alloc (Nat.le_refl _) o
    exact ⟨⟨L2, last2, A2, c2, rfl, HD.1.below (hal _), HD.2.1.below (hal _), HPR.out.2, HLE.out.1, HLE.out.2⟩, HD.2.2.trans (Keep.below (hal _))⟩
end Go.Proofs.Ytmjggjccmbiheab
