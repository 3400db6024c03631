/- The law's do at what is no act; do, step by step. -/
import Derived.Test.YtmjggjccmbiheabLawDo3
namespace Go.Proofs.Ytmjggjccmbiheab
open Go Go.RowKit Go.Proofs Go.Sort
attribute [local go_sem] mk_list mk_size mk_data nfield0 nfield1 nfield3

set_option maxRecDepth 100000 in
set_option maxHeartbeats 4000000 in
theorem law_do4 (t b : Nat) (A : Option Addr) (c : Nat) (L : List NodeT) (last : Int) (x : ActT) (W : World) (hT : TreeAt W t b (relS L last)) (hN : NodesAt W A L) (hW : WF L last) (h0 : x.dO ≠ 0) (h1 : x.dO ≠ 1) (h2 : x.dO ≠ 2) (h3 : x.dO ≠ 3) :
    Calls Try.prog 10 #[.pointer (some ⟨t, 0, none⟩), .agg #[.slice A L.length c, .int .i64 last], .agg (actC x).toArray] W (DoTo t b L last W) := by
  have HLT := Lib.hid hT.lt
  have HT := Lib.hid hT
  have HN := Lib.hid hN
  have HWF := Lib.hid hW
  obtain ⟨m, hm⟩ : ∃ m, L.length = m := ⟨_, rfl⟩
  have HM := Lib.hid hm
  rw [hm]
  obtain ⟨dO, dI, tO, nM, aS, kD, dA⟩ := x
  simp only at h0 h1 h2 h3
  have h0' : (dO == 0) = false := by simpa using h0
  have h1' : (dO == 1) = false := by simpa using h1
  have h2' : (dO == 2) = false := by simpa using h2
  have h3' : (dO == 3) = false := by simpa using h3
  unfold actC
  simp only
  obtain ⟨W0, hW0⟩ : ∃ W0, ((W.alloc (.cells #[.slice A m c, .int .i64 last] 29)).alloc (.cells #[.int .i64 dO, .int .i64 dI, .int .i64 tO, .string (mk nM), .string (mk aS), .int .i64 kD, .string (mk dA)] 34)).alloc (.cells #[.slice none 0 0, .int .i64 0] 29) = W0 := ⟨_, rfl⟩
  have HBX : Hid (Box3 W W0 t b (.slice A m c, .int .i64 last) (.slice none 0 0, .int .i64 0) ⟨dO, dI, tO, nM, aS, kD, dA⟩) := Lib.hid (by rw [← hW0]; exact Box3.new W (.slice A m c, .int .i64 last) (.slice none 0 0, .int .i64 0) ⟨dO, dI, tO, nM, aS, kD, dA⟩)
  have HW0 : Hid (Below W.heap.size W W0) := Lib.hid (by rw [← hW0]; exact (three_new W _ _ _).1)
  have a0 := blk_cell HBX.out.2.1 0
  have a1 := blk_cell HBX.out.2.1 1
  have hla := blk_lt HBX.out.2.1
  have b0 := blk_cell HBX.out.2.2.1 0
  have b1 := blk_cell HBX.out.2.2.1 1
  have b2 := blk_cell HBX.out.2.2.1 2
  have b3 := blk_cell HBX.out.2.2.1 3
  have b4 := blk_cell HBX.out.2.2.1 4
  have b5 := blk_cell HBX.out.2.2.1 5
  have b6 := blk_cell HBX.out.2.2.1 6
  have hlb := blk_lt HBX.out.2.2.1
  have c0 := blk_cell HBX.out.2.2.2 0
  have zc0 := blk_frozen HBX.out.2.2.2 0
  have c1 := blk_cell HBX.out.2.2.2 1
  have zc1 := blk_frozen HBX.out.2.2.2 1
  have hlc := blk_lt HBX.out.2.2.2
  simp only [List.getElem?_toArray, List.getElem?_cons_zero, List.getElem?_cons_succ, actC] at a0 a1 b0 b1 b2 b3 b4 b5 b6 c0 c1
  clear hm hT hN hW h0 h1 h2 h3
  go_enter Try.func10, Try.ntmps10
  go_wp2_with fail
  try rw [hW0]
  clear hW0
  refine bodyPost_ret (v := .tuple #[.agg #[.slice A m c, .int .i64 last], .bool true]) ?_ rfl ?_
  · rw [results_cell_tmp rfl]
    go_simp
  · have HD := do_done HBX.out HLT.out (HN.out.below HW0.out) (HT.out.below HW0.out) (.slice A m c) (.int .i64 last)
    exact ⟨⟨L, last, A, c, by rw [HM.out], HD.1, HD.2.1, HWF.out, by omega, by omega⟩, HD.2.2⟩
theorem law_do (t b : Nat) (A : Option Addr) (c : Nat) (L : List NodeT) (last : Int) (x : ActT) (W : World) (hT : TreeAt W t b (relS L last)) (hN : NodesAt W A L) (hW : WF L last) (hL : L.length ≤ 100) (hla : last ≤ 100) (hx : ActOk x) :
    Calls Try.prog 10 #[.pointer (some ⟨t, 0, none⟩), .agg #[.slice A L.length c, .int .i64 last], .agg (actC x).toArray] W (DoTo t b L last W) := by
  by_cases h0 : x.dO = 0
  · exact law_do0 t b A c L last x W hT hN hW hL hla hx h0
  by_cases h1 : x.dO = 1
  · exact law_do1 t b A c L last x W hT hN hW hL hla hx h1
  by_cases h2 : x.dO = 2
  · exact law_do2 t b A c L last x W hT hN hW hL hla hx h2
  by_cases h3 : x.dO = 3
  · exact law_do3 t b A c L last x W hT hN hW hL hla hx h3
  exact law_do4 t b A c L last x W hT hN hW h0 h1 h2 h3
end Go.Proofs.Ytmjggjccmbiheab
