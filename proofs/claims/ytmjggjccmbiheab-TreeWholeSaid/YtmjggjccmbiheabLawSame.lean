/- The law's Same, step by step: a tree is as the document's. -/
import Derived.Test.YtmjggjccmbiheabLawShort
import Derived.Test.YtmjggjccmbiheabEntsRefRead
namespace Go.Proofs.Ytmjggjccmbiheab
open Go Go.RowKit Go.Proofs Go.Sort
attribute [local go_sem] mk_list mk_size mk_data nfield0 nfield1 nfield3

theorem same_all (a1 a2 : Option Addr) (c1 c2 : Nat) (l : List En) (w : World) (h1 : EntsAt w a1 l) (h2 : EntsAt w a2 l) (hl : l.length ≤ 1000000000000) :
    Calls Try.prog 38 #[.slice a1 l.length c1, .slice a2 l.length c2] w fun e w' => e = .returned (.bool true) ∧ Below w.heap.size w w' := by
  refine (same6 a1 a2 c1 c2 l l w h1 h2 hl).mono ?_
  rintro e w' ⟨rfl, q, rfl⟩
  exact ⟨by rw [decide_eq_true rfl], below_drewN (Below.refl _ _) q⟩
theorem keep3 {w2 W W' : World} {X i j k : Nat} {u v z : Value} (hX : X < w2.heap.size) (h : W.cell? ⟨X, i, none⟩ = some u ∧ W.cell? ⟨X, j, none⟩ = some v ∧ W.cell? ⟨X, k, none⟩ = some z ∧ Below w2.heap.size w2 W) (hb : Below W.heap.size W W') :
    W'.cell? ⟨X, i, none⟩ = some u ∧ W'.cell? ⟨X, j, none⟩ = some v ∧ W'.cell? ⟨X, k, none⟩ = some z ∧ Below w2.heap.size w2 W' := by
  have h1 := Nat.lt_of_lt_of_le hX h.2.2.2.size
  exact ⟨(hb.cell (p := ⟨X, i, none⟩) h1).trans h.1, (hb.cell (p := ⟨X, j, none⟩) h1).trans h.2.1, (hb.cell (p := ⟨X, k, none⟩) h1).trans h.2.2.1, ext_trans h.2.2.2 hb⟩
set_option maxRecDepth 100000 in
set_option maxHeartbeats 8000000 in
theorem law_Same (t b : Nat) (A : Option Addr) (c : Nat) (L : List NodeT) (last : Int) (W : World) (hT : TreeAt W t b (relS L last)) (hN : NodesAt W A L) (hW : WF L last) (hL : L.length ≤ 200) (hla : last ≤ 200) :
    Calls Try.prog 18 #[.pointer (some ⟨t, 0, none⟩), .agg #[.slice A L.length c, .int .i64 last]] W fun e w' => e = .returned (.bool true) ∧ Below W.heap.size W w' := by
  have h1 : 1 ≤ last := by obtain ⟨y, hy, e⟩ := root_in hW; have := hW.nums y hy; omega
  obtain ⟨N, rfl⟩ : ∃ N : Nat, last = N := ⟨last.toNat, by omega⟩
  have HT := Lib.hid hT
  have HN := Lib.hid (And.intro hN hW)
  have HLL := Lib.hid hL
  have HLE := Lib.hid (fun w (hb : Below W.heap.size W w) => tree_Len t b (relS L N) w (hT.below hb))
  have HAT := Lib.hid (fun n w (hb : Below W.heap.size W w) => ref_At A c L N n w (hN.below hb) (by omega))
  have HRL := Lib.hid (fun n w (hb : Below W.heap.size W w) => ref_List A c L N n w (hN.below hb) (by omega))
  have HKI := Lib.hid (fun n w (hb : Below W.heap.size W w) (hk : wfI n) => tree_Kind t b (relS L N) n w (hT.below hb) hk)
  have HDA := Lib.hid (fun n w (hb : Below W.heap.size W w) (hk : wfI n) => tree_Data t b (relS L N) n w (hT.below hb) hk)
  have HUP := Lib.hid (fun n w (hb : Below W.heap.size W w) (hk : wfI n) => tree_Up t b (relS L N) n w (hT.below hb) hk)
  have HTL := Lib.hid (fun n w (hb : Below W.heap.size W w) (hk : wfI n) => tree_List t b (relS L N) n w (hT.below hb) hk (by
    show (pn (nodeOf L n)).ents.length ≤ _
    rw [pn_rel hW]
    have := list_len L n
    simp only
    split
    · omega
    · simp))
  have hcnt : (relS L N).cnt = L.length := rfl
  have hpn : ∀ n, pn ((relS L N).M n) = ⟨(atR L n).kind, (atR L n).up, (atR L n).data, if (atR L n).kind = 1 then listR L n else []⟩ := fun n => pn_rel hW n
  simp only [hcnt] at HLE
  simp only [hpn] at HKI HDA HUP HTL
  clear hcnt hpn hT hN hW hL
  obtain ⟨m, hm⟩ : ∃ m, L.length = m := ⟨_, rfl⟩
  have HM := Lib.hid hm
  rw [hm] at HLE HAT HRL ⊢
  obtain ⟨W0, hW0⟩ : ∃ W0, W.alloc (.cells #[.slice A m c, .int .i64 (N : Int)] 29) = W0 := ⟨_, rfl⟩
  have HB0 : Hid (Below W.heap.size W W0 ∧ W0.heap[W.heap.size]? = some (.cells #[.slice A m c, .int .i64 (N : Int)] 29)) := Lib.hid (by rw [← hW0]; exact ⟨(Below.refl _ _).alloc (Nat.le_refl _) _, heap_alloc_new _ _⟩)
  have a0 := blk_cell HB0.out.2 0
  have a1 := blk_cell HB0.out.2 1
  have hl0 := blk_lt HB0.out.2
  simp only [List.getElem?_toArray, List.getElem?_cons_zero, List.getElem?_cons_succ] at a0 a1
  clear hm
  go_enter Try.func18, Try.ntmps18
  go_wp2_with fail
  try rw [hW0]
  clear hW0
  go_region_held3 (fun w' => w'.cell? ⟨W.heap.size, 0, none⟩ = some (.slice A m c)) (first | exact a0 | go_keep)
    (first | (go_at_call 14; refine (HLE.out _ (by first | exact HB0.out.1 | exact below_drewN HB0.out.1 1)).mono ?_; rintro e w2 ⟨rfl, rfl⟩))
  go_wp2_with fail
  obtain ⟨W1, hW1⟩ : ∃ W1, W0.drew = W1 := ⟨_, rfl⟩
  have HB1 : Hid (Below W.heap.size W W1 ∧ W1.heap[W.heap.size]? = some (.cells #[.slice A m c, .int .i64 (N : Int)] 29)) := Lib.hid (by rw [← hW1]; exact ⟨below_drewN HB0.out.1 1, HB0.out.2⟩)
  rw [hW1]
  clear hW1 a0 a1 hl0
  go_loopg [5] (N + 3) (fun g nv wx => ∃ (k : Nat) (n : Int), k + g = N + 3 ∧ n + 1 = k ∧ nv = .int .i64 n ∧ Hid (Below W.heap.size W wx ∧ wx.heap[W.heap.size]? = some (.cells #[.slice A m c, .int .i64 (N : Int)] 29)))
  case atStart => exact ⟨0, -1, by omega, by decide, rfl, HB1⟩
  case round =>
    obtain ⟨k, n, hk, hn, rfl, HX⟩ := hrel
    have a0 := blk_cell HX.out.2 0
    have a1 := blk_cell HX.out.2 1
    have hl0 := blk_lt HX.out.2
    simp only [List.getElem?_toArray, List.getElem?_cons_zero, List.getElem?_cons_succ] at a0 a1
    cases gk with
    | zero =>
      have hno : ¬ n ≤ (N : Int) + 1 := by omega
      go_wp2_with fail
      go_ret
      exact ⟨rfl, HX.out.1⟩
    | succ g =>
      have hle : n ≤ (N : Int) + 1 := by omega
      have HWN : Hid (wfI n) := Lib.hid (WalkArith.wf_i64 (by omega))
      obtain ⟨x, hx⟩ : ∃ x, atR L n = x := ⟨_, rfl⟩
      have HA := Lib.hid (HAT.out n)
      have HK := Lib.hid (fun w hb => HKI.out n w hb HWN.out)
      have HD := Lib.hid (fun w hb => HDA.out n w hb HWN.out)
      have HU := Lib.hid (fun w hb => HUP.out n w hb HWN.out)
      have HT1 := Lib.hid (fun w hb => HTL.out n w hb HWN.out)
      rw [hx] at HA
      simp only [hx] at HK HD HU HT1
      obtain ⟨xn, xu, xs, xk, xd⟩ := x
      unfold nodeA at HA
      simp only at HA HK HD HU HT1
      have HLEN := Lib.hid (list_len L n)
      obtain ⟨l, hl⟩ : ∃ l, listR L n = l := ⟨_, rfl⟩
      have HR := Lib.hid (HRL.out n)
      rw [hl] at HR HLEN
      simp only [hl] at HT1
      clear hx hl
      go_wp2_with fail
      refine (HA.out wr HX.out.1).mono ?_
      rintro e w1 ⟨rfl, hb⟩
      obtain ⟨w2, hw2⟩ : ∃ w2, w1.alloc (.cells #[.int .i64 xn, .int .i64 xu, .string (mk xs), .int .i64 xk, .string (mk xd)] 56) = w2 := ⟨_, rfl⟩
      obtain ⟨X, hX⟩ : ∃ X, w1.heap.size = X := ⟨_, rfl⟩
      have HY : Hid (Below W.heap.size W w2 ∧ w2.heap[W.heap.size]? = some (.cells #[.slice A m c, .int .i64 (N : Int)] 29) ∧ w2.heap[X]? = some (.cells #[.int .i64 xn, .int .i64 xu, .string (mk xs), .int .i64 xk, .string (mk xd)] 56)) := Lib.hid (by
        rw [← hw2, ← hX]
        have h1 := ext_trans HX.out.1 hb
        exact ⟨h1.alloc h1.size _, heap_stay ((hb.block _ (blk_lt HX.out.2)).trans HX.out.2) _, heap_alloc_new _ _⟩)
      clear hb a0 a1 hl0
      go_wp2_with fail
      try rw [hw2]
      try rw [hX]
      clear hw2 hX
      have x1 := blk_cell HY.out.2.2 1
      have x3 := blk_cell HY.out.2.2 3
      have x4 := blk_cell HY.out.2.2 4
      have hlx := blk_lt HY.out.2.2
      simp only [List.getElem?_toArray, List.getElem?_cons_zero, List.getElem?_cons_succ] at x1 x3 x4
      have HWB : Hid (∀ w', Below w2.heap.size w2 w' → Below W.heap.size W w') := Lib.hid (fun w' h => ext_trans HY.out.1 h)
      have HLX := Lib.hid hlx
      go_region_held3 (fun w' => w'.cell? ⟨X, 1, none⟩ = some (.int .i64 xu) ∧ w'.cell? ⟨X, 3, none⟩ = some (.int .i64 xk) ∧ w'.cell? ⟨X, 4, none⟩ = some (.string (mk xd)) ∧ Below w2.heap.size w2 w')
        (first | exact ⟨x1, x3, x4, below_drewN (Below.refl _ _) 1⟩ | exact keep3 HLX.out (by assumption) (by assumption))
        (first
          | (go_at_call 13; refine (HK.out _ (HWB.out _ (below_drewN (Below.refl _ _) 1))).mono ?_; rintro e wk ⟨rfl, hbk⟩)
          | (go_at_call 21; refine (HD.out _ (HWB.out _ (by assumption : _ ∧ _ ∧ _ ∧ Below w2.heap.size w2 wk).2.2.2)).mono ?_; rintro e wd ⟨rfl, hbd⟩)
          | (go_at_call 12; refine (HU.out _ (HWB.out _ (by assumption : _ ∧ _ ∧ _ ∧ Below w2.heap.size w2 wd).2.2.2)).mono ?_; rintro e wu ⟨rfl, hbu⟩))
      rename_i hH
      have HZ := Lib.hid (And.intro (HWB.out _ hH.2.2.2) hH.2.2.2)
      have HZ2 := Lib.hid (And.intro ((HZ.out.2.block _ (blk_lt HY.out.2.1)).trans HY.out.2.1) ((HZ.out.2.block _ (blk_lt HY.out.2.2)).trans HY.out.2.2))
      clear hH hbk hbd hbu x1 x3 x4 hlx
      have a0 := blk_cell HZ2.out.1 0
      have a1 := blk_cell HZ2.out.1 1
      have hl0 := blk_lt HZ2.out.1
      simp only [List.getElem?_toArray, List.getElem?_cons_zero, List.getElem?_cons_succ] at a0 a1
      go_wp2_with fail
      refine (HR.out _ HZ.out.1).mono ?_
      rintro e w5 ⟨⟨v, rfl, ho⟩, hb5⟩
      obtain ⟨A5, c5, rfl, he5, _⟩ := ho.at
      have H5 := Lib.hid (And.intro (ext_trans HZ.out.1 hb5) (And.intro ((hb5.block _ (blk_lt HZ2.out.1)).trans HZ2.out.1) ((hb5.block _ (blk_lt HZ2.out.2)).trans HZ2.out.2)))
      have HE5 := Lib.hid he5
      clear a0 a1 hl0 ho hb5 he5
      have x3 := blk_cell H5.out.2.2 3
      simp only [List.getElem?_toArray, List.getElem?_cons_zero, List.getElem?_cons_succ] at x3
      by_cases h1 : xk = 1
      · subst h1
        simp only [if_true] at HT1
        go_wp2_with fail
        refine (HT1.out _ H5.out.1).mono ?_
        rintro e w6 ⟨⟨v, rfl, ho⟩, hb6⟩
        obtain ⟨A6, c6, rfl, he6, _⟩ := ho.at
        have HS := Lib.hid (same_all A6 A5 c6 c5 l w6 he6 (HE5.out.below hb6) (by have := HLEN.out; have := HLL.out; omega))
        have H6 := Lib.hid (And.intro (ext_trans H5.out.1 hb6) ((hb6.block _ (blk_lt H5.out.2.1)).trans H5.out.2.1))
        clear ho hb6 he6 x3
        go_wp2_with fail
        refine HS.out.mono ?_
        rintro e w7 ⟨rfl, hb7⟩
        have H7 := Lib.hid (And.intro (ext_trans H6.out.1 hb7) ((hb7.block _ (blk_lt H6.out.2)).trans H6.out.2))
        clear hb7
        go_wp2_with fail
        go_roundg g
        case measure => omega
        case rel => exact ⟨k + 1, n + 1, by omega, by omega, by go_num, H7⟩
      · have h1' : (xk != 1) = true := by simpa using h1
        simp only [if_neg h1] at HT1
        clear h1
        go_wp2_with fail
        refine (HT1.out _ H5.out.1).mono ?_
        rintro e w6 ⟨⟨v, rfl, ho⟩, hb6⟩
        obtain ⟨A6, c6, rfl, he6, _⟩ := ho.at
        have HS := Lib.hid (same_all A6 none c6 0 [] w6 he6 (.inl rfl) (by simp))
        have H6 := Lib.hid (And.intro (ext_trans H5.out.1 hb6) ((hb6.block _ (blk_lt H5.out.2.1)).trans H5.out.2.1))
        simp only [List.length_nil] at HS
        simp only [List.length_nil]
        clear ho hb6 he6 x3
        go_wp2_with fail
        refine HS.out.mono ?_
        rintro e w7 ⟨rfl, hb7⟩
        have H7 := Lib.hid (And.intro (ext_trans H6.out.1 hb7) ((hb7.block _ (blk_lt H6.out.2)).trans H6.out.2))
        clear hb7
        go_wp2_with fail
        go_roundg g
        case measure => omega
        case rel => exact ⟨k + 1, n + 1, by omega, by omega, by go_num, H7⟩
end Go.Proofs.Ytmjggjccmbiheab
