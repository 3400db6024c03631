/- The law TreeDoes, step by step. -/
import Derived.Test.YtmjggjccmbiheabLawDo4
import Derived.Test.YtmjggjccmbiheabLawSame
import Derived.Test.YtmjggjccmbiheabTreeLives
namespace Go.Proofs.Ytmjggjccmbiheab
open Go Go.RowKit Go.Proofs Go.Sort
attribute [local go_sem] mk_list mk_size mk_data nfield0 nfield1 nfield3

theorem new_rel : newS = relS [rootR] 1 := by
  unfold newS relS
  congr 1
  funext k
  by_cases e : k = 1
  · subst e
    rw [upd_same]
    have hl : listR [rootR] 1 = [] := by decide +kernel
    unfold nodeOf
    rw [hl]
    rfl
  · rw [upd_other _ _ e]
    unfold nodeOf
    rw [node_none fun z hz => by rw [List.mem_singleton] at hz; subst hz; exact fun e3 => e e3.symm]
    rfl
theorem wf_new : WF [rootR] 1 := by
  have hm : ∀ x ∈ [rootR], x = rootR := fun x hx => List.mem_singleton.1 hx
  refine ⟨by simp, fun x hx => ?_, ⟨[], rfl⟩, fun x hx => ?_, fun d => ?_, fun x hx => ?_, ⟨fun _ => 0, fun x hx h1 => ?_⟩⟩
  · rw [hm x hx]; decide
  · rw [hm x hx]; exact ⟨rootR, List.mem_cons_self .., rfl, rfl⟩
  · rw [List.filter_eq_nil_iff.2 fun x hx => by rw [hm x hx]; unfold listP; simp [rootR]]
    exact List.nodup_nil
  · rw [hm x hx]; decide
  · rw [hm x hx] at h1
    exact absurd rfl h1

set_option maxRecDepth 100000 in
set_option maxHeartbeats 8000000 in
theorem law_Does (A : Option Addr) (c : Nat) (L : List ActT) (W : World) (h : ActsAt W A L) (hl : L.length ≤ 9223372036854775807) (ho : ∀ x ∈ L, ActOk x) :
    Calls Try.prog 4 #[.slice A L.length c] W fun e w' => e = .returned (.bool true) ∧ Below W.heap.size W w' := by
  have HAA := Lib.hid h
  have HO := Lib.hid ho
  have HSO := Lib.hid (law_short A c L W h hl ho)
  obtain ⟨m, hm⟩ : ∃ m, L.length = m := ⟨_, rfl⟩
  have HM := Lib.hid hm
  rw [hm] at HSO hl ⊢
  clear hm h ho
  have s0 : (⟨#[]⟩ : ByteArray) = mk [] := rfl
  have s1 : (⟨#[103, 111, 110, 101]⟩ : ByteArray) = mk [103, 111, 110, 101] := rfl
  have s2 : (⟨#[97]⟩ : ByteArray) = mk [97] := rfl
  go_enter Try.func4, Try.ntmps4
  simp only [s0, s1, s2]
  clear s0 s1 s2
  go_wp2_with fail
  refine HSO.out.mono ?_
  rintro e w' ⟨rfl | ⟨rfl, hs⟩, rfl⟩
  · go_wp2_with fail
    refine (tree_lives _).mono ?_
    rintro e w1 ⟨rfl, hb⟩
    go_wp2_with fail
    go_ret
    exact ⟨rfl, hb⟩
  · have HSH := Lib.hid hs
    clear hs
    go_wp2_with fail
    refine (tree_New W).mono ?_
    rintro e w1 ⟨⟨t, b, rfl, ht, hft, hfb⟩, hb1⟩
    rw [new_rel] at ht
    have H1 := Lib.hid (And.intro ht (And.intro hft (And.intro hfb hb1)))
    clear ht hft hfb hb1
    go_wp2_with fail
    refine (ref_New w1).mono ?_
    rintro e w2 ⟨⟨A0, c0, rfl, hn⟩, hb2⟩
    obtain ⟨R, hR⟩ : ∃ R, w2.heap.size = R := ⟨_, rfl⟩
    obtain ⟨w3, hw3⟩ : ∃ w3, w2.alloc (.cells #[.slice A0 1 c0, .int .i64 1] 29) = w3 := ⟨_, rfl⟩
    have H3 : Hid (TreeAt w3 t b (relS [rootR] 1) ∧ NodesAt w3 A0 [rootR] ∧ w3.heap[R]? = some (.cells #[.slice A0 1 c0, .int .i64 1] 29) ∧ t < R ∧ b < R ∧ W.heap.size ≤ t ∧ W.heap.size ≤ b ∧ W.heap.size ≤ R ∧ Below W.heap.size W w3) := Lib.hid (by
      have hb3 : Below w2.heap.size w2 w3 := by rw [← hw3]; exact (Below.refl _ _).alloc (Nat.le_refl _) _
      have h2 := ext_trans H1.out.2.2.2 hb2
      have hlt := (H1.out.1.below hb2).lt
      refine ⟨(H1.out.1.below hb2).below hb3, hn.below hb3, ?_, ?_, ?_, H1.out.2.1, H1.out.2.2.1, ?_, ext_trans h2 hb3⟩
      · rw [← hw3, ← hR]; exact heap_alloc_new _ _
      · rw [← hR]; exact hlt.1
      · rw [← hR]; exact hlt.2
      · rw [← hR]; exact h2.size)
    clear hn hb2
    go_wp2_with fail
    try rw [hR]
    try rw [hw3]
    clear hR hw3
    have HRW := Lib.hid H3.out.2.2.2.2.2.2.2.1
    go_loopg [5, 3] m (fun g iv tv wx => ∃ k : Nat, k + g = m ∧ iv = .int .i64 k ∧ ∃ t b, tv = .pointer (some ⟨t, 0, none⟩) ∧ Hid (∃ Lk la A1 c1, TreeAt wx t b (relS Lk la) ∧ NodesAt wx A1 Lk ∧ wx.heap[R]? = some (.cells #[.slice A1 Lk.length c1, .int .i64 la] 29) ∧ (WF Lk la ∧ Lk.length ≤ k + 1 ∧ la ≤ k + 1) ∧ (t ≠ R ∧ b ≠ R) ∧ (W.heap.size ≤ t ∧ W.heap.size ≤ b) ∧ Below W.heap.size W wx))
    case atStart => exact ⟨0, by omega, rfl, t, b, rfl, Lib.hid ⟨[rootR], 1, A0, c0, H3.out.1, H3.out.2.1, H3.out.2.2.1, ⟨wf_new, by simp, by decide⟩, ⟨by have := H3.out.2.2.2.1; omega, by have := H3.out.2.2.2.2.1; omega⟩, ⟨H3.out.2.2.2.2.2.1, H3.out.2.2.2.2.2.2.1⟩, H3.out.2.2.2.2.2.2.2.2⟩⟩
    case round =>
      clear H1 H3
      obtain ⟨k, hk, rfl, t, b, rfl, HX⟩ := hrel
      cases gk with
      | zero =>
        obtain rfl : k = m := by omega
        go_wp2_with fail
        refine (tree_lives _).mono ?_
        rintro e w1 ⟨rfl, hb⟩
        go_wp2_with fail
        go_ret
        obtain ⟨_, _, _, _, _, _, _, _, _, _, hB⟩ := HX.out
        exact ⟨rfl, ext_trans hB hb⟩
      | succ g =>
        have hkI : (k : Int) < (m : Int) := by omega
        have hk0 : (0 : Int) ≤ (k : Int) := by omega
        have hkl : k < L.length := by have := HM.out; omega
        obtain ⟨g0, off, rfl, hg0, _⟩ := HAA.out.cells hkl
        have HG := Lib.hid hg0
        have HAC := Lib.hid (fun w (hb : Below W.heap.size W w) => by
          obtain ⟨g1, off1, e, _, h⟩ := (HAA.out.below hb).cells hkl
          cases e
          exact h)
        have HOK := Lib.hid (HO.out _ (List.getElem_mem hkl))
        generalize L[k] = x at HAC HOK
        obtain ⟨dO, dI, tO, nM, aS, kD, dA⟩ := x
        simp only at HAC
        obtain ⟨Lk, la, A1, c1, hI⟩ := HX.out
        obtain ⟨q, hq⟩ : ∃ q, Lk.length = q := ⟨_, rfl⟩
        have HQ := Lib.hid hq
        rw [hq] at hI
        have HI := Lib.hid hI
        clear hI HX hg0 hq
        by_cases hin : 0 ≤ dO ∧ dO ≤ 3
        · have hd0 : ¬ dO < 0 := by omega
          have hd3 : ¬ dO > 3 := by omega
          clear hin
          obtain ⟨f0, f1, f2, f3, f4, f5, f6⟩ := HAC.out _ HI.out.2.2.2.2.2.2
          go_wp2_with fail
          have HJ := HI
          clear HI f0 f1 f2 f3 f4 f5 f6
          obtain ⟨w0, hw0⟩ : ∃ w0, wr = w0 := ⟨_, rfl⟩
          rw [hw0] at HJ ⊢
          clear hw0
          have HI := HJ
          clear HJ
          have r0 := blk_cell HI.out.2.2.1 0
          have r1 := blk_cell HI.out.2.2.1 1
          have hlr := blk_lt HI.out.2.2.1
          simp only [List.getElem?_toArray, List.getElem?_cons_zero, List.getElem?_cons_succ] at r0 r1
          obtain ⟨f0, f1, f2, f3, f4, f5, f6⟩ := HAC.out w0 HI.out.2.2.2.2.2.2
          have HLG : Hid (g0 < w0.heap.size ∧ g0 < W.heap.size) := Lib.hid ⟨Nat.lt_of_lt_of_le HG.out HI.out.2.2.2.2.2.2.size, HG.out⟩
          have HTL : Hid (t < w0.heap.size ∧ b < w0.heap.size) := Lib.hid HI.out.1.lt
          have HK0 : Hid (∀ w', Keep t b w0 w' → (fun w' : World => Keep t b w0 w' ∧ w'.cell? ⟨R, 0, none⟩ = some (.slice A1 q c1) ∧ w'.cell? ⟨R, 1, none⟩ = some (.int .i64 la) ∧ w'.cell? ⟨g0, off + k * 7, none⟩ = some (.int .i64 dO) ∧ w'.cell? ⟨g0, off + k * 7 + 1, none⟩ = some (.int .i64 dI) ∧ w'.cell? ⟨g0, off + k * 7 + 2, none⟩ = some (.int .i64 tO) ∧ w'.cell? ⟨g0, off + k * 7 + 3, none⟩ = some (.string (mk nM)) ∧ w'.cell? ⟨g0, off + k * 7 + 4, none⟩ = some (.string (mk aS)) ∧ w'.cell? ⟨g0, off + k * 7 + 5, none⟩ = some (.int .i64 kD) ∧ w'.cell? ⟨g0, off + k * 7 + 6, none⟩ = some (.string (mk dA))) w') := Lib.hid (by
            intro w' h
            have g1 := HLG.out
            have g2 := HI.out.2.2.2.2
            exact ⟨h, cell_keep h r0 hlr (by omega) (by omega), cell_keep h r1 hlr (by omega) (by omega), cell_keep h f0 HLG.out.1 (by omega) (by omega), cell_keep h f1 HLG.out.1 (by omega) (by omega), cell_keep h f2 HLG.out.1 (by omega) (by omega), cell_keep h f3 HLG.out.1 (by omega) (by omega), cell_keep h f4 HLG.out.1 (by omega) (by omega), cell_keep h f5 HLG.out.1 (by omega) (by omega), cell_keep h f6 HLG.out.1 (by omega) (by omega)⟩)
          have HDO : Hid (∀ w', Below w0.heap.size w0 w' → Calls Try.prog 10 #[.pointer (some ⟨t, 0, none⟩), .agg #[.slice A1 q c1, .int .i64 la], .agg #[.int .i64 dO, .int .i64 dI, .int .i64 tO, .string (mk nM), .string (mk aS), .int .i64 kD, .string (mk dA)]] w' (DoTo t b Lk la w')) := Lib.hid (fun w' hb => by
            have h := law_do t b A1 c1 Lk la ⟨dO, dI, tO, nM, aS, kD, dA⟩ w' (HI.out.1.below hb) (HI.out.2.1.below hb) HI.out.2.2.2.1.1 (by have := HQ.out; have := HI.out.2.2.2.1.2.1; have := HSH.out.2; have := HM.out; omega) (by have := HI.out.2.2.2.1.2.2; have := HSH.out.2; have := HM.out; omega) HOK.out
            rw [HQ.out] at h
            exact h)
          go_wp2_with fail
          go_region_held3 (fun w' => Keep t b w0 w' ∧ w'.cell? ⟨R, 0, none⟩ = some (.slice A1 q c1) ∧ w'.cell? ⟨R, 1, none⟩ = some (.int .i64 la) ∧ w'.cell? ⟨g0, off + k * 7, none⟩ = some (.int .i64 dO) ∧ w'.cell? ⟨g0, off + k * 7 + 1, none⟩ = some (.int .i64 dI) ∧ w'.cell? ⟨g0, off + k * 7 + 2, none⟩ = some (.int .i64 tO) ∧ w'.cell? ⟨g0, off + k * 7 + 3, none⟩ = some (.string (mk nM)) ∧ w'.cell? ⟨g0, off + k * 7 + 4, none⟩ = some (.string (mk aS)) ∧ w'.cell? ⟨g0, off + k * 7 + 5, none⟩ = some (.int .i64 kD) ∧ w'.cell? ⟨g0, off + k * 7 + 6, none⟩ = some (.string (mk dA)))
            (first
              | exact HK0.out _ (Keep.below (below_drewN (Below.refl _ _) 1))
              | exact HK0.out _ (Keep.below (below_drewN ((Below.refl _ _).alloc (Nat.le_refl _) _) 1))
              | exact HK0.out _ hK3
              | exact HK0.out _ (hK3.trans (Keep.below ((Below.refl _ _).alloc (Nat.le_refl _) _)))
              | exact HK0.out _ (hK3.own (Nat.le_refl _) ((Keep.setR 0 _).trans (Keep.setR 1 _)))
              | exact HK0.out _ ((by assumption : Keep t b w0 _ ∧ _).1.trans (Keep.below ((Below.refl _ _).alloc (Nat.le_refl _) _))))
            (first
              | (go_at_call 10; refine (HDO.out _ (below_drewN ((Below.refl _ _).alloc (Nat.le_refl _) _) 1)).mono ?_; rintro e w1 ⟨⟨L2, la2, A2, c2, rfl, hN2, hT2, hW2, hl2, hla2⟩, hK2⟩; have hK3 : Keep t b w0 w1 := (Keep.below (below_drewN ((Below.refl _ _).alloc (Nat.le_refl _) _) 1)).trans hK2; have hy : w1.heap[w0.heap.size]? = some (.cells #[.slice none 0 0, .int .i64 0] 29) := (hK2.block _ (blk_lt (heap_alloc_drew w0 _)) (Nat.ne_of_gt HTL.out.1) (Nat.ne_of_gt HTL.out.2)).trans (heap_alloc_drew w0 _); have y0 := blk_cell hy 0; have y1 := blk_cell hy 1; have zy0 := blk_frozen hy 0; have zy1 := blk_frozen hy 1; have hly := blk_lt hy; simp only [List.getElem?_toArray, List.getElem?_cons_zero, List.getElem?_cons_succ] at y0 y1)
              | (go_at_call 10; refine (HDO.out _ ((below_drewN (Below.refl _ _) 1).alloc (below_drewN (Below.refl _ _) 1).size _)).mono ?_; rintro e w1 ⟨⟨L2, la2, A2, c2, rfl, hN2, hT2, hW2, hl2, hla2⟩, hK2⟩; have hK3 : Keep t b w0 w1 := (Keep.below ((below_drewN (Below.refl _ _) 1).alloc (below_drewN (Below.refl _ _) 1).size _)).trans hK2; have hy : w1.heap[w0.heap.size]? = some (.cells #[.slice none 0 0, .int .i64 0] 29) := (hK2.block _ (blk_lt (heap_alloc_new w0.drew _)) (Nat.ne_of_gt HTL.out.1) (Nat.ne_of_gt HTL.out.2)).trans (heap_alloc_new w0.drew _); have y0 := blk_cell hy 0; have y1 := blk_cell hy 1; have zy0 := blk_frozen hy 0; have zy1 := blk_frozen hy 1; have hly := blk_lt hy; simp only [List.getElem?_toArray, List.getElem?_cons_zero, List.getElem?_cons_succ] at y0 y1)
              | (go_at_call 10; refine (HDO.out _ (below_drewN (Below.refl _ _) 1)).mono ?_; rintro e w1 ⟨⟨L2, la2, A2, c2, rfl, hN2, hT2, hW2, hl2, hla2⟩, hK2⟩; have hK3 : Keep t b w0 w1 := (Keep.below (below_drewN (Below.refl _ _) 1)).trans hK2))
          all_goals (
            rename_i hH
            first
              | (obtain ⟨wz, hwz⟩ : ∃ wz, w1.alloc (.cells #[.slice A2 L2.length c2, .int .i64 la2] 29) = wz := ⟨_, rfl⟩
                 rw [hwz]
                 obtain ⟨Y, hY⟩ : ∃ Y, w1.heap.size = Y := ⟨_, rfl⟩
                 try rw [hY]
                 have HZ : Hid (Keep t b w0 wz ∧ wz.heap[Y]? = some (.cells #[.slice A2 L2.length c2, .int .i64 la2] 29) ∧ TreeAt wz t b (relS L2 la2) ∧ NodesAt wz A2 L2) := Lib.hid (by
                   have hal : Below w1.heap.size w1 wz := by rw [← hwz]; exact (Below.refl _ _).alloc (Nat.le_refl _) _
                   refine ⟨hK3.trans (Keep.below hal), ?_, hT2.below hal, hN2.below hal⟩
                   rw [← hwz, ← hY]
                   exact heap_alloc_new _ _)
                 clear hwz hY)
              | (obtain ⟨Y, hY⟩ : ∃ Y, w0.heap.size = Y := ⟨_, rfl⟩
                 have HYL : Hid (w0.heap.size ≤ Y ∧ t ≠ Y ∧ b ≠ Y) := Lib.hid (by have := HTL.out; rw [← hY]; exact ⟨Nat.le_refl _, by omega, by omega⟩)
                 rw [hY] at hy ⊢
                 obtain ⟨wz, hwz⟩ : ∃ wz, (w1.setCell ⟨Y, 0, none⟩ (.slice A2 L2.length c2)).setCell ⟨Y, 1, none⟩ (.int .i64 la2) = wz := ⟨_, rfl⟩
                 rw [hwz]
                 have HZ : Hid (Keep t b w0 wz ∧ wz.heap[Y]? = some (.cells #[.slice A2 L2.length c2, .int .i64 la2] 29) ∧ TreeAt wz t b (relS L2 la2) ∧ NodesAt wz A2 L2) := Lib.hid (by
                   have k : Keep Y Y w1 wz := by rw [← hwz]; exact (Keep.setR 0 _).trans (Keep.setR 1 _)
                   refine ⟨hK3.own HYL.out.1 k, ?_, hT2.far hy HYL.out.2 k, hN2.far hy k⟩
                   rw [← hwz]
                   exact heap_setCell_at (heap_setCell_at hy 0 _) 1 _)
                 clear hwz hY hy HYL y0 y1 zy0 zy1 hly)
            have HRZ := Lib.hid ((HZ.out.1.block R hlr (Ne.symm HI.out.2.2.2.2.1.1) (Ne.symm HI.out.2.2.2.2.1.2)).trans HI.out.2.2.1)
            have HNB := Lib.hid (And.intro hW2 (And.intro hl2 hla2))
            have HE : Hid (TreeAt ((wz.setCell ⟨R, 0, none⟩ (.slice A2 L2.length c2)).setCell ⟨R, 1, none⟩ (.int .i64 la2)) t b (relS L2 la2) ∧ NodesAt ((wz.setCell ⟨R, 0, none⟩ (.slice A2 L2.length c2)).setCell ⟨R, 1, none⟩ (.int .i64 la2)) A2 L2 ∧ ((wz.setCell ⟨R, 0, none⟩ (.slice A2 L2.length c2)).setCell ⟨R, 1, none⟩ (.int .i64 la2)).heap[R]? = some (.cells #[.slice A2 L2.length c2, .int .i64 la2] 29) ∧ Below W.heap.size W ((wz.setCell ⟨R, 0, none⟩ (.slice A2 L2.length c2)).setCell ⟨R, 1, none⟩ (.int .i64 la2))) := Lib.hid (by
              have k : Keep R R wz ((wz.setCell ⟨R, 0, none⟩ (.slice A2 L2.length c2)).setCell ⟨R, 1, none⟩ (.int .i64 la2)) := (Keep.setR 0 _).trans (Keep.setR 1 _)
              have hbz : Below W.heap.size W wz := Keep.under HI.out.2.2.2.2.2.2 HZ.out.1 HI.out.2.2.2.2.2.1.1 HI.out.2.2.2.2.2.1.2 HI.out.2.2.2.2.2.2.size
              exact ⟨HZ.out.2.2.1.far HRZ.out HI.out.2.2.2.2.1 k, HZ.out.2.2.2.far HRZ.out k, heap_setCell_at (heap_setCell_at HRZ.out 0 _) 1 _, (hbz.setCell (p := ⟨R, 0, none⟩) HRW.out _).setCell (p := ⟨R, 1, none⟩) HRW.out _⟩)
            have HSA := Lib.hid (law_Same t b A2 c2 L2 la2 _ HE.out.1 HE.out.2.1 HNB.out.1 (by have := HNB.out.2; have := HQ.out; have := HI.out.2.2.2.1.2.1; have := HSH.out.2; have := HM.out; omega) (by have := HNB.out.2; have := HI.out.2.2.2.1.2.2; have := HSH.out.2; have := HM.out; omega))
            clear hH hK2 hK3 hT2 hN2 hW2 hl2 hla2 r0 r1 hlr f0 f1 f2 f3 f4 f5 f6 HDO HK0
            have y0 := blk_cell HZ.out.2.1 0
            have y1 := blk_cell HZ.out.2.1 1
            have r0 := blk_cell HRZ.out 0
            have r1 := blk_cell HRZ.out 1
            have zr0 := blk_frozen HRZ.out 0
            have zr1 := blk_frozen HRZ.out 1
            have hlr := blk_lt HRZ.out
            simp only [List.getElem?_toArray, List.getElem?_cons_zero, List.getElem?_cons_succ] at r0 r1 y0 y1
            go_wp2_with fail
            refine HSA.out.mono ?_
            rintro e w5 ⟨rfl, hb5⟩
            have H5 := Lib.hid hb5
            clear hb5 y0 y1 r0 r1 zr0 zr1 hlr
            go_wp2_with fail
            go_roundg g
            case measure => omega
            case rel => exact ⟨k + 1, by omega, by go_num, t, b, rfl, Lib.hid ⟨L2, la2, A2, c2, HE.out.1.below H5.out, HE.out.2.1.below H5.out, (H5.out.block _ (blk_lt HE.out.2.2.1)).trans HE.out.2.2.1, ⟨HNB.out.1, by have := HNB.out.2; have := HQ.out; have := HI.out.2.2.2.1.2.1; omega, by have := HNB.out.2; have := HI.out.2.2.2.1.2.2; omega⟩, HI.out.2.2.2.2.1, HI.out.2.2.2.2.2.1, ext_trans HE.out.2.2.2 H5.out⟩⟩)
        · by_cases hneg : dO < 0
          · clear hin
            obtain ⟨f0, f1, f2, f3, f4, f5, f6⟩ := HAC.out _ HI.out.2.2.2.2.2.2
            have HCO := Lib.hid (tree_Copy t b (relS Lk la) wr HI.out.1 (small_rel HI.out.2.2.2.1.1 (by have := HI.out.2.2.2.1.2.2; have := HSH.out.2; have := HM.out; omega) (by have := HQ.out; have := HI.out.2.2.2.1.2.1; have := HSH.out.2; have := HM.out; omega)) (full_rel HI.out.2.2.2.1.1))
            go_wp2_with fail
            refine HCO.out.mono ?_
            rintro e wa ⟨⟨t2, b2, rfl, hTc, htc, hbc⟩, hba⟩
            have HA := Lib.hid (And.intro hTc (And.intro (HI.out.1.below hba) (And.intro (And.intro htc hbc) hba)))
            have HPUT := Lib.hid (tree_Put t b (relS Lk la) 1 [103, 111, 110, 101] 1 [] wa HA.out.2.1 (small_rel HI.out.2.2.2.1.1 (by have := HI.out.2.2.2.1.2.2; have := HSH.out.2; have := HM.out; omega) (by have := HQ.out; have := HI.out.2.2.2.1.2.1; have := HSH.out.2; have := HM.out; omega)) (by decide) (by simp) (by simp) (by show la < 1000000; have := HI.out.2.2.2.1.2.2; have := HSH.out.2; have := HM.out; omega))
            have HPR := Lib.hid (put_rel HI.out.2.2.2.1.1 1 [103, 111, 110, 101] 1 [])
            have HLE := Lib.hid (put_len Lk la 1 [103, 111, 110, 101] 1 [])
            rw [HPR.out.1] at HPUT
            obtain ⟨P, hP⟩ : ∃ P, putR Lk la 1 [103, 111, 110, 101] 1 [] = P := ⟨_, rfl⟩
            rw [hP] at HPUT HPR HLE
            obtain ⟨L3, la3, n3, e3⟩ := P
            simp only at HPUT HPR HLE
            clear hTc htc hbc hba hP
            go_wp2_with fail
            refine HPUT.out.mono ?_
            rintro e wb ⟨rfl, hTb, hKb⟩
            have HB := Lib.hid (And.intro hTb hKb)
            have HCUT := Lib.hid (tree_Cut t b (relS L3 la3) 1 [97] wb hTb (small_rel HPR.out.2 (by have := HLE.out.2; have := HI.out.2.2.2.1.2.2; have := HSH.out.2; have := HM.out; omega) (by have := HLE.out.1; have := HQ.out; have := HI.out.2.2.2.1.2.1; have := HSH.out.2; have := HM.out; omega)) (by decide))
            clear hTb hKb
            simp only
            go_wp2_with fail
            refine HCUT.out.mono ?_
            rintro e wc ⟨rfl, hTd, hKd⟩
            have HJ : Hid (TreeAt wc t2 b2 (relS Lk la) ∧ NodesAt wc A1 Lk ∧ wc.heap[R]? = some (.cells #[.slice A1 q c1, .int .i64 la] 29) ∧ (WF Lk la ∧ q ≤ k + 1 ∧ la ≤ k + 1) ∧ (t2 ≠ R ∧ b2 ≠ R) ∧ (W.heap.size ≤ t2 ∧ W.heap.size ≤ b2) ∧ Below W.heap.size W wc) := Lib.hid (by
              have hK : Keep t b wa wc := HB.out.2.trans hKd
              have hba := HA.out.2.2.2
              have hlt := HI.out.1.lt
              have htb := HA.out.2.2.1
              have hRl := blk_lt HI.out.2.2.1
              have hsz := HI.out.2.2.2.2.2.2.size
              refine ⟨HA.out.1.other HA.out.2.1 ⟨by omega, by omega, by omega, by omega⟩ hK, (HI.out.2.1.below hba).turn HA.out.2.1 hK, ?_, HI.out.2.2.2.1, ⟨by omega, by omega⟩, ⟨by omega, by omega⟩, ?_⟩
              · exact (hK.block R (Nat.lt_of_lt_of_le hRl hba.size) (Ne.symm HI.out.2.2.2.2.1.1) (Ne.symm HI.out.2.2.2.2.1.2)).trans ((hba.block R hRl).trans HI.out.2.2.1)
              · have h2 := ext_trans HI.out.2.2.2.2.2.2 hba
                exact Keep.under h2 hK HI.out.2.2.2.2.2.1.1 HI.out.2.2.2.2.2.1.2 h2.size)
            clear HI hTd hKd HA HB HCO HPUT HPR HLE HCUT f0 f1 f2 f3 f4 f5 f6
            go_wp2_with fail
            obtain ⟨w0, hw0⟩ : ∃ w0, wc = w0 := ⟨_, rfl⟩
            rw [hw0] at HJ ⊢
            clear hw0
            have HI := HJ
            clear HJ
            have r0 := blk_cell HI.out.2.2.1 0
            have r1 := blk_cell HI.out.2.2.1 1
            have hlr := blk_lt HI.out.2.2.1
            simp only [List.getElem?_toArray, List.getElem?_cons_zero, List.getElem?_cons_succ] at r0 r1
            obtain ⟨f0, f1, f2, f3, f4, f5, f6⟩ := HAC.out w0 HI.out.2.2.2.2.2.2
            have HLG : Hid (g0 < w0.heap.size ∧ g0 < W.heap.size) := Lib.hid ⟨Nat.lt_of_lt_of_le HG.out HI.out.2.2.2.2.2.2.size, HG.out⟩
            have HTL : Hid (t2 < w0.heap.size ∧ b2 < w0.heap.size) := Lib.hid HI.out.1.lt
            have HK0 : Hid (∀ w', Keep t2 b2 w0 w' → (fun w' : World => Keep t2 b2 w0 w' ∧ w'.cell? ⟨R, 0, none⟩ = some (.slice A1 q c1) ∧ w'.cell? ⟨R, 1, none⟩ = some (.int .i64 la) ∧ w'.cell? ⟨g0, off + k * 7, none⟩ = some (.int .i64 dO) ∧ w'.cell? ⟨g0, off + k * 7 + 1, none⟩ = some (.int .i64 dI) ∧ w'.cell? ⟨g0, off + k * 7 + 2, none⟩ = some (.int .i64 tO) ∧ w'.cell? ⟨g0, off + k * 7 + 3, none⟩ = some (.string (mk nM)) ∧ w'.cell? ⟨g0, off + k * 7 + 4, none⟩ = some (.string (mk aS)) ∧ w'.cell? ⟨g0, off + k * 7 + 5, none⟩ = some (.int .i64 kD) ∧ w'.cell? ⟨g0, off + k * 7 + 6, none⟩ = some (.string (mk dA))) w') := Lib.hid (by
              intro w' h
              have g1 := HLG.out
              have g2 := HI.out.2.2.2.2
              exact ⟨h, cell_keep h r0 hlr (by omega) (by omega), cell_keep h r1 hlr (by omega) (by omega), cell_keep h f0 HLG.out.1 (by omega) (by omega), cell_keep h f1 HLG.out.1 (by omega) (by omega), cell_keep h f2 HLG.out.1 (by omega) (by omega), cell_keep h f3 HLG.out.1 (by omega) (by omega), cell_keep h f4 HLG.out.1 (by omega) (by omega), cell_keep h f5 HLG.out.1 (by omega) (by omega), cell_keep h f6 HLG.out.1 (by omega) (by omega)⟩)
            have HDO : Hid (∀ w', Below w0.heap.size w0 w' → Calls Try.prog 10 #[.pointer (some ⟨t2, 0, none⟩), .agg #[.slice A1 q c1, .int .i64 la], .agg #[.int .i64 dO, .int .i64 dI, .int .i64 tO, .string (mk nM), .string (mk aS), .int .i64 kD, .string (mk dA)]] w' (DoTo t2 b2 Lk la w')) := Lib.hid (fun w' hb => by
              have h := law_do t2 b2 A1 c1 Lk la ⟨dO, dI, tO, nM, aS, kD, dA⟩ w' (HI.out.1.below hb) (HI.out.2.1.below hb) HI.out.2.2.2.1.1 (by have := HQ.out; have := HI.out.2.2.2.1.2.1; have := HSH.out.2; have := HM.out; omega) (by have := HI.out.2.2.2.1.2.2; have := HSH.out.2; have := HM.out; omega) HOK.out
              rw [HQ.out] at h
              exact h)
            go_wp2_with fail
            go_region_held3 (fun w' => Keep t2 b2 w0 w' ∧ w'.cell? ⟨R, 0, none⟩ = some (.slice A1 q c1) ∧ w'.cell? ⟨R, 1, none⟩ = some (.int .i64 la) ∧ w'.cell? ⟨g0, off + k * 7, none⟩ = some (.int .i64 dO) ∧ w'.cell? ⟨g0, off + k * 7 + 1, none⟩ = some (.int .i64 dI) ∧ w'.cell? ⟨g0, off + k * 7 + 2, none⟩ = some (.int .i64 tO) ∧ w'.cell? ⟨g0, off + k * 7 + 3, none⟩ = some (.string (mk nM)) ∧ w'.cell? ⟨g0, off + k * 7 + 4, none⟩ = some (.string (mk aS)) ∧ w'.cell? ⟨g0, off + k * 7 + 5, none⟩ = some (.int .i64 kD) ∧ w'.cell? ⟨g0, off + k * 7 + 6, none⟩ = some (.string (mk dA)))
              (first
                | exact HK0.out _ (Keep.below (below_drewN (Below.refl _ _) 1))
                | exact HK0.out _ (Keep.below (below_drewN ((Below.refl _ _).alloc (Nat.le_refl _) _) 1))
                | exact HK0.out _ hK3
                | exact HK0.out _ (hK3.trans (Keep.below ((Below.refl _ _).alloc (Nat.le_refl _) _)))
                | exact HK0.out _ (hK3.own (Nat.le_refl _) ((Keep.setR 0 _).trans (Keep.setR 1 _)))
                | exact HK0.out _ ((by assumption : Keep t2 b2 w0 _ ∧ _).1.trans (Keep.below ((Below.refl _ _).alloc (Nat.le_refl _) _))))
              (first
                | (go_at_call 10; refine (HDO.out _ (below_drewN ((Below.refl _ _).alloc (Nat.le_refl _) _) 1)).mono ?_; rintro e w1 ⟨⟨L2, la2, A2, c2, rfl, hN2, hT2, hW2, hl2, hla2⟩, hK2⟩; have hK3 : Keep t2 b2 w0 w1 := (Keep.below (below_drewN ((Below.refl _ _).alloc (Nat.le_refl _) _) 1)).trans hK2; have hy : w1.heap[w0.heap.size]? = some (.cells #[.slice none 0 0, .int .i64 0] 29) := (hK2.block _ (blk_lt (heap_alloc_drew w0 _)) (Nat.ne_of_gt HTL.out.1) (Nat.ne_of_gt HTL.out.2)).trans (heap_alloc_drew w0 _); have y0 := blk_cell hy 0; have y1 := blk_cell hy 1; have zy0 := blk_frozen hy 0; have zy1 := blk_frozen hy 1; have hly := blk_lt hy; simp only [List.getElem?_toArray, List.getElem?_cons_zero, List.getElem?_cons_succ] at y0 y1)
                | (go_at_call 10; refine (HDO.out _ ((below_drewN (Below.refl _ _) 1).alloc (below_drewN (Below.refl _ _) 1).size _)).mono ?_; rintro e w1 ⟨⟨L2, la2, A2, c2, rfl, hN2, hT2, hW2, hl2, hla2⟩, hK2⟩; have hK3 : Keep t2 b2 w0 w1 := (Keep.below ((below_drewN (Below.refl _ _) 1).alloc (below_drewN (Below.refl _ _) 1).size _)).trans hK2; have hy : w1.heap[w0.heap.size]? = some (.cells #[.slice none 0 0, .int .i64 0] 29) := (hK2.block _ (blk_lt (heap_alloc_new w0.drew _)) (Nat.ne_of_gt HTL.out.1) (Nat.ne_of_gt HTL.out.2)).trans (heap_alloc_new w0.drew _); have y0 := blk_cell hy 0; have y1 := blk_cell hy 1; have zy0 := blk_frozen hy 0; have zy1 := blk_frozen hy 1; have hly := blk_lt hy; simp only [List.getElem?_toArray, List.getElem?_cons_zero, List.getElem?_cons_succ] at y0 y1)
                | (go_at_call 10; refine (HDO.out _ (below_drewN (Below.refl _ _) 1)).mono ?_; rintro e w1 ⟨⟨L2, la2, A2, c2, rfl, hN2, hT2, hW2, hl2, hla2⟩, hK2⟩; have hK3 : Keep t2 b2 w0 w1 := (Keep.below (below_drewN (Below.refl _ _) 1)).trans hK2))
            all_goals (
              rename_i hH
              first
                | (obtain ⟨wz, hwz⟩ : ∃ wz, w1.alloc (.cells #[.slice A2 L2.length c2, .int .i64 la2] 29) = wz := ⟨_, rfl⟩
                   rw [hwz]
                   obtain ⟨Y, hY⟩ : ∃ Y, w1.heap.size = Y := ⟨_, rfl⟩
                   try rw [hY]
                   have HZ : Hid (Keep t2 b2 w0 wz ∧ wz.heap[Y]? = some (.cells #[.slice A2 L2.length c2, .int .i64 la2] 29) ∧ TreeAt wz t2 b2 (relS L2 la2) ∧ NodesAt wz A2 L2) := Lib.hid (by
                     have hal : Below w1.heap.size w1 wz := by rw [← hwz]; exact (Below.refl _ _).alloc (Nat.le_refl _) _
                     refine ⟨hK3.trans (Keep.below hal), ?_, hT2.below hal, hN2.below hal⟩
                     rw [← hwz, ← hY]
                     exact heap_alloc_new _ _)
                   clear hwz hY)
                | (obtain ⟨Y, hY⟩ : ∃ Y, w0.heap.size = Y := ⟨_, rfl⟩
                   have HYL : Hid (w0.heap.size ≤ Y ∧ t2 ≠ Y ∧ b2 ≠ Y) := Lib.hid (by have := HTL.out; rw [← hY]; exact ⟨Nat.le_refl _, by omega, by omega⟩)
                   rw [hY] at hy ⊢
                   obtain ⟨wz, hwz⟩ : ∃ wz, (w1.setCell ⟨Y, 0, none⟩ (.slice A2 L2.length c2)).setCell ⟨Y, 1, none⟩ (.int .i64 la2) = wz := ⟨_, rfl⟩
                   rw [hwz]
                   have HZ : Hid (Keep t2 b2 w0 wz ∧ wz.heap[Y]? = some (.cells #[.slice A2 L2.length c2, .int .i64 la2] 29) ∧ TreeAt wz t2 b2 (relS L2 la2) ∧ NodesAt wz A2 L2) := Lib.hid (by
                     have k : Keep Y Y w1 wz := by rw [← hwz]; exact (Keep.setR 0 _).trans (Keep.setR 1 _)
                     refine ⟨hK3.own HYL.out.1 k, ?_, hT2.far hy HYL.out.2 k, hN2.far hy k⟩
                     rw [← hwz]
                     exact heap_setCell_at (heap_setCell_at hy 0 _) 1 _)
                   clear hwz hY hy HYL y0 y1 zy0 zy1 hly)
              have HRZ := Lib.hid ((HZ.out.1.block R hlr (Ne.symm HI.out.2.2.2.2.1.1) (Ne.symm HI.out.2.2.2.2.1.2)).trans HI.out.2.2.1)
              have HNB := Lib.hid (And.intro hW2 (And.intro hl2 hla2))
              have HE : Hid (TreeAt ((wz.setCell ⟨R, 0, none⟩ (.slice A2 L2.length c2)).setCell ⟨R, 1, none⟩ (.int .i64 la2)) t2 b2 (relS L2 la2) ∧ NodesAt ((wz.setCell ⟨R, 0, none⟩ (.slice A2 L2.length c2)).setCell ⟨R, 1, none⟩ (.int .i64 la2)) A2 L2 ∧ ((wz.setCell ⟨R, 0, none⟩ (.slice A2 L2.length c2)).setCell ⟨R, 1, none⟩ (.int .i64 la2)).heap[R]? = some (.cells #[.slice A2 L2.length c2, .int .i64 la2] 29) ∧ Below W.heap.size W ((wz.setCell ⟨R, 0, none⟩ (.slice A2 L2.length c2)).setCell ⟨R, 1, none⟩ (.int .i64 la2))) := Lib.hid (by
                have k : Keep R R wz ((wz.setCell ⟨R, 0, none⟩ (.slice A2 L2.length c2)).setCell ⟨R, 1, none⟩ (.int .i64 la2)) := (Keep.setR 0 _).trans (Keep.setR 1 _)
                have hbz : Below W.heap.size W wz := Keep.under HI.out.2.2.2.2.2.2 HZ.out.1 HI.out.2.2.2.2.2.1.1 HI.out.2.2.2.2.2.1.2 HI.out.2.2.2.2.2.2.size
                exact ⟨HZ.out.2.2.1.far HRZ.out HI.out.2.2.2.2.1 k, HZ.out.2.2.2.far HRZ.out k, heap_setCell_at (heap_setCell_at HRZ.out 0 _) 1 _, (hbz.setCell (p := ⟨R, 0, none⟩) HRW.out _).setCell (p := ⟨R, 1, none⟩) HRW.out _⟩)
              have HSA := Lib.hid (law_Same t2 b2 A2 c2 L2 la2 _ HE.out.1 HE.out.2.1 HNB.out.1 (by have := HNB.out.2; have := HQ.out; have := HI.out.2.2.2.1.2.1; have := HSH.out.2; have := HM.out; omega) (by have := HNB.out.2; have := HI.out.2.2.2.1.2.2; have := HSH.out.2; have := HM.out; omega))
              clear hH hK2 hK3 hT2 hN2 hW2 hl2 hla2 r0 r1 hlr f0 f1 f2 f3 f4 f5 f6 HDO HK0
              have y0 := blk_cell HZ.out.2.1 0
              have y1 := blk_cell HZ.out.2.1 1
              have r0 := blk_cell HRZ.out 0
              have r1 := blk_cell HRZ.out 1
              have zr0 := blk_frozen HRZ.out 0
              have zr1 := blk_frozen HRZ.out 1
              have hlr := blk_lt HRZ.out
              simp only [List.getElem?_toArray, List.getElem?_cons_zero, List.getElem?_cons_succ] at r0 r1 y0 y1
              go_wp2_with fail
              refine HSA.out.mono ?_
              rintro e w5 ⟨rfl, hb5⟩
              have H5 := Lib.hid hb5
              clear hb5 y0 y1 r0 r1 zr0 zr1 hlr
              go_wp2_with fail
              go_roundg g
              case measure => omega
              case rel => exact ⟨k + 1, by omega, by go_num, t2, b2, rfl, Lib.hid ⟨L2, la2, A2, c2, HE.out.1.below H5.out, HE.out.2.1.below H5.out, (H5.out.block _ (blk_lt HE.out.2.2.1)).trans HE.out.2.2.1, ⟨HNB.out.1, by have := HNB.out.2; have := HQ.out; have := HI.out.2.2.2.1.2.1; omega, by have := HNB.out.2; have := HI.out.2.2.2.1.2.2; omega⟩, HI.out.2.2.2.2.1, HI.out.2.2.2.2.2.1, ext_trans HE.out.2.2.2 H5.out⟩⟩)
          · have hd3 : dO > 3 := by omega
            clear hin
            obtain ⟨f0, f1, f2, f3, f4, f5, f6⟩ := HAC.out _ HI.out.2.2.2.2.2.2
            have HCO := Lib.hid (tree_Copy t b (relS Lk la) wr HI.out.1 (small_rel HI.out.2.2.2.1.1 (by have := HI.out.2.2.2.1.2.2; have := HSH.out.2; have := HM.out; omega) (by have := HQ.out; have := HI.out.2.2.2.1.2.1; have := HSH.out.2; have := HM.out; omega)) (full_rel HI.out.2.2.2.1.1))
            go_wp2_with fail
            refine HCO.out.mono ?_
            rintro e wa ⟨⟨t2, b2, rfl, hTc, htc, hbc⟩, hba⟩
            have HA := Lib.hid (And.intro hTc (And.intro (HI.out.1.below hba) (And.intro (And.intro htc hbc) hba)))
            have HPUT := Lib.hid (tree_Put t b (relS Lk la) 1 [103, 111, 110, 101] 1 [] wa HA.out.2.1 (small_rel HI.out.2.2.2.1.1 (by have := HI.out.2.2.2.1.2.2; have := HSH.out.2; have := HM.out; omega) (by have := HQ.out; have := HI.out.2.2.2.1.2.1; have := HSH.out.2; have := HM.out; omega)) (by decide) (by simp) (by simp) (by show la < 1000000; have := HI.out.2.2.2.1.2.2; have := HSH.out.2; have := HM.out; omega))
            have HPR := Lib.hid (put_rel HI.out.2.2.2.1.1 1 [103, 111, 110, 101] 1 [])
            have HLE := Lib.hid (put_len Lk la 1 [103, 111, 110, 101] 1 [])
            rw [HPR.out.1] at HPUT
            obtain ⟨P, hP⟩ : ∃ P, putR Lk la 1 [103, 111, 110, 101] 1 [] = P := ⟨_, rfl⟩
            rw [hP] at HPUT HPR HLE
            obtain ⟨L3, la3, n3, e3⟩ := P
            simp only at HPUT HPR HLE
            clear hTc htc hbc hba hP
            go_wp2_with fail
            refine HPUT.out.mono ?_
            rintro e wb ⟨rfl, hTb, hKb⟩
            have HB := Lib.hid (And.intro hTb hKb)
            have HCUT := Lib.hid (tree_Cut t b (relS L3 la3) 1 [97] wb hTb (small_rel HPR.out.2 (by have := HLE.out.2; have := HI.out.2.2.2.1.2.2; have := HSH.out.2; have := HM.out; omega) (by have := HLE.out.1; have := HQ.out; have := HI.out.2.2.2.1.2.1; have := HSH.out.2; have := HM.out; omega)) (by decide))
            clear hTb hKb
            simp only
            go_wp2_with fail
            refine HCUT.out.mono ?_
            rintro e wc ⟨rfl, hTd, hKd⟩
            have HJ : Hid (TreeAt wc t2 b2 (relS Lk la) ∧ NodesAt wc A1 Lk ∧ wc.heap[R]? = some (.cells #[.slice A1 q c1, .int .i64 la] 29) ∧ (WF Lk la ∧ q ≤ k + 1 ∧ la ≤ k + 1) ∧ (t2 ≠ R ∧ b2 ≠ R) ∧ (W.heap.size ≤ t2 ∧ W.heap.size ≤ b2) ∧ Below W.heap.size W wc) := Lib.hid (by
              have hK : Keep t b wa wc := HB.out.2.trans hKd
              have hba := HA.out.2.2.2
              have hlt := HI.out.1.lt
              have htb := HA.out.2.2.1
              have hRl := blk_lt HI.out.2.2.1
              have hsz := HI.out.2.2.2.2.2.2.size
              refine ⟨HA.out.1.other HA.out.2.1 ⟨by omega, by omega, by omega, by omega⟩ hK, (HI.out.2.1.below hba).turn HA.out.2.1 hK, ?_, HI.out.2.2.2.1, ⟨by omega, by omega⟩, ⟨by omega, by omega⟩, ?_⟩
              · exact (hK.block R (Nat.lt_of_lt_of_le hRl hba.size) (Ne.symm HI.out.2.2.2.2.1.1) (Ne.symm HI.out.2.2.2.2.1.2)).trans ((hba.block R hRl).trans HI.out.2.2.1)
              · have h2 := ext_trans HI.out.2.2.2.2.2.2 hba
                exact Keep.under h2 hK HI.out.2.2.2.2.2.1.1 HI.out.2.2.2.2.2.1.2 h2.size)
            clear HI hTd hKd HA HB HCO HPUT HPR HLE HCUT f0 f1 f2 f3 f4 f5 f6
            go_wp2_with fail
            obtain ⟨w0, hw0⟩ : ∃ w0, wc = w0 := ⟨_, rfl⟩
            rw [hw0] at HJ ⊢
            clear hw0
            have HI := HJ
            clear HJ
            have r0 := blk_cell HI.out.2.2.1 0
            have r1 := blk_cell HI.out.2.2.1 1
            have hlr := blk_lt HI.out.2.2.1
            simp only [List.getElem?_toArray, List.getElem?_cons_zero, List.getElem?_cons_succ] at r0 r1
            obtain ⟨f0, f1, f2, f3, f4, f5, f6⟩ := HAC.out w0 HI.out.2.2.2.2.2.2
            have HLG : Hid (g0 < w0.heap.size ∧ g0 < W.heap.size) := Lib.hid ⟨Nat.lt_of_lt_of_le HG.out HI.out.2.2.2.2.2.2.size, HG.out⟩
            have HTL : Hid (t2 < w0.heap.size ∧ b2 < w0.heap.size) := Lib.hid HI.out.1.lt
            have HK0 : Hid (∀ w', Keep t2 b2 w0 w' → (fun w' : World => Keep t2 b2 w0 w' ∧ w'.cell? ⟨R, 0, none⟩ = some (.slice A1 q c1) ∧ w'.cell? ⟨R, 1, none⟩ = some (.int .i64 la) ∧ w'.cell? ⟨g0, off + k * 7, none⟩ = some (.int .i64 dO) ∧ w'.cell? ⟨g0, off + k * 7 + 1, none⟩ = some (.int .i64 dI) ∧ w'.cell? ⟨g0, off + k * 7 + 2, none⟩ = some (.int .i64 tO) ∧ w'.cell? ⟨g0, off + k * 7 + 3, none⟩ = some (.string (mk nM)) ∧ w'.cell? ⟨g0, off + k * 7 + 4, none⟩ = some (.string (mk aS)) ∧ w'.cell? ⟨g0, off + k * 7 + 5, none⟩ = some (.int .i64 kD) ∧ w'.cell? ⟨g0, off + k * 7 + 6, none⟩ = some (.string (mk dA))) w') := Lib.hid (by
              intro w' h
              have g1 := HLG.out
              have g2 := HI.out.2.2.2.2
              exact ⟨h, cell_keep h r0 hlr (by omega) (by omega), cell_keep h r1 hlr (by omega) (by omega), cell_keep h f0 HLG.out.1 (by omega) (by omega), cell_keep h f1 HLG.out.1 (by omega) (by omega), cell_keep h f2 HLG.out.1 (by omega) (by omega), cell_keep h f3 HLG.out.1 (by omega) (by omega), cell_keep h f4 HLG.out.1 (by omega) (by omega), cell_keep h f5 HLG.out.1 (by omega) (by omega), cell_keep h f6 HLG.out.1 (by omega) (by omega)⟩)
            have HDO : Hid (∀ w', Below w0.heap.size w0 w' → Calls Try.prog 10 #[.pointer (some ⟨t2, 0, none⟩), .agg #[.slice A1 q c1, .int .i64 la], .agg #[.int .i64 dO, .int .i64 dI, .int .i64 tO, .string (mk nM), .string (mk aS), .int .i64 kD, .string (mk dA)]] w' (DoTo t2 b2 Lk la w')) := Lib.hid (fun w' hb => by
              have h := law_do t2 b2 A1 c1 Lk la ⟨dO, dI, tO, nM, aS, kD, dA⟩ w' (HI.out.1.below hb) (HI.out.2.1.below hb) HI.out.2.2.2.1.1 (by have := HQ.out; have := HI.out.2.2.2.1.2.1; have := HSH.out.2; have := HM.out; omega) (by have := HI.out.2.2.2.1.2.2; have := HSH.out.2; have := HM.out; omega) HOK.out
              rw [HQ.out] at h
              exact h)
            go_wp2_with fail
            go_region_held3 (fun w' => Keep t2 b2 w0 w' ∧ w'.cell? ⟨R, 0, none⟩ = some (.slice A1 q c1) ∧ w'.cell? ⟨R, 1, none⟩ = some (.int .i64 la) ∧ w'.cell? ⟨g0, off + k * 7, none⟩ = some (.int .i64 dO) ∧ w'.cell? ⟨g0, off + k * 7 + 1, none⟩ = some (.int .i64 dI) ∧ w'.cell? ⟨g0, off + k * 7 + 2, none⟩ = some (.int .i64 tO) ∧ w'.cell? ⟨g0, off + k * 7 + 3, none⟩ = some (.string (mk nM)) ∧ w'.cell? ⟨g0, off + k * 7 + 4, none⟩ = some (.string (mk aS)) ∧ w'.cell? ⟨g0, off + k * 7 + 5, none⟩ = some (.int .i64 kD) ∧ w'.cell? ⟨g0, off + k * 7 + 6, none⟩ = some (.string (mk dA)))
              (first
                | exact HK0.out _ (Keep.below (below_drewN (Below.refl _ _) 1))
                | exact HK0.out _ (Keep.below (below_drewN ((Below.refl _ _).alloc (Nat.le_refl _) _) 1))
                | exact HK0.out _ hK3
                | exact HK0.out _ (hK3.trans (Keep.below ((Below.refl _ _).alloc (Nat.le_refl _) _)))
                | exact HK0.out _ (hK3.own (Nat.le_refl _) ((Keep.setR 0 _).trans (Keep.setR 1 _)))
                | exact HK0.out _ ((by assumption : Keep t2 b2 w0 _ ∧ _).1.trans (Keep.below ((Below.refl _ _).alloc (Nat.le_refl _) _))))
              (first
                | (go_at_call 10; refine (HDO.out _ (below_drewN ((Below.refl _ _).alloc (Nat.le_refl _) _) 1)).mono ?_; rintro e w1 ⟨⟨L2, la2, A2, c2, rfl, hN2, hT2, hW2, hl2, hla2⟩, hK2⟩; have hK3 : Keep t2 b2 w0 w1 := (Keep.below (below_drewN ((Below.refl _ _).alloc (Nat.le_refl _) _) 1)).trans hK2; have hy : w1.heap[w0.heap.size]? = some (.cells #[.slice none 0 0, .int .i64 0] 29) := (hK2.block _ (blk_lt (heap_alloc_drew w0 _)) (Nat.ne_of_gt HTL.out.1) (Nat.ne_of_gt HTL.out.2)).trans (heap_alloc_drew w0 _); have y0 := blk_cell hy 0; have y1 := blk_cell hy 1; have zy0 := blk_frozen hy 0; have zy1 := blk_frozen hy 1; have hly := blk_lt hy; simp only [List.getElem?_toArray, List.getElem?_cons_zero, List.getElem?_cons_succ] at y0 y1)
                | (go_at_call 10; refine (HDO.out _ ((below_drewN (Below.refl _ _) 1).alloc (below_drewN (Below.refl _ _) 1).size _)).mono ?_; rintro e w1 ⟨⟨L2, la2, A2, c2, rfl, hN2, hT2, hW2, hl2, hla2⟩, hK2⟩; have hK3 : Keep t2 b2 w0 w1 := (Keep.below ((below_drewN (Below.refl _ _) 1).alloc (below_drewN (Below.refl _ _) 1).size _)).trans hK2; have hy : w1.heap[w0.heap.size]? = some (.cells #[.slice none 0 0, .int .i64 0] 29) := (hK2.block _ (blk_lt (heap_alloc_new w0.drew _)) (Nat.ne_of_gt HTL.out.1) (Nat.ne_of_gt HTL.out.2)).trans (heap_alloc_new w0.drew _); have y0 := blk_cell hy 0; have y1 := blk_cell hy 1; have zy0 := blk_frozen hy 0; have zy1 := blk_frozen hy 1; have hly := blk_lt hy; simp only [List.getElem?_toArray, List.getElem?_cons_zero, List.getElem?_cons_succ] at y0 y1)
                | (go_at_call 10; refine (HDO.out _ (below_drewN (Below.refl _ _) 1)).mono ?_; rintro e w1 ⟨⟨L2, la2, A2, c2, rfl, hN2, hT2, hW2, hl2, hla2⟩, hK2⟩; have hK3 : Keep t2 b2 w0 w1 := (Keep.below (below_drewN (Below.refl _ _) 1)).trans hK2))
            all_goals (
              rename_i hH
              first
                | (obtain ⟨wz, hwz⟩ : ∃ wz, w1.alloc (.cells #[.slice A2 L2.length c2, .int .i64 la2] 29) = wz := ⟨_, rfl⟩
                   rw [hwz]
                   obtain ⟨Y, hY⟩ : ∃ Y, w1.heap.size = Y := ⟨_, rfl⟩
                   try rw [hY]
                   have HZ : Hid (Keep t2 b2 w0 wz ∧ wz.heap[Y]? = some (.cells #[.slice A2 L2.length c2, .int .i64 la2] 29) ∧ TreeAt wz t2 b2 (relS L2 la2) ∧ NodesAt wz A2 L2) := Lib.hid (by
                     have hal : Below w1.heap.size w1 wz := by rw [← hwz]; exact (Below.refl _ _).alloc (Nat.le_refl _) _
                     refine ⟨hK3.trans (Keep.below hal), ?_, hT2.below hal, hN2.below hal⟩
                     rw [← hwz, ← hY]
                     exact heap_alloc_new _ _)
                   clear hwz hY)
                | (obtain ⟨Y, hY⟩ : ∃ Y, w0.heap.size = Y := ⟨_, rfl⟩
                   have HYL : Hid (w0.heap.size ≤ Y ∧ t2 ≠ Y ∧ b2 ≠ Y) := Lib.hid (by have := HTL.out; rw [← hY]; exact ⟨Nat.le_refl _, by omega, by omega⟩)
                   rw [hY] at hy ⊢
                   obtain ⟨wz, hwz⟩ : ∃ wz, (w1.setCell ⟨Y, 0, none⟩ (.slice A2 L2.length c2)).setCell ⟨Y, 1, none⟩ (.int .i64 la2) = wz := ⟨_, rfl⟩
                   rw [hwz]
                   have HZ : Hid (Keep t2 b2 w0 wz ∧ wz.heap[Y]? = some (.cells #[.slice A2 L2.length c2, .int .i64 la2] 29) ∧ TreeAt wz t2 b2 (relS L2 la2) ∧ NodesAt wz A2 L2) := Lib.hid (by
                     have k : Keep Y Y w1 wz := by rw [← hwz]; exact (Keep.setR 0 _).trans (Keep.setR 1 _)
                     refine ⟨hK3.own HYL.out.1 k, ?_, hT2.far hy HYL.out.2 k, hN2.far hy k⟩
                     rw [← hwz]
                     exact heap_setCell_at (heap_setCell_at hy 0 _) 1 _)
                   clear hwz hY hy HYL y0 y1 zy0 zy1 hly)
              have HRZ := Lib.hid ((HZ.out.1.block R hlr (Ne.symm HI.out.2.2.2.2.1.1) (Ne.symm HI.out.2.2.2.2.1.2)).trans HI.out.2.2.1)
              have HNB := Lib.hid (And.intro hW2 (And.intro hl2 hla2))
              have HE : Hid (TreeAt ((wz.setCell ⟨R, 0, none⟩ (.slice A2 L2.length c2)).setCell ⟨R, 1, none⟩ (.int .i64 la2)) t2 b2 (relS L2 la2) ∧ NodesAt ((wz.setCell ⟨R, 0, none⟩ (.slice A2 L2.length c2)).setCell ⟨R, 1, none⟩ (.int .i64 la2)) A2 L2 ∧ ((wz.setCell ⟨R, 0, none⟩ (.slice A2 L2.length c2)).setCell ⟨R, 1, none⟩ (.int .i64 la2)).heap[R]? = some (.cells #[.slice A2 L2.length c2, .int .i64 la2] 29) ∧ Below W.heap.size W ((wz.setCell ⟨R, 0, none⟩ (.slice A2 L2.length c2)).setCell ⟨R, 1, none⟩ (.int .i64 la2))) := Lib.hid (by
                have k : Keep R R wz ((wz.setCell ⟨R, 0, none⟩ (.slice A2 L2.length c2)).setCell ⟨R, 1, none⟩ (.int .i64 la2)) := (Keep.setR 0 _).trans (Keep.setR 1 _)
                have hbz : Below W.heap.size W wz := Keep.under HI.out.2.2.2.2.2.2 HZ.out.1 HI.out.2.2.2.2.2.1.1 HI.out.2.2.2.2.2.1.2 HI.out.2.2.2.2.2.2.size
                exact ⟨HZ.out.2.2.1.far HRZ.out HI.out.2.2.2.2.1 k, HZ.out.2.2.2.far HRZ.out k, heap_setCell_at (heap_setCell_at HRZ.out 0 _) 1 _, (hbz.setCell (p := ⟨R, 0, none⟩) HRW.out _).setCell (p := ⟨R, 1, none⟩) HRW.out _⟩)
              have HSA := Lib.hid (law_Same t2 b2 A2 c2 L2 la2 _ HE.out.1 HE.out.2.1 HNB.out.1 (by have := HNB.out.2; have := HQ.out; have := HI.out.2.2.2.1.2.1; have := HSH.out.2; have := HM.out; omega) (by have := HNB.out.2; have := HI.out.2.2.2.1.2.2; have := HSH.out.2; have := HM.out; omega))
              clear hH hK2 hK3 hT2 hN2 hW2 hl2 hla2 r0 r1 hlr f0 f1 f2 f3 f4 f5 f6 HDO HK0
              have y0 := blk_cell HZ.out.2.1 0
              have y1 := blk_cell HZ.out.2.1 1
              have r0 := blk_cell HRZ.out 0
              have r1 := blk_cell HRZ.out 1
              have zr0 := blk_frozen HRZ.out 0
              have zr1 := blk_frozen HRZ.out 1
              have hlr := blk_lt HRZ.out
              simp only [List.getElem?_toArray, List.getElem?_cons_zero, List.getElem?_cons_succ] at r0 r1 y0 y1
              go_wp2_with fail
              refine HSA.out.mono ?_
              rintro e w5 ⟨rfl, hb5⟩
              have H5 := Lib.hid hb5
              clear hb5 y0 y1 r0 r1 zr0 zr1 hlr
              go_wp2_with fail
              go_roundg g
              case measure => omega
              case rel => exact ⟨k + 1, by omega, by go_num, t2, b2, rfl, Lib.hid ⟨L2, la2, A2, c2, HE.out.1.below H5.out, HE.out.2.1.below H5.out, (H5.out.block _ (blk_lt HE.out.2.2.1)).trans HE.out.2.2.1, ⟨HNB.out.1, by have := HNB.out.2; have := HQ.out; have := HI.out.2.2.2.1.2.1; omega, by have := HNB.out.2; have := HI.out.2.2.2.1.2.2; omega⟩, HI.out.2.2.2.2.1, HI.out.2.2.2.2.2.1, ext_trans HE.out.2.2.2 H5.out⟩⟩)
end Go.Proofs.Ytmjggjccmbiheab
