/- The law TreeWhole, step by step. -/
import Derived.Test.YtmjggjccmbiheabLawDo4
import Derived.Test.YtmjggjccmbiheabLawDoes
import Derived.Test.YtmjggjccmbiheabLawMet
import Derived.Test.YtmjggjccmbiheabTreeLives
namespace Go.Proofs.Ytmjggjccmbiheab
open Go Go.RowKit Go.Proofs Go.Sort
attribute [local go_sem] mk_list mk_size mk_data nfield0 nfield1 nfield3

set_option maxRecDepth 100000 in
set_option maxHeartbeats 8000000 in
theorem law_Whole (A : Option Addr) (c : Nat) (L : List ActT) (W : World) (h : ActsAt W A L) (hl : L.length ≤ 9223372036854775807) (ho : ∀ x ∈ L, ActOk x) :
    Calls Try.prog 3 #[.slice A L.length c] W fun e w' => e = .returned (.bool true) ∧ Below W.heap.size W w' := by
  have HAA := Lib.hid h
  have HO := Lib.hid ho
  have HSO := Lib.hid (law_short A c L W h hl ho)
  obtain ⟨m, hm⟩ : ∃ m, L.length = m := ⟨_, rfl⟩
  have HM := Lib.hid hm
  rw [hm] at HSO hl ⊢
  clear hm h ho
  go_enter Try.func3, Try.ntmps3
  go_wp2_with fail
  refine HSO.out.mono ?_
  rintro e w' ⟨rfl | ⟨rfl, hs⟩, rfl⟩
  · go_wp2_with fail
    refine (tree_lives _).mono ?_
    rintro e w1 ⟨rfl, hb⟩
    go_wp2_with fail
    go_ret
    exact ⟨rfl, hb⟩
  · have HSH := Lib.hid hs
    clear hs
    go_wp2_with fail
    refine (tree_New W).mono ?_
    rintro e w1 ⟨⟨t, b, rfl, ht, hft, hfb⟩, hb1⟩
    rw [new_rel] at ht
    have H1 := Lib.hid (And.intro ht (And.intro hft (And.intro hfb hb1)))
    clear ht hft hfb hb1
    go_wp2_with fail
    refine (ref_New w1).mono ?_
    rintro e w2 ⟨⟨A0, c0, rfl, hn⟩, hb2⟩
    obtain ⟨R, hR⟩ : ∃ R, w2.heap.size = R := ⟨_, rfl⟩
    obtain ⟨w3, hw3⟩ : ∃ w3, w2.alloc (.cells #[.slice A0 1 c0, .int .i64 1] 29) = w3 := ⟨_, rfl⟩
    have H3 : Hid (TreeAt w3 t b (relS [rootR] 1) ∧ NodesAt w3 A0 [rootR] ∧ w3.heap[R]? = some (.cells #[.slice A0 1 c0, .int .i64 1] 29) ∧ Below W.heap.size W w3) := Lib.hid (by
      have hb3 : Below w2.heap.size w2 w3 := by rw [← hw3]; exact (Below.refl _ _).alloc (Nat.le_refl _) _
      have h2 := ext_trans H1.out.2.2.2 hb2
      refine ⟨(H1.out.1.below hb2).below hb3, hn.below hb3, ?_, ext_trans h2 hb3⟩
      rw [← hw3, ← hR]; exact heap_alloc_new _ _)
    have HTB : Hid ((t ≠ R ∧ b ≠ R) ∧ W.heap.size ≤ t ∧ W.heap.size ≤ b ∧ W.heap.size ≤ R) := Lib.hid (by
      have h2 := (ext_trans H1.out.2.2.2 hb2).size
      have hlt := (H1.out.1.below hb2).lt
      rw [hR] at h2 hlt
      exact ⟨⟨by omega, by omega⟩, H1.out.2.1, H1.out.2.2.1, h2⟩)
    clear hn hb2
    go_wp2_with fail
    try rw [hR]
    try rw [hw3]
    clear hR hw3
    go_loopg [5] m (fun g iv wx => ∃ k : Nat, k + g = m ∧ iv = .int .i64 k ∧ Hid (∃ Lk la A1 c1, TreeAt wx t b (relS Lk la) ∧ NodesAt wx A1 Lk ∧ wx.heap[R]? = some (.cells #[.slice A1 Lk.length c1, .int .i64 la] 29) ∧ (WF Lk la ∧ Lk.length ≤ k + 1 ∧ la ≤ k + 1) ∧ Below W.heap.size W wx))
    case atStart => exact ⟨0, by omega, rfl, Lib.hid ⟨[rootR], 1, A0, c0, H3.out.1, H3.out.2.1, H3.out.2.2.1, ⟨wf_new, by simp, by decide⟩, H3.out.2.2.2⟩⟩
    case round =>
      clear H1 H3
      obtain ⟨k, hk, rfl, HX⟩ := hrel
      cases gk with
      | succ g =>
        have hkI : (k : Int) < (m : Int) := by omega
        have hk0 : (0 : Int) ≤ (k : Int) := by omega
        have hkl : k < L.length := by have := HM.out; omega
        obtain ⟨g0, off, rfl, hg0, _⟩ := HAA.out.cells hkl
        have HG := Lib.hid hg0
        have HAC := Lib.hid (fun w (hb : Below W.heap.size W w) => by
          obtain ⟨g1, off1, e, _, h⟩ := (HAA.out.below hb).cells hkl
          cases e
          exact h)
        have HOK := Lib.hid (HO.out _ (List.getElem_mem hkl))
        generalize L[k] = x at HAC HOK
        obtain ⟨dO, dI, tO, nM, aS, kD, dA⟩ := x
        simp only at HAC
        obtain ⟨Lk, la, A1, c1, hI⟩ := HX.out
        obtain ⟨q, hq⟩ : ∃ q, Lk.length = q := ⟨_, rfl⟩
        have HQ := Lib.hid hq
        rw [hq] at hI
        have HI := Lib.hid hI
        clear hI HX hg0 hq
        have r0 := blk_cell HI.out.2.2.1 0
        have r1 := blk_cell HI.out.2.2.1 1
        have hlr := blk_lt HI.out.2.2.1
        simp only [List.getElem?_toArray, List.getElem?_cons_zero, List.getElem?_cons_succ] at r0 r1
        obtain ⟨f0, f1, f2, f3, f4, f5, f6⟩ := HAC.out _ HI.out.2.2.2.2
        have HDO : Hid (∀ w', Below wr.heap.size wr w' → Calls Try.prog 10 #[.pointer (some ⟨t, 0, none⟩), .agg #[.slice A1 q c1, .int .i64 la], .agg #[.int .i64 dO, .int .i64 dI, .int .i64 tO, .string (mk nM), .string (mk aS), .int .i64 kD, .string (mk dA)]] w' (DoTo t b Lk la w')) := Lib.hid (fun w' hb => by
          have h := law_do t b A1 c1 Lk la ⟨dO, dI, tO, nM, aS, kD, dA⟩ w' (HI.out.1.below hb) (HI.out.2.1.below hb) HI.out.2.2.2.1.1 (by have := HQ.out; have := HI.out.2.2.2.1.2.1; have := HSH.out.2; have := HM.out; omega) (by have := HI.out.2.2.2.1.2.2; have := HSH.out.2; have := HM.out; omega) HOK.out
          rw [HQ.out] at h
          exact h)
        go_wp2_with fail
        go_region_with (first | (go_at_call 10; refine (HDO.out _ (below_drewN (Below.refl _ _) 1)).mono ?_; rintro e w4 ⟨⟨L2, la2, A2, c2, rfl, hN2, hT2, hW2, hl2, hla2⟩, hK2⟩; have hK3 : Keep t b wr w4 := (Keep.below (below_drewN (Below.refl _ _) 1)).trans hK2; have HR4 := Lib.hid ((hK3.block R hlr (Ne.symm HTB.out.1.1) (Ne.symm HTB.out.1.2)).trans HI.out.2.2.1); have s0 := blk_cell HR4.out 0; have s1 := blk_cell HR4.out 1; have zs0 := blk_frozen HR4.out 0; have zs1 := blk_frozen HR4.out 1; have hls := blk_lt HR4.out; simp only [List.getElem?_toArray, List.getElem?_cons_zero, List.getElem?_cons_succ] at s0 s1))
        all_goals (
          have HNB := Lib.hid (And.intro hW2 (And.intro hl2 hla2))
          have HE : Hid (TreeAt ((w4.setCell ⟨R, 0, none⟩ (.slice A2 L2.length c2)).setCell ⟨R, 1, none⟩ (.int .i64 la2)) t b (relS L2 la2) ∧ NodesAt ((w4.setCell ⟨R, 0, none⟩ (.slice A2 L2.length c2)).setCell ⟨R, 1, none⟩ (.int .i64 la2)) A2 L2 ∧ ((w4.setCell ⟨R, 0, none⟩ (.slice A2 L2.length c2)).setCell ⟨R, 1, none⟩ (.int .i64 la2)).heap[R]? = some (.cells #[.slice A2 L2.length c2, .int .i64 la2] 29) ∧ Below W.heap.size W ((w4.setCell ⟨R, 0, none⟩ (.slice A2 L2.length c2)).setCell ⟨R, 1, none⟩ (.int .i64 la2))) := Lib.hid (by
            have k : Keep R R w4 ((w4.setCell ⟨R, 0, none⟩ (.slice A2 L2.length c2)).setCell ⟨R, 1, none⟩ (.int .i64 la2)) := (Keep.setR 0 _).trans (Keep.setR 1 _)
            have hbz : Below W.heap.size W w4 := Keep.under HI.out.2.2.2.2 hK3 HTB.out.2.1 HTB.out.2.2.1 HI.out.2.2.2.2.size
            exact ⟨hT2.far HR4.out HTB.out.1 k, hN2.far HR4.out k, heap_setCell_at (heap_setCell_at HR4.out 0 _) 1 _, (hbz.setCell (p := ⟨R, 0, none⟩) HTB.out.2.2.2 _).setCell (p := ⟨R, 1, none⟩) HTB.out.2.2.2 _⟩)
          clear hK2 hK3 hT2 hN2 hW2 hl2 hla2 r0 r1 hlr f0 f1 f2 f3 f4 f5 f6 HDO s0 s1 zs0 zs1 hls HR4
          go_wp2_with fail
          go_roundg g
          case measure => omega
          case rel => exact ⟨k + 1, by omega, by go_num, Lib.hid ⟨L2, la2, A2, c2, HE.out.1, HE.out.2.1, HE.out.2.2.1, ⟨HNB.out.1, by have := HNB.out.2; have := HQ.out; have := HI.out.2.2.2.1.2.1; omega, by have := HNB.out.2; have := HI.out.2.2.2.1.2.2; omega⟩, HE.out.2.2.2⟩⟩)
      | zero =>
        obtain rfl : k = m := by omega
        obtain ⟨Lk, la, A1, c1, hI⟩ := HX.out
        have HB61 : Hid (Lk.length ≤ 61 ∧ la ≤ 61) := Lib.hid (by have := hI.2.2.2.1.2; have := HSH.out.2; have := HM.out; omega)
        have HWF := Lib.hid hI.2.2.2.1.1
        have HT := Lib.hid hI.1
        have HBW := Lib.hid hI.2.2.2.2
        clear hI HX HO HAA HSH HSO HTB
        generalize wr = wz at HT HBW ⊢
        obtain ⟨D, hD⟩ : ∃ D, wz.heap.size = D := ⟨_, rfl⟩
        obtain ⟨w5, hw5⟩ : ∃ w5, wz.alloc (.cells #[.int .i64 1] 3) = w5 := ⟨_, rfl⟩
        have HM0 : Hid (Below D wz w5 ∧ IntsOwn w5 D (.slice (some ⟨D, 0, none⟩) 1 1) 1 [1]) := Lib.hid (by
          rw [← hw5, ← hD]
          exact ⟨(Below.refl _ _).alloc (Nat.le_refl _) _, rfl, .inr ⟨_, 1, #[.int .i64 1], rfl, Nat.le_refl _, heap_alloc_new _ _, Nat.le_refl _, by decide, rfl, rfl⟩⟩)
        have HD := Lib.hid hD
        have HTD : Hid (∀ w, Below D wz w → TreeAt w t b (relS Lk la)) := Lib.hid (fun w hb => HT.out.below (by rw [HD.out]; exact hb))
        have HWD : Hid (∀ w, Below D wz w → Below W.heap.size W w) := Lib.hid (fun w hb => ext_trans HBW.out (by rw [HD.out]; exact hb))
        have HXT : Hid (∀ a b, Below D wz a → Below a.heap.size a b → Below D wz b) := Lib.hid (fun a b h1 h2 => by
          have h3 := HD.out
          subst h3
          exact ext_trans h1 h2)
        go_wp2_with fail
        try rw [hw5]
        try rw [hD]
        clear hw5 hD HT
        obtain ⟨N, hN⟩ : ∃ N, Lk.length = N := ⟨_, rfl⟩
        have HN := Lib.hid hN
        clear hN
        go_loopg [7, 6] N (fun g iv mv wx => ∃ (i n : Nat) (met : List Int), i + g = N ∧ iv = .int .i64 i ∧ Hid (met.length = n ∧ MetT Lk met i ∧ i ≤ n ∧ n ≤ N) ∧ Hid (IntsOwn wx D mv n met) ∧ Hid (Below D wz wx))
        case atStart => exact ⟨0, 1, [1], by omega, rfl, Lib.hid ⟨rfl, MetT.start HWF.out, by decide, by have := (MetT.start HWF.out).le; have := HN.out; simp only [List.length_singleton] at *; omega⟩, Lib.hid HM0.out.2, Lib.hid HM0.out.1⟩
        case round =>
          clear HM0
          obtain ⟨i, n, met, hi, rfl, HMT, HO, HB⟩ := hrel
          obtain ⟨A6, c6, rfl⟩ := own_shape HO.out
          by_cases hlt : i < n
          · cases gk with
            | zero => exact absurd hlt (by have := HMT.out.2.2; omega)
            | succ g =>
              have hlt' : (i : Int) < (n : Int) := by omega
              have h200 : (n : Int) ≤ 200 := by have := HMT.out.2.2; have := HN.out; have := HB61.out; omega
              have hi0 : (0 : Int) ≤ (i : Int) := by omega
              have hil : i < met.length := by have := HMT.out.1; omega
              obtain ⟨g6, c6', e6, hl6, k6⟩ := ints_cell HO.out hil
              cases e6
              have HIN : Hid (inL Lk met[i]) := Lib.hid (HMT.out.2.1.mem _ (List.getElem_mem hil))
              have HST := Lib.hid (HMT.out.2.1.step HWF.out hil)
              have HGI : Hid (∀ l : List Int, ∀ h : i < (met ++ l).length, (met ++ l)[i] = met[i]) := Lib.hid (fun l h => List.getElem_append_left hil)
              obtain ⟨d, hd⟩ : ∃ d, met[i] = d := ⟨_, rfl⟩
              rw [hd] at k6 HIN HST
              simp only [hd] at HGI
              have HWI : Hid (wfI d) := Lib.hid (by
                obtain ⟨x, hx, e⟩ := HIN.out
                have := HWF.out.nums x hx
                exact wf_small (by omega) (by have := HB61.out.2; omega))
              have hes := ents_of HIN.out HWF.out.nodup
              have HLI := Lib.hid (tree_List t b (relS Lk la) d wr (HTD.out _ HB.out) HWI.out (by
                show (pn (nodeOf Lk d)).ents.length ≤ _
                rw [hes]
                have := list_len Lk d
                have := HB61.out.1
                omega))
              rw [show (pn ((relS Lk la).M d)).ents = listR Lk d from hes] at HLI
              have HKID := Lib.hid (fun e (he : e ∈ listR Lk d) => kid_of HWF.out he)
              have HRI := Lib.hid (rise_listR Lk d)
              obtain ⟨es, hes2⟩ : ∃ es, listR Lk d = es := ⟨_, rfl⟩
              rw [hes2] at HLI HST HRI
              simp only [hes2] at HKID
              clear hes hes2 hd
              go_wp2_with fail
              refine HLI.out.mono ?_
              rintro e w7 ⟨⟨v8, rfl, ho8⟩, hb7⟩
              have HO8 : Hid (OwnE w7 D v8 es) := Lib.hid (row_mono' ho8 (by have := HB.out.size; have := HD.out; omega))
              have HO7 : Hid (IntsOwn w7 D (.slice (some ⟨g6, 0, none⟩) n c6) n met) := Lib.hid (own_below HO.out hb7)
              have HB7 : Hid (Below D wz w7) := Lib.hid (HXT.out _ _ HB.out hb7)
              obtain ⟨A8, c8, rfl, _, _⟩ := ho8.at
              obtain ⟨p, hp⟩ : ∃ p, es.length = p := ⟨_, rfl⟩
              have HP := Lib.hid hp
              rw [hp] at HO8 ⊢
              clear hp ho8 hb7 k6 hl6 HLI
              go_wp2_with fail
              go_loopg [9, 6] p (fun g2 kv mv wx => ∃ j : Nat, j + g2 = p ∧ kv = .int .i64 j ∧ Hid (IntsOwn wx D mv (n + j) (met ++ (es.take j).map (·.2))) ∧ Hid (OwnE wx D (.slice A8 p c8) es) ∧ Hid (Below D wz wx))
              case atStart => exact ⟨0, by omega, rfl, Lib.hid (by simpa using HO7.out), HO8, HB7⟩
              case round =>
                clear HO7 HO8 HB7
                obtain ⟨j, hj, rfl, HOj, HEj, HBj⟩ := hrel
                cases gk with
                | zero =>
                  obtain rfl : j = p := by omega
                  have HL9 := Lib.hid (ints_len HOj.out)
                  go_wp2_with fail
                  go_roundg g
                  case measure => omega
                  case rel => exact ⟨i + 1, n + j, met ++ es.map (·.2), by omega, by go_num, Lib.hid (by
                    have h := HST.out
                    have h2 := h.le
                    have h3 : (met ++ es.map (·.2)).length = n + j := by rw [List.length_append, List.length_map, HP.out, HMT.out.1]
                    exact ⟨h3, h, by have := HMT.out.2.2; omega, by have := HN.out; omega⟩), Lib.hid (by
                    have h := HOj.out
                    rwa [List.take_of_length_le (by have := HP.out; omega)] at h), HBj⟩
                | succ g2 =>
                  have hjl : j < es.length := by have := HP.out; omega
                  have hjI : (j : Int) < (p : Int) := by omega
                  have hj0 : (0 : Int) ≤ (j : Int) := by omega
                  have HPL : Hid (p ≤ 61) := Lib.hid (by have h := HST.out.le; rw [List.length_append, List.length_map, HP.out] at h; have := HB61.out; omega)
                  obtain ⟨A9, c9, rfl⟩ := own_shape HOj.out
                  have hiL : i < (met ++ (es.take j).map (·.2)).length := by rw [List.length_append]; omega
                  obtain ⟨g9, c9', e9, hl9, k9⟩ := ints_cell HOj.out hiL
                  cases e9
                  rw [HGI.out] at k9
                  obtain ⟨A8', c8', e8, he8, _⟩ := HEj.out.at
                  injection e8 with e81 e82 e83
                  subst e81 e83
                  clear e82
                  obtain ⟨g8, off8, rfl, hl8, e8⟩ := he8.cells hjl
                  have HTK := Lib.hid (took (met := met) hjl)
                  obtain ⟨xk, hxL, hxn, hx7, hx8, hxu, hxk⟩ := HKID.out _ (List.getElem_mem hjl)
                  have HUPK := Lib.hid (And.intro hxu hxk)
                  have HWN : Hid (wfI es[j].2) := Lib.hid (by
                    have := HWF.out.nums xk hxL
                    rw [hxn] at this
                    exact wf_small (by omega) (by have := HB61.out.2; omega))
                  have n1 := (e8 j hjl).2
                  obtain ⟨nd, hnd⟩ : ∃ nd, es[j].2 = nd := ⟨_, rfl⟩
                  rw [hnd] at n1 HUPK HTK HWN
                  have HUP : Hid (∀ w, Below D wz w → Calls Try.prog 12 #[.pointer (some ⟨t, 0, none⟩), .int .i64 nd] w fun e w' => e = .returned (.int .i64 d) ∧ Below w.heap.size w w') := Lib.hid (fun w hb => by
                    have h := tree_Up t b (relS Lk la) nd w (HTD.out w hb) HWN.out
                    rw [show (pn ((relS Lk la).M nd)).up = d from (up_rel HWF.out nd).trans HUPK.out.1] at h
                    exact h)
                  obtain ⟨kd, hkd⟩ : ∃ kd, (atR Lk nd).kind = kd := ⟨_, rfl⟩
                  have HKI : Hid (∀ w, Below D wz w → Calls Try.prog 13 #[.pointer (some ⟨t, 0, none⟩), .int .i64 nd] w fun e w' => e = .returned (.int .i64 kd) ∧ Below w.heap.size w w') := Lib.hid (fun w hb => by
                    have h := tree_Kind t b (relS Lk la) nd w (HTD.out w hb) HWN.out
                    rw [show (pn ((relS Lk la).M nd)).kind = kd from (kind_rel HWF.out nd).trans hkd] at h
                    exact h)
                  have hk0' : (kd == 0) = false := by rw [← hkd]; simpa using HUPK.out.2
                  clear hkd hxL hxn hxu hxk hx7 hx8 xk
                  obtain ⟨q, hq⟩ : ∃ q, n + j = q := ⟨_, rfl⟩
                  have HQJ := Lib.hid hq
                  rw [hq] at HOj ⊢
                  obtain ⟨l9, hl9e⟩ : ∃ l, met ++ (es.take j).map (·.2) = l := ⟨_, rfl⟩
                  rw [hl9e] at HOj HTK
                  have hiq : (i : Int) < (q : Int) := by omega
                  have hiq2 : i < q := by omega
                  clear hq hl9e hiL
                  have HB10 : Hid (q ≤ 200) := Lib.hid (by have := HQJ.out; have := HMT.out.2.2; have := HN.out; have := HB61.out; have := HPL.out; omega)
                  cases j with
                  | zero =>
                    simp only [Nat.zero_mul, Nat.add_zero] at n1
                    rw [show ((0 : Nat) : Int) = 0 from rfl] at hjI hj0 ⊢
                    clear hnd e8 hjl
                    have HS0 : Hid (∀ w', Below wr.heap.size wr w' → w'.cell? ⟨g8, off8 + 1, none⟩ = some (.int .i64 nd) ∧ w'.cell? ⟨g9, i, none⟩ = some (.int .i64 d) ∧ Below wr.heap.size wr w') := Lib.hid (fun w' h => ⟨(h.cell (p := ⟨g8, off8 + 1, none⟩) hl8).trans n1, (h.cell (p := ⟨g9, i, none⟩) hl9).trans k9, h⟩)
                    go_wp2_with fail
                    refine wp_region_held_drew (S := fun w' => w'.cell? ⟨g8, off8 + 1, none⟩ = some (.int .i64 nd) ∧ w'.cell? ⟨g9, i, none⟩ = some (.int .i64 d) ∧ Below wr.heap.size wr w') (by kernel_rfl) (HS0.out _ (below_drewN (Below.refl _ _) 1)) (fun hHeld0 => ?_)
                    refine wpAnyH_take (i := 0) (v := ?_) rfl (by kernel_rfl) (by kernel_rfl) (by kernel_rfl) (fun _ _ _ h => h) (Or.inl ⟨by kernel_rfl, ?hy0⟩) (by assumption) ?rest0
                    case hy0 =>
                      intro w hSw
                      try dsimp only at hSw
                      go_simp
                      try with_reducible rfl
                    simp only [List.getElem_toArray, List.getElem_cons_zero, Act.put, List.setIfInBounds_toArray, List.set_cons_zero, List.set_cons_succ]
                    refine wpAnyH_take (i := 1) (v := ?_) rfl (by kernel_rfl) (by kernel_rfl) (by kernel_rfl) (fun _ _ _ h => h) (Or.inl ⟨by kernel_rfl, ?hy1⟩) (by assumption) ?rest1
                    case hy1 =>
                      intro w hSw
                      try dsimp only at hSw
                      go_simp
                      try with_reducible rfl
                    simp only [List.getElem_toArray, List.getElem_cons_zero, List.getElem_cons_succ, Act.put, List.setIfInBounds_toArray, List.set_cons_zero, List.set_cons_succ]
                    refine wpAnyH_take (i := 2) (v := ?_) rfl (by kernel_rfl) (by kernel_rfl) (by kernel_rfl) (fun _ _ _ h => h) (Or.inl ⟨by kernel_rfl, ?hy2⟩) (by assumption) ?rest2
                    case hy2 =>
                      intro w hSw
                      try dsimp only at hSw
                      go_simp
                      try with_reducible rfl
                    simp only [List.getElem_toArray, List.getElem_cons_zero, List.getElem_cons_succ, Act.put, List.setIfInBounds_toArray, List.set_cons_zero, List.set_cons_succ]
                    refine wpAnyH_take (i := 3) (v := ?_) rfl (by kernel_rfl) (by kernel_rfl) (by kernel_rfl) (fun _ _ _ h => h) (Or.inl ⟨by kernel_rfl, ?hy3⟩) (by assumption) ?rest3
                    case hy3 =>
                      intro w hSw
                      try dsimp only at hSw
                      go_simp
                      try with_reducible rfl
                    simp only [List.getElem_toArray, List.getElem_cons_zero, List.getElem_cons_succ, Act.put, List.setIfInBounds_toArray, List.set_cons_zero, List.set_cons_succ]
                    refine wpAnyH_take (i := 4) (v := ?_) rfl (by kernel_rfl) (by kernel_rfl) (by kernel_rfl) (fun _ _ _ h => h) (Or.inl ⟨by kernel_rfl, ?hy4⟩) (by assumption) ?rest4
                    case hy4 =>
                      intro w hSw
                      try dsimp only at hSw
                      go_simp
                      try with_reducible rfl
                    simp only [List.getElem_toArray, List.getElem_cons_zero, List.getElem_cons_succ, Act.put, List.setIfInBounds_toArray, List.set_cons_zero, List.set_cons_succ]
                    refine wpAnyH_take (i := 5) (v := ?_) rfl (by kernel_rfl) (by kernel_rfl) (by kernel_rfl) (fun _ _ _ h => h) (Or.inl ⟨by kernel_rfl, ?hy5⟩) (by assumption) ?rest5
                    case hy5 =>
                      intro w hSw
                      try dsimp only at hSw
                      go_simp
                      try with_reducible rfl
                    simp only [List.getElem_toArray, List.getElem_cons_zero, List.getElem_cons_succ, Act.put, List.setIfInBounds_toArray, List.set_cons_zero, List.set_cons_succ]
                    refine wpAnyH_take (i := 7) (v := ?_) rfl (by kernel_rfl) (by kernel_rfl) (by kernel_rfl) (fun _ _ _ h => h) (Or.inl ⟨by kernel_rfl, ?hy7⟩) (by assumption) ?rest7
                    case hy7 =>
                      intro w hSw
                      try dsimp only at hSw
                      go_simp
                      try with_reducible rfl
                    simp only [List.getElem_toArray, List.getElem_cons_zero, List.getElem_cons_succ, Act.put, List.setIfInBounds_toArray, List.set_cons_zero, List.set_cons_succ]
                    refine wpAnyH_take (i := 8) (v := ?_) rfl (by kernel_rfl) (by kernel_rfl) (by kernel_rfl) (fun _ _ _ h => h) (Or.inl ⟨by kernel_rfl, ?hy8⟩) (by assumption) ?rest8
                    case hy8 =>
                      intro w hSw
                      try dsimp only at hSw
                      go_simp
                      try with_reducible rfl
                    simp only [List.getElem_toArray, List.getElem_cons_zero, List.getElem_cons_succ, Act.put, List.setIfInBounds_toArray, List.set_cons_zero, List.set_cons_succ]
                    refine wpAnyH_take (i := 9) (v := ?_) rfl (by kernel_rfl) (by kernel_rfl) (by kernel_rfl) (fun _ _ _ h => h) (Or.inl ⟨by kernel_rfl, ?hy9⟩) (by assumption) ?rest9
                    case hy9 =>
                      intro w hSw
                      try dsimp only at hSw
                      go_simp
                      try with_reducible rfl
                    simp only [List.getElem_toArray, List.getElem_cons_zero, List.getElem_cons_succ, Act.put, List.setIfInBounds_toArray, List.set_cons_zero, List.set_cons_succ]
                    refine wpAnyH_take (i := 10) (v := ?_) rfl (by kernel_rfl) (by kernel_rfl) (by kernel_rfl) (fun _ _ _ h => h) (Or.inl ⟨by kernel_rfl, ?hy10⟩) (by assumption) ?rest10
                    case hy10 =>
                      intro w hSw
                      try dsimp only at hSw
                      go_simp
                      try with_reducible rfl
                    simp only [List.getElem_toArray, List.getElem_cons_zero, List.getElem_cons_succ, Act.put, List.setIfInBounds_toArray, List.set_cons_zero, List.set_cons_succ]
                    refine wpAnyH_ready (rs := [6]) (by kernel_rfl) (by simp) ?_
                    refine AllReadyH.cons rfl (fun K hK => ?_) AllReadyH.nil
                    simp only [List.getElem_toArray, List.getElem_cons_zero, List.getElem_cons_succ]
                    go_simp
                    refine (HUP.out _ (HXT.out _ _ HBj.out (by assumption : _ ∧ _ ∧ Below wr.heap.size wr _).2.2)).mono ?_
                    rintro e w8 ⟨rfl, hb8⟩
                    have hXw8 : Below wr.heap.size wr w8 := ext_trans (by assumption : _ ∧ _ ∧ Below wr.heap.size wr _).2.2 hb8
                    refine hK.out _ _ ?_ (fun hHeld6 => ?_)
                    · exact HS0.out _ hXw8
                    clear hK K hHeld0
                    refine wpAnyH_take (i := 11) (v := ?_) rfl (by kernel_rfl) (by kernel_rfl) (by kernel_rfl) (fun _ _ _ h => h) (Or.inl ⟨by kernel_rfl, ?hy11⟩) (by assumption) ?rest11
                    case hy11 =>
                      intro w hSw
                      try dsimp only at hSw
                      go_simp
                      try with_reducible rfl
                    simp only [List.getElem_toArray, List.getElem_cons_zero, List.getElem_cons_succ, Act.put, List.setIfInBounds_toArray, List.set_cons_zero, List.set_cons_succ]
                    refine wpAnyH_take (i := 12) (v := ?_) rfl (by kernel_rfl) (by kernel_rfl) (by kernel_rfl) (fun _ _ _ h => h) (Or.inl ⟨by kernel_rfl, ?hy12⟩) (by assumption) ?rest12
                    case hy12 =>
                      intro w hSw
                      try dsimp only at hSw
                      go_simp
                      try with_reducible rfl
                    simp only [List.getElem_toArray, List.getElem_cons_zero, List.getElem_cons_succ, Act.put, List.setIfInBounds_toArray, List.set_cons_zero, List.set_cons_succ]
                    refine wpAnyH_take (i := 13) (v := ?_) rfl (by kernel_rfl) (by kernel_rfl) (by kernel_rfl) (fun _ _ _ h => h) (Or.inl ⟨by kernel_rfl, ?hy13⟩) (by assumption) ?rest13
                    case hy13 =>
                      intro w hSw
                      try dsimp only at hSw
                      go_simp
                      try with_reducible rfl
                    simp only [List.getElem_toArray, List.getElem_cons_zero, List.getElem_cons_succ, Act.put, List.setIfInBounds_toArray, List.set_cons_zero, List.set_cons_succ]
                    refine wpAnyH_take (i := 14) (v := ?_) rfl (by kernel_rfl) (by kernel_rfl) (by kernel_rfl) (fun _ _ _ h => h) (Or.inl ⟨by kernel_rfl, ?hy14⟩) (by assumption) ?rest14
                    case hy14 =>
                      intro w hSw
                      try dsimp only at hSw
                      go_simp
                      try with_reducible rfl
                    simp only [List.getElem_toArray, List.getElem_cons_zero, List.getElem_cons_succ, Act.put, List.setIfInBounds_toArray, List.set_cons_zero, List.set_cons_succ]
                    refine wpAnyH_take (i := 15) (v := ?_) rfl (by kernel_rfl) (by kernel_rfl) (by kernel_rfl) (fun _ _ _ h => h) (Or.inl ⟨by kernel_rfl, ?hy15⟩) (by assumption) ?rest15
                    case hy15 =>
                      intro w hSw
                      try dsimp only at hSw
                      go_simp
                      try with_reducible rfl
                    simp only [List.getElem_toArray, List.getElem_cons_zero, List.getElem_cons_succ, Act.put, List.setIfInBounds_toArray, List.set_cons_zero, List.set_cons_succ]
                    refine wpAnyH_take (i := 16) (v := ?_) rfl (by kernel_rfl) (by kernel_rfl) (by kernel_rfl) (fun _ _ _ h => h) (Or.inl ⟨by kernel_rfl, ?hy16⟩) (by assumption) ?rest16
                    case hy16 =>
                      intro w hSw
                      try dsimp only at hSw
                      go_simp
                      try with_reducible rfl
                    simp only [List.getElem_toArray, List.getElem_cons_zero, List.getElem_cons_succ, Act.put, List.setIfInBounds_toArray, List.set_cons_zero, List.set_cons_succ]
                    refine wpAnyH_take (i := 17) (v := ?_) rfl (by kernel_rfl) (by kernel_rfl) (by kernel_rfl) (fun _ _ _ h => h) (Or.inl ⟨by kernel_rfl, ?hy17⟩) (by assumption) ?rest17
                    case hy17 =>
                      intro w hSw
                      try dsimp only at hSw
                      go_simp
                      try with_reducible rfl
                    simp only [List.getElem_toArray, List.getElem_cons_zero, List.getElem_cons_succ, Act.put, List.setIfInBounds_toArray, List.set_cons_zero, List.set_cons_succ]
                    refine wpAnyH_take (i := 18) (v := ?_) rfl (by kernel_rfl) (by kernel_rfl) (by kernel_rfl) (fun _ _ _ h => h) (Or.inl ⟨by kernel_rfl, ?hy18⟩) (by assumption) ?rest18
                    case hy18 =>
                      intro w hSw
                      try dsimp only at hSw
                      go_simp
                      try with_reducible rfl
                    simp only [List.getElem_toArray, List.getElem_cons_zero, List.getElem_cons_succ, Act.put, List.setIfInBounds_toArray, List.set_cons_zero, List.set_cons_succ]
                    refine wpAnyH_ready (rs := [19]) (by kernel_rfl) (by simp) ?_
                    refine AllReadyH.cons rfl (fun K hK => ?_) AllReadyH.nil
                    simp only [List.getElem_toArray, List.getElem_cons_zero, List.getElem_cons_succ]
                    go_simp
                    refine (HKI.out _ (HXT.out _ _ HBj.out hXw8)).mono ?_
                    rintro e w9 ⟨rfl, hb9⟩
                    have hXw9 : Below wr.heap.size wr w9 := ext_trans (by assumption : _ ∧ _ ∧ Below wr.heap.size wr _).2.2 hb9
                    refine hK.out _ _ ?_ (fun hHeld19 => ?_)
                    · exact HS0.out _ hXw9
                    clear hK K hHeld6
                    refine wpAnyH_take (i := 20) (v := ?_) rfl (by kernel_rfl) (by kernel_rfl) (by kernel_rfl) (fun _ _ _ h => h) (Or.inl ⟨by kernel_rfl, ?hy20⟩) (by assumption) ?rest20
                    case hy20 =>
                      intro w hSw
                      try dsimp only at hSw
                      go_simp
                      try with_reducible rfl
                    simp only [List.getElem_toArray, List.getElem_cons_zero, List.getElem_cons_succ, Act.put, List.setIfInBounds_toArray, List.set_cons_zero, List.set_cons_succ]
                    refine wpAnyH_take (i := 21) (v := ?_) rfl (by kernel_rfl) (by kernel_rfl) (by kernel_rfl) (fun _ _ _ h => h) (Or.inl ⟨by kernel_rfl, ?hy21⟩) (by assumption) ?rest21
                    case hy21 =>
                      intro w hSw
                      try dsimp only at hSw
                      go_simp
                      try with_reducible rfl
                    simp only [List.getElem_toArray, List.getElem_cons_zero, List.getElem_cons_succ, Act.put, List.setIfInBounds_toArray, List.set_cons_zero, List.set_cons_succ]
                    refine wpAnyH_take (i := 22) (v := ?_) rfl (by kernel_rfl) (by kernel_rfl) (by kernel_rfl) (fun _ _ _ h => h) (Or.inl ⟨by kernel_rfl, ?hy22⟩) (by assumption) ?rest22
                    case hy22 =>
                      intro w hSw
                      try dsimp only at hSw
                      go_simp
                      try with_reducible rfl
                    simp only [List.getElem_toArray, List.getElem_cons_zero, List.getElem_cons_succ, Act.put, List.setIfInBounds_toArray, List.set_cons_zero, List.set_cons_succ]
                    refine wpAnyH_take (i := 23) (v := ?_) rfl (by kernel_rfl) (by kernel_rfl) (by kernel_rfl) (fun _ _ _ h => h) (Or.inl ⟨by kernel_rfl, ?hy23⟩) (by assumption) ?rest23
                    case hy23 =>
                      intro w hSw
                      try dsimp only at hSw
                      go_simp
                      try with_reducible rfl
                    simp only [List.getElem_toArray, List.getElem_cons_zero, List.getElem_cons_succ, Act.put, List.setIfInBounds_toArray, List.set_cons_zero, List.set_cons_succ]
                    refine wpAnyH_take (i := 24) (v := ?_) rfl (by kernel_rfl) (by kernel_rfl) (by kernel_rfl) (fun _ _ _ h => h) (Or.inl ⟨by kernel_rfl, ?hy24⟩) (by assumption) ?rest24
                    case hy24 =>
                      intro w hSw
                      try dsimp only at hSw
                      go_simp
                      try with_reducible rfl
                    simp only [List.getElem_toArray, List.getElem_cons_zero, List.getElem_cons_succ, Act.put, List.setIfInBounds_toArray, List.set_cons_zero, List.set_cons_succ]
                    refine wpAnyH_take (i := 25) (v := ?_) rfl (by kernel_rfl) (by kernel_rfl) (by kernel_rfl) (fun _ _ _ h => h) (Or.inl ⟨by kernel_rfl, ?hy25⟩) (by assumption) ?rest25
                    case hy25 =>
                      intro w hSw
                      try dsimp only at hSw
                      go_simp
                      try with_reducible rfl
                    simp only [List.getElem_toArray, List.getElem_cons_zero, List.getElem_cons_succ, Act.put, List.setIfInBounds_toArray, List.set_cons_zero, List.set_cons_succ]
                    refine wpAnyH_take (i := 26) (v := undef) rfl (by kernel_rfl) (by kernel_rfl) (by kernel_rfl) (fun _ _ _ h => h) (Or.inr ⟨by kernel_rfl, rfl⟩) (by assumption) ?_
                    simp only [List.getElem_toArray, List.getElem_cons_zero, List.getElem_cons_succ, Act.put, List.setIfInBounds_toArray, List.set_cons_zero, List.set_cons_succ]
                    refine wpAnyH_take (i := 27) (v := undef) rfl (by kernel_rfl) (by kernel_rfl) (by kernel_rfl) (fun _ _ _ h => h) (Or.inr ⟨by kernel_rfl, rfl⟩) (by assumption) ?_
                    simp only [List.getElem_toArray, List.getElem_cons_zero, List.getElem_cons_succ, Act.put, List.setIfInBounds_toArray, List.set_cons_zero, List.set_cons_succ]
                    refine wpAnyH_take (i := 28) (v := undef) rfl (by kernel_rfl) (by kernel_rfl) (by kernel_rfl) (fun _ _ _ h => h) (Or.inr ⟨by kernel_rfl, rfl⟩) (by assumption) ?_
                    simp only [List.getElem_toArray, List.getElem_cons_zero, List.getElem_cons_succ, Act.put, List.setIfInBounds_toArray, List.set_cons_zero, List.set_cons_succ]
                    refine wpAnyH_take (i := 29) (v := undef) rfl (by kernel_rfl) (by kernel_rfl) (by kernel_rfl) (fun _ _ _ h => h) (Or.inr ⟨by kernel_rfl, rfl⟩) (by assumption) ?_
                    simp only [List.getElem_toArray, List.getElem_cons_zero, List.getElem_cons_succ, Act.put, List.setIfInBounds_toArray, List.set_cons_zero, List.set_cons_succ]
                    refine wpAnyH_take (i := 30) (v := undef) rfl (by kernel_rfl) (by kernel_rfl) (by kernel_rfl) (fun _ _ _ h => h) (Or.inr ⟨by kernel_rfl, rfl⟩) (by assumption) ?_
                    simp only [List.getElem_toArray, List.getElem_cons_zero, List.getElem_cons_succ, Act.put, List.setIfInBounds_toArray, List.set_cons_zero, List.set_cons_succ]
                    refine wpAnyH_take (i := 31) (v := undef) rfl (by kernel_rfl) (by kernel_rfl) (by kernel_rfl) (fun _ _ _ h => h) (Or.inr ⟨by kernel_rfl, rfl⟩) (by assumption) ?_
                    simp only [List.getElem_toArray, List.getElem_cons_zero, List.getElem_cons_succ, Act.put, List.setIfInBounds_toArray, List.set_cons_zero, List.set_cons_succ]
                    refine wpAnyH_take (i := 32) (v := undef) rfl (by kernel_rfl) (by kernel_rfl) (by kernel_rfl) (fun _ _ _ h => h) (Or.inr ⟨by kernel_rfl, rfl⟩) (by assumption) ?_
                    simp only [List.getElem_toArray, List.getElem_cons_zero, List.getElem_cons_succ, Act.put, List.setIfInBounds_toArray, List.set_cons_zero, List.set_cons_succ]
                    refine wpAnyH_take (i := 33) (v := undef) rfl (by kernel_rfl) (by kernel_rfl) (by kernel_rfl) (fun _ _ _ h => h) (Or.inr ⟨by kernel_rfl, rfl⟩) (by assumption) ?_
                    simp only [List.getElem_toArray, List.getElem_cons_zero, List.getElem_cons_succ, Act.put, List.setIfInBounds_toArray, List.set_cons_zero, List.set_cons_succ]
                    refine wpAnyH_take (i := 34) (v := undef) rfl (by kernel_rfl) (by kernel_rfl) (by kernel_rfl) (fun _ _ _ h => h) (Or.inr ⟨by kernel_rfl, rfl⟩) (by assumption) ?_
                    simp only [List.getElem_toArray, List.getElem_cons_zero, List.getElem_cons_succ, Act.put, List.setIfInBounds_toArray, List.set_cons_zero, List.set_cons_succ]
                    refine wpAnyH_take (i := 35) (v := undef) rfl (by kernel_rfl) (by kernel_rfl) (by kernel_rfl) (fun _ _ _ h => h) (Or.inr ⟨by kernel_rfl, rfl⟩) (by assumption) ?_
                    simp only [List.getElem_toArray, List.getElem_cons_zero, List.getElem_cons_succ, Act.put, List.setIfInBounds_toArray, List.set_cons_zero, List.set_cons_succ]
                    refine wpAnyH_take (i := 36) (v := undef) rfl (by kernel_rfl) (by kernel_rfl) (by kernel_rfl) (fun _ _ _ h => h) (Or.inr ⟨by kernel_rfl, rfl⟩) (by assumption) ?_
                    simp only [List.getElem_toArray, List.getElem_cons_zero, List.getElem_cons_succ, Act.put, List.setIfInBounds_toArray, List.set_cons_zero, List.set_cons_succ]
                    refine wpAnyH_take (i := 37) (v := undef) rfl (by kernel_rfl) (by kernel_rfl) (by kernel_rfl) (fun _ _ _ h => h) (Or.inr ⟨by kernel_rfl, rfl⟩) (by assumption) ?_
                    simp only [List.getElem_toArray, List.getElem_cons_zero, List.getElem_cons_succ, Act.put, List.setIfInBounds_toArray, List.set_cons_zero, List.set_cons_succ]
                    refine wpAnyH_take (i := 38) (v := ?_) rfl (by kernel_rfl) (by kernel_rfl) (by kernel_rfl) (fun _ _ _ h => h) (Or.inl ⟨by kernel_rfl, ?hy38⟩) (by assumption) ?rest38
                    case hy38 =>
                      intro w hSw
                      try dsimp only at hSw
                      go_simp
                      try with_reducible rfl
                    simp only [List.getElem_toArray, List.getElem_cons_zero, List.getElem_cons_succ, Act.put, List.setIfInBounds_toArray, List.set_cons_zero, List.set_cons_succ]
                    refine wpAnyH_take (i := 39) (v := ?_) rfl (by kernel_rfl) (by kernel_rfl) (by kernel_rfl) (fun _ _ _ h => h) (Or.inl ⟨by kernel_rfl, ?hy39⟩) (by assumption) ?rest39
                    case hy39 =>
                      intro w hSw
                      try dsimp only at hSw
                      go_simp
                      try with_reducible rfl
                    simp only [List.getElem_toArray, List.getElem_cons_zero, List.getElem_cons_succ, Act.put, List.setIfInBounds_toArray, List.set_cons_zero, List.set_cons_succ]
                    refine wpAnyH_done (by kernel_rfl) ?_ _
                    have hX9 : Below wr.heap.size wr w9 := hXw9
                    clear hHeld19 hXw8 hXw9 hb8 hb9
                    have HB9 := Lib.hid (HXT.out _ _ HBj.out hX9)
                    have HOJ9 : Hid (IntsOwn w9 D (.slice (some ⟨g9, 0, none⟩) q c9) q l9) := Lib.hid (own_below HOj.out hX9)
                    have HEJ9 : Hid (OwnE w9 D (.slice (some ⟨g8, off8, none⟩) p c8) es) := Lib.hid (own_below HEj.out hX9)
                    have n9 : w9.cell? ⟨g8, off8 + 1, none⟩ = some (.int .i64 nd) := (hX9.cell (p := ⟨g8, off8 + 1, none⟩) hl8).trans n1
                    have hDs : D ≤ w9.heap.size := by rw [← HD.out]; exact HB9.out.size
                    have hbb : (q + 1) * 8 ≤ 140737488355328 := by have := HB10.out; omega
                    clear hX9 n1 k9 hl9 HS0 hiq hiq2
                    go_wp2_with (at_builtin; refine put_one (w0 := wz) (W := w9) D rfl _ _ 35 3 _ 1 8 rfl Try.underlying35 info3 rfl (by decide) (by decide) (.slice (some ⟨g9, 0, none⟩) q c9) q _ [.int .i64 nd] rfl rfl rfl (by simp [Value.oneCell']) HOJ9.out HB9.out hDs hbb ?_; intro v1 w11 hown hb11 hg11; have HO11 := Lib.hid (ints_more hown); have HB11 := Lib.hid hb11; have HE11 := Lib.hid (HEJ9.out.kept hg11 (own_ne HEJ9.out HOJ9.out (by decide))); clear hown hb11 hg11)
                    go_roundg g2
                    case measure => omega
                    case rel => exact ⟨0 + 1, by omega, by go_num, Lib.hid (by rw [HTK.out, show n + (0 + 1) = q + 1 by have := HQJ.out; omega]; exact HO11.out), HE11, HB11⟩
                  | succ j =>
                    have hjI : (j : Int) + 1 < (p : Int) := by omega
                    have hjI2 : (j : Int) < (p : Int) := by omega
                    have hj0 : (0 : Int) ≤ (j : Int) + 1 := by omega
                    have hjN : j < p := by omega
                    have hwr3 : IntKind.i64.wrap ((j : Int) + 1 + 1) = (j : Int) + 1 + 1 := by rw [IntKind.wrap_i64]; have := HPL.out; omega
                    have hwr2 : IntKind.i64.wrap (j : Int) = (j : Int) := by rw [IntKind.wrap_i64]; have := HPL.out; omega
                    have hj02 : (0 : Int) ≤ (j : Int) := by omega
                    have hj03 : (j : Int) + 1 > 0 := by omega
                    have hwr : IntKind.i64.wrap ((j : Int) + 1 - 1) = (j : Int) := by rw [IntKind.wrap_i64]; have := HPL.out; omega
                    rw [show (((j + 1 : Nat)) : Int) = (j : Int) + 1 from by omega]
                    have nx := (e8 (j + 1) hjl).1
                    have ny := (e8 j (by omega)).1
                    have hlt9 := (rise_iff es).1 HRI.out j hjl
                    obtain ⟨x, hx⟩ : ∃ x, es[j + 1].1 = x := ⟨_, rfl⟩
                    obtain ⟨y, hy⟩ : ∃ y, (es[j]'(by omega)).1 = y := ⟨_, rfl⟩
                    rw [hx] at nx hlt9
                    rw [hy] at ny hlt9
                    have hxy : Op.bytesLess x y = false := by
                      rw [bytesLess_eq]
                      exact decide_eq_false fun h => List.lt_irrefl _ (List.lt_trans h hlt9)
                    have hxe : (x == y) = false := by
                      rw [beq_eq_false_iff_ne]
                      rintro rfl
                      exact List.lt_irrefl _ hlt9
                    clear hnd e8 hjl hx hy hlt9
                    have HS0 : Hid (∀ w', Below wr.heap.size wr w' → w'.cell? ⟨g8, off8 + (j + 1) * 2 + 1, none⟩ = some (.int .i64 nd) ∧ w'.cell? ⟨g9, i, none⟩ = some (.int .i64 d) ∧ w'.cell? ⟨g8, off8 + (j + 1) * 2, none⟩ = some (.string (mk x)) ∧ w'.cell? ⟨g8, off8 + j * 2, none⟩ = some (.string (mk y)) ∧ Below wr.heap.size wr w') := Lib.hid (fun w' h => ⟨(h.cell (p := ⟨g8, off8 + (j + 1) * 2 + 1, none⟩) hl8).trans n1, (h.cell (p := ⟨g9, i, none⟩) hl9).trans k9, (h.cell (p := ⟨g8, off8 + (j + 1) * 2, none⟩) hl8).trans nx, (h.cell (p := ⟨g8, off8 + j * 2, none⟩) hl8).trans ny, h⟩)
                    go_wp2_with fail
                    go_region_held3 (fun w' => w'.cell? ⟨g8, off8 + (j + 1) * 2 + 1, none⟩ = some (.int .i64 nd) ∧ w'.cell? ⟨g9, i, none⟩ = some (.int .i64 d) ∧ w'.cell? ⟨g8, off8 + (j + 1) * 2, none⟩ = some (.string (mk x)) ∧ w'.cell? ⟨g8, off8 + j * 2, none⟩ = some (.string (mk y)) ∧ Below wr.heap.size wr w')
                      (first
                        | exact HS0.out _ (below_drewN (Below.refl _ _) 1)
                        | exact HS0.out _ hX8
                        | exact HS0.out _ hX9)
                      (first
                        | (go_at_call 12; refine (HUP.out _ (HXT.out _ _ HBj.out (below_drewN (Below.refl _ _) 1))).mono ?_; rintro e w8 ⟨rfl, hb8⟩; have hX8 : Below wr.heap.size wr w8 := ext_trans (below_drewN (Below.refl _ _) 1) hb8; clear hb8)
                        | (go_at_call 13; refine (HKI.out _ (HXT.out _ _ HBj.out hX8)).mono ?_; rintro e w9 ⟨rfl, hb9⟩; have hX9 : Below wr.heap.size wr w9 := ext_trans hX8 hb9; clear hb9))
                    rename_i hH
                    clear hH
                    have HB9 := Lib.hid (HXT.out _ _ HBj.out hX9)
                    have HOJ9 : Hid (IntsOwn w9 D (.slice (some ⟨g9, 0, none⟩) q c9) q l9) := Lib.hid (own_below HOj.out hX9)
                    have HEJ9 : Hid (OwnE w9 D (.slice (some ⟨g8, off8, none⟩) p c8) es) := Lib.hid (own_below HEj.out hX9)
                    have n9 : w9.cell? ⟨g8, off8 + (j + 1) * 2 + 1, none⟩ = some (.int .i64 nd) := (hX9.cell (p := ⟨g8, off8 + (j + 1) * 2 + 1, none⟩) hl8).trans n1
                    have hDs : D ≤ w9.heap.size := by rw [← HD.out]; exact HB9.out.size
                    have hbb : (q + 1) * 8 ≤ 140737488355328 := by have := HB10.out; omega
                    clear hX9 hX8 n1 k9 nx ny hl9 HS0 hiq hiq2 hxy hxe
                    go_wp2_with (at_builtin; refine put_one (w0 := wz) (W := w9) D rfl _ _ 35 3 _ 1 8 rfl Try.underlying35 info3 rfl (by decide) (by decide) (.slice (some ⟨g9, 0, none⟩) q c9) q _ [.int .i64 nd] rfl rfl rfl (by simp [Value.oneCell']) HOJ9.out HB9.out hDs hbb ?_; intro v1 w11 hown hb11 hg11; have HO11 := Lib.hid (ints_more hown); have HB11 := Lib.hid hb11; have HE11 := Lib.hid (HEJ9.out.kept hg11 (own_ne HEJ9.out HOJ9.out (by decide))); clear hown hb11 hg11)
                    go_roundg g2
                    case measure => omega
                    case rel => exact ⟨j + 1 + 1, by omega, by have := HPL.out; go_num, Lib.hid (by rw [HTK.out, show n + (j + 1 + 1) = q + 1 by have := HQJ.out; omega]; exact HO11.out), HE11, HB11⟩
          · have hge : ¬ (i : Int) < (n : Int) := by omega
            have HEQ : Hid (n = N) := Lib.hid (by
              have h := HMT.out.2.1.all HWF.out (by have := HMT.out.1; omega)
              have := HN.out; have := HMT.out.1; omega)
            obtain rfl := HEQ.out
            have HLEN := Lib.hid (tree_Len t b (relS Lk la) wr (HTD.out _ HB.out))
            rw [show (relS Lk la).cnt = n from HN.out] at HLEN
            go_wp2_with fail
            refine HLEN.out.mono ?_
            rintro e w8 ⟨rfl, rfl⟩
            go_wp2_with fail
            refine (tree_lives _).mono ?_
            rintro e w9 ⟨rfl, hb⟩
            go_wp2_with fail
            go_ret
            exact ⟨rfl, ext_trans (HWD.out _ HB.out) hb⟩
end Go.Proofs.Ytmjggjccmbiheab
