/- The reference's Cut, step by step. -/
import Derived.Test.YtmjggjccmbiheabRefSet
namespace Go.Proofs.Ytmjggjccmbiheab
open Go Go.RowKit Go.Proofs Go.Sort
attribute [local go_sem] mk_list mk_size mk_data nfield0 nfield1 nfield3

def cutR (L : List NodeT) (d : Int) (s : Tx) : List NodeT × Int :=
  if dirR L d ≠ 0 then (L, dirR L d) else if inR L d s = 0 then (L, 5) else if listR L (inR L d s) ≠ [] then (L, 9) else (L.filter (fun x => x.num != inR L d s), 0)
set_option maxRecDepth 100000 in
set_option maxHeartbeats 4000000 in
theorem ref_Cut (A : Option Addr) (c : Nat) (L : List NodeT) (last d : Int) (s : Tx) (W : World) (h : NodesAt W A L) (hl : L.length ≤ 10000000) :
    Calls Try.prog 24 #[.agg #[.slice A L.length c, .int .i64 last], .int .i64 d, .string (mk s)] W (RTo (cutR L d s).1 last (cutR L d s).2 W) := by
  have HN := Lib.hid (And.intro h hl)
  have HDI := Lib.hid (fun w (hb : Below W.heap.size W w) => ref_dir A c L last d w (h.below hb) (by omega))
  have HIN := Lib.hid (fun w (hb : Below W.heap.size W w) => ref_In A c L last d s w (h.below hb) (by omega))
  have HLI := Lib.hid (fun n w (hb : Below W.heap.size W w) => ref_List A c L last n w (h.below hb) (by omega))
  obtain ⟨r, hr⟩ : ∃ r, cutR L d s = r := ⟨_, rfl⟩
  have HR := Lib.hid hr.symm
  unfold cutR at HR
  rw [hr]
  obtain ⟨m, hm⟩ : ∃ m, L.length = m := ⟨_, rfl⟩
  have HL := Lib.hid hm
  have hmb : m ≤ 10000000 := by omega
  obtain ⟨qd, hqd⟩ : ∃ q, dirR L d = q := ⟨_, rfl⟩
  obtain ⟨n, hn⟩ : ∃ n, inR L d s = n := ⟨_, rfl⟩
  rw [hqd, hn] at HR
  rw [hqd] at HDI
  rw [hn] at HIN
  rw [hm] at HDI HIN HLI ⊢
  obtain ⟨W0, hW0⟩ : ∃ W0, (W.alloc (.cells #[.slice A m c, .int .i64 last] 29)).alloc (.cells #[.slice none 0 0, .int .i64 0] 29) = W0 := ⟨_, rfl⟩
  have HW := Lib.hid (two_new W (.cells #[.slice A m c, .int .i64 last] 29) (.cells #[.slice none 0 0, .int .i64 0] 29))
  rw [hW0] at HW
  have c0 := blk_cell HW.out.2.1 0
  have c1 := blk_cell HW.out.2.1 1
  have e0 := blk_cell HW.out.2.2 0
  have e1 := blk_cell HW.out.2.2 1
  have q0 := blk_frozen HW.out.2.2 0
  have q1 := blk_frozen HW.out.2.2 1
  have hl0 := blk_lt HW.out.2.1
  have hl1 := blk_lt HW.out.2.2
  simp only [List.getElem?_toArray, List.getElem?_cons_zero, List.getElem?_cons_succ] at c0 c1 e0 e1
  clear h hl hr hm hqd hn
  go_enter Try.func24, Try.ntmps24
  go_wp2_with fail
  try rw [hW0]
  clear hW0
  refine (HDI.out _ HW.out.1).mono ?_
  rintro e w1 ⟨rfl, hb⟩
  have HB := Lib.hid (And.intro (ext_trans HW.out.1 hb) (And.intro ((hb.block _ (blk_lt HW.out.2.1)).trans HW.out.2.1) ((hb.block _ (blk_lt HW.out.2.2)).trans HW.out.2.2)))
  clear hb c0 c1 e0 e1 q0 q1 hl0 hl1
  have c0 := blk_cell HB.out.2.1 0
  have c1 := blk_cell HB.out.2.1 1
  have e0 := blk_cell HB.out.2.2 0
  have e1 := blk_cell HB.out.2.2 1
  have q0 := blk_frozen HB.out.2.2 0
  have q1 := blk_frozen HB.out.2.2 1
  have hl0 := blk_lt HB.out.2.1
  have hl1 := blk_lt HB.out.2.2
  simp only [List.getElem?_toArray, List.getElem?_cons_zero, List.getElem?_cons_succ] at c0 c1 e0 e1
  by_cases h0 : qd = 0
  · subst h0
    go_wp2_with fail
    refine (HIN.out _ HB.out.1).mono ?_
    rintro e w2 ⟨rfl, hb⟩
    have HB2 := Lib.hid (And.intro (ext_trans HB.out.1 hb) (And.intro ((hb.block _ (blk_lt HB.out.2.1)).trans HB.out.2.1) ((hb.block _ (blk_lt HB.out.2.2)).trans HB.out.2.2)))
    clear hb c0 c1 e0 e1 q0 q1 hl0 hl1
    have c0 := blk_cell HB2.out.2.1 0
    have c1 := blk_cell HB2.out.2.1 1
    have e0 := blk_cell HB2.out.2.2 0
    have e1 := blk_cell HB2.out.2.2 1
    have q0 := blk_frozen HB2.out.2.2 0
    have q1 := blk_frozen HB2.out.2.2 1
    have hl0 := blk_lt HB2.out.2.1
    have hl1 := blk_lt HB2.out.2.2
    simp only [List.getElem?_toArray, List.getElem?_cons_zero, List.getElem?_cons_succ] at c0 c1 e0 e1
    by_cases h1 : n = 0
    · subst h1
      have HR2 : Hid (r = (L, 5)) := HR
      obtain rfl := HR2.out
      go_wp2_with fail
      refine bodyPost_ret (v := .tuple #[.agg #[.slice A m c, .int .i64 last], .int .i64 5]) ?_ rfl ?_
      · rw [results_cell_tmp rfl]
        go_simp
      · have HD := ret_done HB2.out.1 (Nat.le_succ _) HB2.out.2.2 (HN.out.1.below HB2.out.1) (.slice A m c) (.int .i64 last)
        exact ⟨⟨A, c, by rw [HL.out], HD.1⟩, HD.2⟩
    · have h1' : (n == 0) = false := by simpa using h1
      have HR2 : Hid (r = if listR L n ≠ [] then (L, 9) else (L.filter (fun x => x.num != n), 0)) := Lib.hid (by rw [HR.out, if_neg (by simp), if_neg h1])
      clear h1 HR
      go_wp2_with fail
      refine (HLI.out n _ HB2.out.1).mono ?_
      rintro e w3 ⟨⟨v, rfl, ho⟩, hb⟩
      obtain ⟨A5, c5, rfl, _, _⟩ := ho.at
      clear ho
      have HB3 := Lib.hid (And.intro (ext_trans HB2.out.1 hb) (And.intro ((hb.block _ (blk_lt HB2.out.2.1)).trans HB2.out.2.1) ((hb.block _ (blk_lt HB2.out.2.2)).trans HB2.out.2.2)))
      clear hb c0 c1 e0 e1 q0 q1 hl0 hl1
      have c0 := blk_cell HB3.out.2.1 0
      have c1 := blk_cell HB3.out.2.1 1
      have e0 := blk_cell HB3.out.2.2 0
      have e1 := blk_cell HB3.out.2.2 1
      have q0 := blk_frozen HB3.out.2.2 0
      have q1 := blk_frozen HB3.out.2.2 1
      have hl0 := blk_lt HB3.out.2.1
      have hl1 := blk_lt HB3.out.2.2
      simp only [List.getElem?_toArray, List.getElem?_cons_zero, List.getElem?_cons_succ] at c0 c1 e0 e1
      obtain ⟨li, hli⟩ : ∃ li, listR L n = li := ⟨_, rfl⟩
      rw [hli] at HR2 ⊢
      clear hli
      cases li with
      | cons y ys =>
        have HR3 : Hid (r = (L, 9)) := Lib.hid (by rw [HR2.out]; simp)
        obtain rfl := HR3.out
        rw [List.length_cons]
        have hpos : ((ys.length + 1 : Nat) : Int) > 0 := by omega
        go_wp2_with fail
        refine bodyPost_ret (v := .tuple #[.agg #[.slice A m c, .int .i64 last], .int .i64 9]) ?_ rfl ?_
        · rw [results_cell_tmp rfl]
          go_simp
        · have HD := ret_done HB3.out.1 (Nat.le_succ _) HB3.out.2.2 (HN.out.1.below HB3.out.1) (.slice A m c) (.int .i64 last)
          exact ⟨⟨A, c, by rw [HL.out], HD.1⟩, HD.2⟩
      | nil =>
        have HR3 : Hid (r = (L.filter (fun x => x.num != n), 0)) := Lib.hid (by rw [HR2.out]; simp)
        obtain rfl := HR3.out
        rw [List.length_nil]
        obtain ⟨Bz, hBz⟩ : ∃ Bz, w3.heap.size = Bz := ⟨_, rfl⟩
        have HBZ := Lib.hid hBz
        clear hBz c0 c1 e0 e1 q0 q1 hl0 hl1
        go_wp2_with fail
        go_loopg [10, 11] m (fun g ov iv wx => ∃ k : Nat, k + g = m ∧ iv = .int .i64 k ∧ Hid (OwnN wx Bz ov ((L.take k).filter (fun x => x.num != n))) ∧ Hid (Below w3.heap.size w3 wx))
        case atStart => exact ⟨0, by omega, rfl, Lib.hid (World.ownsRow_nil _ _ _ _), Lib.hid (Below.refl _ _)⟩
        case round =>
          obtain ⟨k, hk, rfl, HO, HBX⟩ := hrel
          have HB4 := Lib.hid (And.intro (ext_trans HB3.out.1 HBX.out) (And.intro ((HBX.out.block _ (blk_lt HB3.out.2.1)).trans HB3.out.2.1) ((HBX.out.block _ (blk_lt HB3.out.2.2)).trans HB3.out.2.2)))
          have c0 := blk_cell HB4.out.2.1 0
          have c1 := blk_cell HB4.out.2.1 1
          have e0 := blk_cell HB4.out.2.2 0
          have e1 := blk_cell HB4.out.2.2 1
          have q0 := blk_frozen HB4.out.2.2 0
          have q1 := blk_frozen HB4.out.2.2 1
          have hl0 := blk_lt HB4.out.2.1
          have hl1 := blk_lt HB4.out.2.2
          simp only [List.getElem?_toArray, List.getElem?_cons_zero, List.getElem?_cons_succ] at c0 c1 e0 e1
          cases gk with
          | zero =>
            obtain rfl : k = m := by omega
            have HE : Hid ((L.take k).filter (fun x => x.num != n) = L.filter (fun x => x.num != n)) := Lib.hid (by rw [List.take_of_length_le (by have := HL.out; omega)])
            rw [HE.out] at HO
            obtain ⟨A6, c6, rfl, hn6, _⟩ := HO.out.nodes
            have HN6 := Lib.hid hn6
            clear hn6
            go_wp2_with fail
            refine bodyPost_ret (v := .tuple #[.agg #[.slice A6 (L.filter (fun x => x.num != n)).length c6, .int .i64 last], .int .i64 0]) ?_ rfl ?_
            · rw [results_cell_tmp rfl]
              go_simp
            · have HD := ret_done HB4.out.1 (Nat.le_succ _) HB4.out.2.2 HN6.out (.slice A6 (L.filter (fun x => x.num != n)).length c6) (.int .i64 last)
              exact ⟨⟨A6, c6, rfl, HD.1⟩, HD.2⟩
          | succ g =>
            have hkl : k < L.length := by have := HL.out; omega
            obtain ⟨b, off, rfl, hb, f0, f1, f2, f3, f4⟩ := (HN.out.1.below HB4.out.1).cells hkl
            have HT := Lib.hid (List.take_succ_eq_append_getElem hkl)
            obtain ⟨x, hx⟩ : ∃ x, L[k] = x := ⟨_, rfl⟩
            rw [hx] at f0 f1 f2 f3 f4 HT
            obtain ⟨xn, xu, xs, xk, xd⟩ := x
            simp only at f0 f1 f2 f3 f4
            have hkI : (k : Int) < (m : Int) := by omega
            have hk0 : (0 : Int) ≤ (k : Int) := by omega
            clear hx hb
            cases hq : (xn != n)
            · have HQ : Hid ((L.take (k + 1)).filter (fun x => x.num != n) = (L.take k).filter (fun x => x.num != n)) := Lib.hid (by rw [HT.out, List.filter_append, List.filter_cons]; simp only [hq]; simp)
              go_wp2_with fail
              go_roundg g
              case measure => omega
              case rel => exact ⟨k + 1, by omega, by go_num, Lib.hid (by rw [HQ.out]; exact HO.out), HBX⟩
            · have HQ : Hid ((L.take (k + 1)).filter (fun x => x.num != n) = (L.take k).filter (fun x => x.num != n) ++ [⟨xn, xu, xs, xk, xd⟩]) := Lib.hid (by rw [HT.out, List.filter_append, List.filter_cons]; simp only [hq]; simp)
              have hfl : ((L.take k).filter (fun x => x.num != n)).length ≤ 10000000 := Nat.le_trans (List.length_filter_le _ _) (by rw [List.length_take]; omega)
              obtain ⟨F, hF⟩ : ∃ F, (L.take k).filter (fun x => x.num != n) = F := ⟨_, rfl⟩
              rw [hF] at HO HQ hfl
              have hbd : (F.length + 1) * 56 ≤ 140737488355328 := by omega
              have hbs : Bz ≤ wr.heap.size := by rw [← HBZ.out]; exact HBX.out.size
              have HBY : Hid (Below Bz w3 wr) := Lib.hid (HBX.out.mono (by rw [HBZ.out]; exact Nat.le_refl _))
              clear hF
              go_wp2_with (at_builtin; refine put_one (W := wr) Bz rfl _ _ 27 56 _ 5 56 rfl Try.underlying27 info56 rfl (by decide) (by decide) u10 F.length _ [.int .i64 xn, .int .i64 xu, .string (mk xs), .int .i64 xk, .string (mk xd)] rfl rfl rfl (by simp [Value.oneCell']) HO.out HBY.out hbs hbd ?_; intro v1 w4 hown1 hb1 hg1; have HO1 := Lib.hid hown1; have HB1 := Lib.hid hb1; clear hown1 hb1 hg1)
              go_roundg g
              case measure => omega
              case rel => exact ⟨k + 1, by omega, by go_num, Lib.hid (by rw [HQ.out]; unfold OwnN; rw [List.length_append, List.flatMap_append]; simpa [nodeC] using HO1.out), Lib.hid (HB1.out.mono (by rw [HBZ.out]; exact Nat.le_refl _))⟩
  · have h0' : (qd != 0) = true := by simpa using h0
    have HR2 : Hid (r = (L, qd)) := Lib.hid (by rw [HR.out, if_pos h0])
    obtain rfl := HR2.out
    clear h0
    go_wp2_with fail
    refine bodyPost_ret (v := .tuple #[.agg #[.slice A m c, .int .i64 last], .int .i64 qd]) ?_ rfl ?_
    · rw [results_cell_tmp rfl]
      go_simp
    · have HD := ret_done HB.out.1 (Nat.le_succ _) HB.out.2.2 (HN.out.1.below HB.out.1) (.slice A m c) (.int .i64 last)
      exact ⟨⟨A, c, by rw [HL.out], HD.1⟩, HD.2⟩
end Go.Proofs.Ytmjggjccmbiheab
