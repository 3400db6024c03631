/- The law ClassSets, step by step. -/
import Derived.Test.YtmjggjccmbiheabDoorLives
import Derived.Test.YtmjggjccmbiheabDoorRNamed
namespace Go.Proofs.YtmjggjccmbiheabDoor
open Go Go.RowKit Go.Proofs
attribute [local go_sem] mk_list mk_size mk_data

theorem has_notT (a : Tx) {c : Nat} (hc : c < 256) : hasT (tb (notB a)) c = !hasT a c := by rw [has_tb _ hc]; rfl
theorem not_notT (a : Tx) : tb (notB (tb (notB a))) = tb (unionB a []) := tb_congr fun i hi => by
  unfold notB unionB
  rw [has_tb _ hi, Bool.not_not, show hasT [] i = false from has_not rfl i, Bool.or_false]
set_option maxRecDepth 100000 in
set_option maxHeartbeats 4000000 in
theorem classSets_law (a b : Tx) (c d : Nat) (W : World) (hc : c < 256) (hd : d < 256) (ha : a.length ≤ 9223372036854775807) (hb : b.length ≤ 9223372036854775807) :
    Calls Tryd.prog 3 #[.agg #[.string (mk a), .string (mk b), .int .u8 c, .int .u8 d]] W fun e w' => e = .returned (.bool true) ∧ Below W.heap.size W w' := by
  have e0 : (⟨#[]⟩ : ByteArray) = mk [] := rfl
  have H4 := Lib.hid (fun w => class_Named c w hc)
  have H5 := Lib.hid (fun w => ref_Named c w)
  have H6 := Lib.hid (fun w => class_Span c d w hc hd)
  have H7 := Lib.hid (fun w => ref_Span c d w hd)
  have H8 := Lib.hid (fun w => class_One c w hc)
  have H7' := Lib.hid (fun w => ref_Span c c w hc)
  have H9 := Lib.hid (fun w => class_Has a c w ha hc)
  have H10 := Lib.hid (fun w => ref_Has a c w ha hc)
  have H11 := Lib.hid (fun w => class_Not a w ha)
  have H9' := Lib.hid (fun w => class_Has (tb (notB a)) c w (by rw [tb_len]; decide) hc)
  simp only [has_notT a hc] at H9'
  have H12 := Lib.hid (fun w => class_Union a b w ha hb)
  have H13 := Lib.hid (fun w => ref_Union a b w ha hb)
  have H14 := Lib.hid (fun w => ref_Not a w ha)
  have H11' := Lib.hid (fun w => class_Not (tb (notB a)) w (by rw [tb_len]; decide))
  simp only [not_notT a] at H11'
  have H12' := Lib.hid (fun w => class_Union a [] w ha (by decide))
  have H15 := Lib.hid (fun w => class_Count a w ha)
  have H16 := Lib.hid (fun w => ref_Count a w ha)
  have H17 := Lib.hid (fun w => class_lives w)
  obtain ⟨⟨t, nb⟩, hnm⟩ : ∃ r, namedT c = r := ⟨_, rfl⟩
  rw [hnm] at H4 H5
  dsimp only at H4 H5
  clear hnm
  generalize tb (spanB c d) = tS at H6 H7
  generalize tb (spanB c c) = tO at H8 H7'
  generalize tb (notB a) = tN at H11 H9' H14 H11'
  generalize tb (unionB a b) = tU at H12 H13
  generalize tb (unionB a []) = tE at H11' H12'
  generalize countT a = ct at H15 H16
  generalize hasT a c = hv at H9 H9' H10
  have hc0 : (0 : Int) ≤ c := by omega
  have hc1 : (c : Int) < 256 := by omega
  have hwc : IntKind.i64.wrap (c : Int) = c := IntWalk.i64_in _ (by omega)
  have hwd : IntKind.i64.wrap (d : Int) = d := IntWalk.i64_in _ (by omega)
  have hbx := heap_alloc_new W (.cells #[.string (mk a), .string (mk b), .int .u8 c, .int .u8 d] 23)
  have c0 := blk_cell hbx 0
  have c1 := blk_cell hbx 1
  have c2 := blk_cell hbx 2
  have c3 := blk_cell hbx 3
  simp only [List.getElem?_toArray, List.getElem?_cons_zero, List.getElem?_cons_succ] at c0 c1 c2 c3
  have hl := blk_lt hbx
  have HB := Lib.hid ((Below.refl W.heap.size W).alloc (Nat.le_refl _) (.cells #[.string (mk a), .string (mk b), .int .u8 c, .int .u8 d] 23))
  clear hbx ha hb
  obtain ⟨B, hB⟩ : ∃ B, W.heap.size = B := ⟨_, rfl⟩
  rw [hB] at c0 c1 c2 c3 hl HB ⊢
  go_enter Tryd.func3, Tryd.ntmps3
  simp only [e0]
  clear e0
  go_wp2_with fail
  go_region_held3 (fun w' => w'.cell? ⟨B, 0, none⟩ = some (.string (mk a)) ∧ w'.cell? ⟨B, 1, none⟩ = some (.string (mk b)) ∧ w'.cell? ⟨B, 2, none⟩ = some (.int .u8 c) ∧ w'.cell? ⟨B, 3, none⟩ = some (.int .u8 d)) (first | exact ⟨c0, c1, c2, c3⟩ | exact ⟨by assumption, by assumption, by assumption, by assumption⟩ | go_keep) (fail)
  have K0 : Hid (Below B W ((W.alloc (.cells #[.string (mk a), .string (mk b), .int .u8 c, .int .u8 d] 23)).drew) ∧ B ≤ ((W.alloc (.cells #[.string (mk a), .string (mk b), .int .u8 c, .int .u8 d] 23)).drew).heap.size) := Lib.hid ⟨below_drewN HB.out 1, Nat.le_of_lt hl⟩
  clear c0 c1 c2 c3 hl HB
  generalize (World.drew _) = w0 at K0 ⊢
  go_wp2_with fail
  refine (H4.out _).mono ?_
  rintro e w1 ⟨rfl, hb⟩
  have K1 := Lib.hid (And.intro (below_then K0.out.1 K0.out.2 hb) (Nat.le_trans K0.out.2 hb.size))
  clear hb K0
  go_wp2_with fail
  refine (H5.out _).mono ?_
  rintro e w2 ⟨rfl, hb⟩
  have K2 := Lib.hid (And.intro (below_then K1.out.1 K1.out.2 hb) (Nat.le_trans K1.out.2 hb.size))
  clear hb K1
  go_wp2_with fail
  refine (H6.out _).mono ?_
  rintro e w3 ⟨rfl, hb⟩
  have K3 := Lib.hid (And.intro (below_then K2.out.1 K2.out.2 hb) (Nat.le_trans K2.out.2 hb.size))
  clear hb K2
  go_wp2_with fail
  refine (H7.out _).mono ?_
  rintro e w4 ⟨rfl, hb⟩
  have K4 := Lib.hid (And.intro (below_then K3.out.1 K3.out.2 hb) (Nat.le_trans K3.out.2 hb.size))
  clear hb K3
  go_wp2_with fail
  refine (H8.out _).mono ?_
  rintro e w5 ⟨rfl, hb⟩
  have K5 := Lib.hid (And.intro (below_then K4.out.1 K4.out.2 hb) (Nat.le_trans K4.out.2 hb.size))
  clear hb K4
  go_wp2_with fail
  refine (H7'.out _).mono ?_
  rintro e w6 ⟨rfl, hb⟩
  have K6 := Lib.hid (And.intro (below_then K5.out.1 K5.out.2 hb) (Nat.le_trans K5.out.2 hb.size))
  clear hb K5
  go_wp2_with fail
  refine (H9.out _).mono ?_
  rintro e w7 ⟨rfl, hb⟩
  have K7 := Lib.hid (And.intro (below_then K6.out.1 K6.out.2 hb) (Nat.le_trans K6.out.2 hb.size))
  clear hb K6
  go_wp2_with fail
  refine (H10.out _).mono ?_
  rintro e wz ⟨rfl, rfl⟩
  go_wp2_with fail
  refine (H11.out _).mono ?_
  rintro e w9 ⟨rfl, hb⟩
  have K9 := Lib.hid (And.intro (below_then K7.out.1 K7.out.2 hb) (Nat.le_trans K7.out.2 hb.size))
  clear hb K7
  go_wp2_with fail
  refine (H9'.out _).mono ?_
  rintro e w10 ⟨rfl, hb⟩
  have K10 := Lib.hid (And.intro (below_then K9.out.1 K9.out.2 hb) (Nat.le_trans K9.out.2 hb.size))
  clear hb K9
  go_wp2_with fail
  refine (H9.out _).mono ?_
  rintro e w11 ⟨rfl, hb⟩
  have K11 := Lib.hid (And.intro (below_then K10.out.1 K10.out.2 hb) (Nat.le_trans K10.out.2 hb.size))
  clear hb K10
  go_wp2_with fail
  refine (H12.out _).mono ?_
  rintro e w12 ⟨rfl, hb⟩
  have K12 := Lib.hid (And.intro (below_then K11.out.1 K11.out.2 hb) (Nat.le_trans K11.out.2 hb.size))
  clear hb K11
  go_wp2_with fail
  refine (H13.out _).mono ?_
  rintro e w13 ⟨rfl, hb⟩
  have K13 := Lib.hid (And.intro (below_then K12.out.1 K12.out.2 hb) (Nat.le_trans K12.out.2 hb.size))
  clear hb K12
  go_wp2_with fail
  refine (H11.out _).mono ?_
  rintro e w14 ⟨rfl, hb⟩
  have K14 := Lib.hid (And.intro (below_then K13.out.1 K13.out.2 hb) (Nat.le_trans K13.out.2 hb.size))
  clear hb K13
  go_wp2_with fail
  refine (H14.out _).mono ?_
  rintro e w15 ⟨rfl, hb⟩
  have K15 := Lib.hid (And.intro (below_then K14.out.1 K14.out.2 hb) (Nat.le_trans K14.out.2 hb.size))
  clear hb K14
  go_wp2_with fail
  refine (H11.out _).mono ?_
  rintro e w16 ⟨rfl, hb⟩
  have K16 := Lib.hid (And.intro (below_then K15.out.1 K15.out.2 hb) (Nat.le_trans K15.out.2 hb.size))
  clear hb K15
  go_wp2_with fail
  refine (H11'.out _).mono ?_
  rintro e w17 ⟨rfl, hb⟩
  have K17 := Lib.hid (And.intro (below_then K16.out.1 K16.out.2 hb) (Nat.le_trans K16.out.2 hb.size))
  clear hb K16
  go_wp2_with fail
  refine (H12'.out _).mono ?_
  rintro e w18 ⟨rfl, hb⟩
  have K18 := Lib.hid (And.intro (below_then K17.out.1 K17.out.2 hb) (Nat.le_trans K17.out.2 hb.size))
  clear hb K17
  go_wp2_with fail
  refine (H15.out _).mono ?_
  rintro e w19 ⟨rfl, hb⟩
  have K19 := Lib.hid (And.intro (below_then K18.out.1 K18.out.2 hb) (Nat.le_trans K18.out.2 hb.size))
  clear hb K18
  go_wp2_with fail
  refine (H16.out _).mono ?_
  rintro e wz ⟨rfl, rfl⟩
  go_wp2_with fail
  refine (H17.out _).mono ?_
  rintro e w21 ⟨rfl, hb⟩
  have K21 := Lib.hid (And.intro (below_then K19.out.1 K19.out.2 hb) (Nat.le_trans K19.out.2 hb.size))
  clear hb K19
  go_wp2_with fail
  go_ret
  exact ⟨rfl, K21.out.1⟩
end Go.Proofs.YtmjggjccmbiheabDoor
