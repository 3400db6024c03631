/- of, step by step. -/
import Derived.Test.YtmjggjccmbiheabDoorWhole
namespace Go.Proofs.YtmjggjccmbiheabDoor
open Go Go.RowKit Go.Proofs
attribute [local go_sem] mk_list mk_size mk_data

set_option maxRecDepth 100000 in
set_option maxHeartbeats 2000000 in
theorem class_of_no (s : Tx) (W : World) (hs : s.length ≤ 9223372036854775807) (hno : okS s = false) :
    Calls Tryd.prog 21 #[.string (mk s)] W fun e w' => e = .returned (.agg (vb (hasT s))) ∧ Below W.heap.size W w' := by
  have hz := zero37
  have e0 : (⟨#[]⟩ : ByteArray) = mk [] := rfl
  have e1 : (⟨#[48, 49]⟩ : ByteArray) = mk [48, 49] := rfl
  have HV : Hid (vb (hasT s) = vb fun _ => false) := Lib.hid (vb_congr fun i _ => has_not hno i)
  rw [HV.out]
  have h2 := three2 W
  by_cases hl : s.length = 256
  · have hl2 : ((s.length : Int) != 256) = false := by rw [bne_eq_false_iff_eq]; omega
    have HT := Lib.hid (fun w => Tryd.strings_Trim_set (mk s) (mk [48, 49]) w (by rw [mk_size]; exact hs) (by decide) (by decide))
    obtain ⟨r, hr⟩ : ∃ r, Lib.trimS s [48, 49] = r := ⟨_, rfl⟩
    simp only [mk_data] at HT
    rw [hr] at HT
    have HT2 : Hid (∀ w, Calls Tryd.prog 24 #[.string (mk s), .string (mk [48, 49])] w fun e w' => e = .returned (.string (mk r)) ∧ Below w.heap.size w w') := HT
    have hne : (r == []) = false := by
      rw [beq_eq_false_iff_ne]
      intro e
      rw [(ok_iff s).2 ⟨hl, hr.trans e⟩] at hno
      cases hno
    have hne2 : (r != []) = true := by rw [bne, hne]; rfl
    have H2 := Lib.hid h2
    clear hr HT h2
    go_enter Tryd.func21, Tryd.ntmps21
    simp only [e0, e1]
    clear e0 e1
    go_wp2_with fail
    refine (HT2.out _).mono ?_
    rintro e w3 ⟨rfl, hb3⟩
    have h3 := (hb3.block _ (blk_lt H2.out.2.1)).trans H2.out.2.1
    have h4 := (hb3.block _ (blk_lt H2.out.2.2)).trans H2.out.2.2
    have H3 := Lib.hid (And.intro (ext_trans H2.out.1 hb3) h3)
    go_wp2_with fail
    refine load_bits _ rfl (W.heap.size + 1) 0 rfl (pre := []) h4 rfl ?_
    clear hb3 h3 h4
    go_wp2_with fail
    obtain ⟨w', hrun, hb, hk⟩ := store_run (fun _ => false) H3.out.2
    rw [hrun]
    simp only [Result.andThen_ok]
    rw [Oper.upon_skip]
    clear hrun
    go_wp2_with fail
    have hld := result_bits hb
    refine bodyPost_ret (v := .agg (vb fun _ => false)) ?_ rfl ⟨rfl, Keep.under H3.out.1 hk (Nat.le_refl _) (Nat.le_refl _) H3.out.1.size⟩
    rw [results_cell1 rfl]
    simp [Act.put, asAddr, Result.andThen, hld]
  · have hl2 : ((s.length : Int) != 256) = true := by rw [bne_iff_ne]; omega
    go_enter Tryd.func21, Tryd.ntmps21
    simp only [e0, e1]
    clear e0 e1
    go_wp2_with fail
    refine load_bits _ rfl (W.heap.size + 1) 0 rfl (pre := []) h2.2.2 rfl ?_
    go_wp2_with fail
    obtain ⟨w', hrun, hb, hk⟩ := store_run (fun _ => false) h2.2.1
    rw [hrun]
    simp only [Result.andThen_ok]
    rw [Oper.upon_skip]
    go_wp2_with fail
    have hld := result_bits hb
    refine bodyPost_ret (v := .agg (vb fun _ => false)) ?_ rfl ⟨rfl, Keep.under h2.1 hk (Nat.le_refl _) (Nat.le_refl _) h2.1.size⟩
    rw [results_cell1 rfl]
    simp [Act.put, asAddr, Result.andThen, hld]
set_option maxRecDepth 100000 in
set_option maxHeartbeats 2000000 in
theorem class_of_ok (s : Tx) (W : World) (hok : okS s = true) :
    Calls Tryd.prog 21 #[.string (mk s)] W fun e w' => e = .returned (.agg (vb (hasT s))) ∧ Below W.heap.size W w' := by
  have hz := zero37
  have e0 : (⟨#[]⟩ : ByteArray) = mk [] := rfl
  have e1 : (⟨#[48, 49]⟩ : ByteArray) = mk [48, 49] := rfl
  have h2 := three2 W
  have hl := ok_len hok
  have hl2 : ((s.length : Int) != 256) = false := by rw [bne_eq_false_iff_eq]; omega
  have HT := Lib.hid (fun w => Tryd.strings_Trim_set (mk s) (mk [48, 49]) w (by rw [mk_size]; omega) (by decide) (by decide))
  simp only [mk_data] at HT
  rw [((ok_iff s).1 hok).2] at HT
  have HT2 : Hid (∀ w, Calls Tryd.prog 24 #[.string (mk s), .string (mk [48, 49])] w fun e w' => e = .returned (.string (mk [])) ∧ Below w.heap.size w w') := HT
  have H2 := Lib.hid h2
  have HOK := Lib.hid hok
  have HL := Lib.hid hl
  clear HT h2 hok hl
  go_enter Tryd.func21, Tryd.ntmps21
  simp only [e0, e1]
  clear e0 e1
  go_wp2_with fail
  refine (HT2.out _).mono ?_
  rintro e w3 ⟨rfl, hb3⟩
  have H3 : Hid (Below W.heap.size W w3 ∧ w3.heap[W.heap.size]? = some (.cells (vb fun _ => false) 37) ∧ w3.heap[W.heap.size + 1]? = some (.cells (vb fun _ => false) 37)) := Lib.hid ⟨ext_trans H2.out.1 hb3, (hb3.block _ (blk_lt H2.out.2.1)).trans H2.out.2.1, (hb3.block _ (blk_lt H2.out.2.2)).trans H2.out.2.2⟩
  clear hb3 H2 hz
  go_wp2_with fail
  obtain ⟨B, hB⟩ : ∃ B, W.heap.size = B := ⟨_, rfl⟩
  rw [hB] at H3 ⊢
  go_loopg [14] 256 (fun g cv wx => ∃ k : Nat, k + g = 256 ∧ cv = .int .i64 k ∧ Hid (Keep (B + 1) (B + 1) w3 wx ∧ wx.heap[B + 1]? = some (.cells (vb fun i => if i < k then hasT s i else false) 37)))
  case atStart => exact ⟨0, by omega, rfl, Lib.hid ⟨Keep.refl _ _ _, H3.out.2.2⟩⟩
  case round =>
    obtain ⟨k, hk, rfl, HX⟩ := hrel
    cases gk with
    | zero =>
      obtain rfl : k = 256 := by omega
      have hn : ¬ ((256 : Nat) : Int) < 256 := by omega
      have HV : Hid (vb (hasT s) = vb fun i => if i < 256 then hasT s i else false) := Lib.hid (vb_congr fun i hi => (if_pos hi).symm)
      have h4 := HX.out.2
      rw [← HV.out] at h4
      have h5 := (HX.out.1.block B (blk_lt H3.out.2.1) (by omega) (by omega)).trans H3.out.2.1
      go_wp2_with fail
      refine load_bits _ rfl (B + 1) 0 rfl (pre := []) h4 rfl ?_
      clear h4
      go_wp2_with fail
      obtain ⟨w', hrun, hb, hk⟩ := store_run (hasT s) h5
      rw [hrun]
      simp only [Result.andThen_ok]
      rw [Oper.upon_skip]
      clear hrun
      go_wp2_with fail
      have hld := result_bits hb
      refine bodyPost_ret (v := .agg (vb (hasT s))) ?_ rfl ⟨rfl, by rw [hB]; exact Keep.under (Keep.under H3.out.1 HX.out.1 (Nat.le_succ _) (Nat.le_succ _) (by have := H3.out.1.size; omega)) hk (Nat.le_refl _) (Nat.le_refl _) (by have := H3.out.1.size; have := HX.out.1.size; omega)⟩
      rw [results_cell1 rfl]
      simp [Act.put, asAddr, Result.andThen, hld]
    | succ g =>
      have hn : (k : Int) < 256 := by omega
      have h0 : (0 : Int) ≤ (k : Int) := by omega
      have hkl : k < s.length := by have := HL.out; omega
      have hkz : k < (mk s).size := by rw [mk_size]; exact hkl
      have x0 := blk_cell HX.out.2 k
      rw [vb_get _ (by omega)] at x0
      have z0 := blk_frozen HX.out.2 k
      have hlt := blk_lt HX.out.2
      obtain ⟨b, hb⟩ : ∃ b : Int, (((mk s)[k]'hkz).toNat : Int) = b := ⟨_, rfl⟩
      have hbb := byte_eq (s[k]'hkl) 49 (by omega)
      have hb2 : (((s[k]'hkl).toNat : Int)) = b := hb
      rw [hb2] at hbb
      have HG : Hid (hasT s k = (b == 49)) := Lib.hid (by rw [has_get HOK.out (by omega), show (49 : Int) = ((49 : Nat) : Int) from rfl, hbb]; rfl)
      clear hbb hb2
      go_wp2_with fail
      go_roundg g
      case measure => omega
      case rel =>
        refine ⟨k + 1, by omega, by go_num, Lib.hid ⟨HX.out.1.trans (Keep.setR _ _), ?_⟩⟩
        rw [heap_setCell_at HX.out.2, vb_set]
        rw [vb_congr fun i _ => step_to (hasT s) false HG.out.symm i]
theorem class_of (s : Tx) (W : World) (hs : s.length ≤ 9223372036854775807) :
    Calls Tryd.prog 21 #[.string (mk s)] W fun e w' => e = .returned (.agg (vb (hasT s))) ∧ Below W.heap.size W w' := by
  cases h : okS s
  · exact class_of_no s W hs h
  · exact class_of_ok s W h
end Go.Proofs.YtmjggjccmbiheabDoor
