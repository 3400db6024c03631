/- The reference's End, step by step. -/
import Derived.Test.YtmjggjccmbiheaaRelEnd
import Derived.Deep.RegionHeld3
namespace Go.Proofs.Ytmjggjccmbiheaa
open Go.RowKit Go.Proofs Go.Sort
attribute [local go_sem] mk_list mk_size mk_data
set_option maxRecDepth 100000 in
set_option maxHeartbeats 2000000 in
/-- At no text: the guarded index is not wanted, so each operation is taken by hand. -/
theorem ref_End_nil (dir : Tx) (w : World) (h1 : dir.length ≤ 1000000000) :
    Calls Try.prog 55 #[.string (mk dir), .string (mk [])] w fun e w' => e = .returned (.tuple #[.string (mk (joinD dir [])), .bool (wayB [])]) ∧ Below w.heap.size w w' := by
  have HJ := Lib.hid (fun W => ref_Join dir [] W h1 (by simp))
  have HW := Lib.hid (show wayB [] = false from rfl)
  generalize joinD dir [] = j at HJ ⊢
  go_enter Try.func55, Try.ntmps55
  go_wp2_with fail
  refine wp_region_held_drew (S := fun w2 => Below w.heap.size w w2) (by kernel_rfl) (below_drewN (Below.refl _ _) 1) (fun hHeld => ?_)
  refine wpAnyH_take (i := 0) (v := .string (mk dir)) rfl (by kernel_rfl) (by kernel_rfl) (by kernel_rfl) (fun _ _ _ h => h) (Or.inl ⟨by kernel_rfl, ?_⟩) (by assumption) ?_
  · intro W hSw
    go_simp
  simp only [List.getElem_toArray, List.getElem_cons_zero, Act.put, List.setIfInBounds_toArray, List.set_cons_zero, List.set_cons_succ]
  refine wpAnyH_take (i := 1) (v := .string (mk [])) rfl (by kernel_rfl) (by kernel_rfl) (by kernel_rfl) (fun _ _ _ h => h) (Or.inl ⟨by kernel_rfl, ?_⟩) (by assumption) ?_
  · intro W hSw
    go_simp
  simp only [List.getElem_toArray, List.getElem_cons_zero, List.getElem_cons_succ, Act.put, List.setIfInBounds_toArray, List.set_cons_zero, List.set_cons_succ]
  refine wpAnyH_take (i := 3) (v := .string (mk [])) rfl (by kernel_rfl) (by kernel_rfl) (by kernel_rfl) (fun _ _ _ h => h) (Or.inl ⟨by kernel_rfl, ?_⟩) (by assumption) ?_
  · intro W hSw
    go_simp
  simp only [List.getElem_toArray, List.getElem_cons_zero, List.getElem_cons_succ, Act.put, List.setIfInBounds_toArray, List.set_cons_zero, List.set_cons_succ]
  refine wpAnyH_take (i := 4) (v := .bool false) rfl (by kernel_rfl) (by kernel_rfl) (by kernel_rfl) (fun _ _ _ h => h) (Or.inl ⟨by kernel_rfl, ?_⟩) (by assumption) ?_
  · intro W hSw
    go_simp
  simp only [List.getElem_toArray, List.getElem_cons_zero, List.getElem_cons_succ, Act.put, List.setIfInBounds_toArray, List.set_cons_zero, List.set_cons_succ]
  refine wpAnyH_ready (rs := [2]) (by kernel_rfl) (by simp) ?_
  refine AllReadyH.cons rfl (fun K hK => ?_) AllReadyH.nil
  simp only [List.getElem_toArray, List.getElem_cons_zero, List.getElem_cons_succ]
  go_simp
  refine (HJ.out _).mono ?_
  rintro e w2 ⟨rfl, hb⟩
  refine hK.out _ _ ?_ (fun hHeld2 => ?_)
  · exact ext_trans (by assumption) hb
  clear hK K hHeld
  refine wpAnyH_take (i := 5) (v := .bool false) rfl (by kernel_rfl) (by kernel_rfl) (by kernel_rfl) (fun _ _ _ h => h) (Or.inl ⟨by kernel_rfl, ?_⟩) (by assumption) ?_
  · intro W hSw
    go_simp
  simp only [List.getElem_toArray, List.getElem_cons_zero, List.getElem_cons_succ, Act.put, List.setIfInBounds_toArray, List.set_cons_zero, List.set_cons_succ]
  refine wpAnyH_take (i := 6) (v := undef) rfl (by kernel_rfl) (by kernel_rfl) (by kernel_rfl) (fun _ _ _ h => h) (Or.inr ⟨by kernel_rfl, rfl⟩) (by assumption) ?_
  simp only [List.getElem_toArray, List.getElem_cons_zero, List.getElem_cons_succ, Act.put, List.setIfInBounds_toArray, List.set_cons_zero, List.set_cons_succ]
  refine wpAnyH_take (i := 7) (v := undef) rfl (by kernel_rfl) (by kernel_rfl) (by kernel_rfl) (fun _ _ _ h => h) (Or.inr ⟨by kernel_rfl, rfl⟩) (by assumption) ?_
  simp only [List.getElem_toArray, List.getElem_cons_zero, List.getElem_cons_succ, Act.put, List.setIfInBounds_toArray, List.set_cons_zero, List.set_cons_succ]
  refine wpAnyH_take (i := 8) (v := undef) rfl (by kernel_rfl) (by kernel_rfl) (by kernel_rfl) (fun _ _ _ h => h) (Or.inr ⟨by kernel_rfl, rfl⟩) (by assumption) ?_
  simp only [List.getElem_toArray, List.getElem_cons_zero, List.getElem_cons_succ, Act.put, List.setIfInBounds_toArray, List.set_cons_zero, List.set_cons_succ]
  refine wpAnyH_take (i := 9) (v := .bool false) rfl (by kernel_rfl) (by kernel_rfl) (by kernel_rfl) (fun _ _ _ h => h) (Or.inl ⟨by kernel_rfl, ?_⟩) (by assumption) ?_
  · intro W hSw
    go_simp
  simp only [List.getElem_toArray, List.getElem_cons_zero, List.getElem_cons_succ, Act.put, List.setIfInBounds_toArray, List.set_cons_zero, List.set_cons_succ]
  refine wpAnyH_take (i := 10) (v := .string (mk j)) rfl (by kernel_rfl) (by kernel_rfl) (by kernel_rfl) (fun _ _ _ h => h) (Or.inl ⟨by kernel_rfl, ?_⟩) (by assumption) ?_
  · intro W hSw
    go_simp
  simp only [List.getElem_toArray, List.getElem_cons_zero, List.getElem_cons_succ, Act.put, List.setIfInBounds_toArray, List.set_cons_zero, List.set_cons_succ]
  refine wpAnyH_take (i := 11) (v := .bool false) rfl (by kernel_rfl) (by kernel_rfl) (by kernel_rfl) (fun _ _ _ h => h) (Or.inl ⟨by kernel_rfl, ?_⟩) (by assumption) ?_
  · intro W hSw
    go_simp
  simp only [List.getElem_toArray, List.getElem_cons_zero, List.getElem_cons_succ, Act.put, List.setIfInBounds_toArray, List.set_cons_zero, List.set_cons_succ]
  refine wpAnyH_done (by kernel_rfl) ?_ _
  go_wp2_with fail
  go_ret2
  exact ⟨ret_sb rfl HW.out.symm, by assumption⟩

set_option maxHeartbeats 2000000 in
theorem ref_End (dir s : Tx) (w : World) (h1 : dir.length ≤ 1000000000) (h2 : s.length ≤ 1000000000) :
    Calls Try.prog 55 #[.string (mk dir), .string (mk s)] w fun e w' => e = .returned (.tuple #[.string (mk (joinD dir s)), .bool (wayB s)]) ∧ Below w.heap.size w w' := by
  by_cases he : s = []
  · subst he
    exact ref_End_nil dir w h1
  have HJ := Lib.hid (fun W => ref_Join dir s W h1 h2)
  have HW := Lib.hid (show wayB s = (!List.isEmpty s && !slashB s) from rfl)
  generalize joinD dir s = j at HJ ⊢
  have hie : List.isEmpty s = false := by cases s <;> simp at he ⊢
  have hpos : 0 < (mk s).size := by rw [mk_size]; exact List.length_pos_iff.2 he
  have hpos2 : 0 < s.length := List.length_pos_iff.2 he
  obtain ⟨b, hb'⟩ : ∃ b : Int, (((mk s)[0]'hpos).toNat : Int) = b := ⟨_, rfl⟩
  have hbb := byte_eq (s[0]'hpos2) 47 (by omega)
  have hb2 : (((s[0]'hpos2).toNat : Int)) = b := hb'
  rw [hb2] at hbb
  have hsl : slashB s = (b == 47) := by
    rw [show (47 : Int) = ((47 : Nat) : Int) from rfl, hbb]
    cases s with
    | nil => exact absurd rfl he
    | cons c r => exact slash_cons c r
  rw [hsl, hie] at HW
  clear hbb hb2 hsl he
  cases hb47 : (b == 47)
  all_goals rw [hb47] at HW
  all_goals go_enter Try.func55, Try.ntmps55
  all_goals go_wp2_with fail
  all_goals go_region_held3 (fun w' => Below w.heap.size w w') (first | assumption | exact below_drewN (Below.refl _ _) 1 | exact ext_trans (by assumption) (by assumption)) (first | (go_at_call 95; refine (HJ.out _).mono ?_; rintro e w' ⟨rfl, hb⟩))
  all_goals go_wp2_with fail
  all_goals go_ret2
  all_goals exact ⟨ret_sb rfl (by rw [HW.out, bne, hb47]; rfl), by assumption⟩
end Go.Proofs.Ytmjggjccmbiheaa
