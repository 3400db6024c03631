/- rel.End, rel.Same and the reference's Join and End, step by step. -/
import Derived.Test.YtmjggjccmbiheaaPathJoin
namespace Go.Proofs.Ytmjggjccmbiheaa
open Go.RowKit Go.Proofs Go.Sort
attribute [local go_sem] mk_list mk_size mk_data

/-- Is a text a way? -/
def wayB (s : Tx) : Bool := !List.isEmpty s && !slashB s
theorem ret_sb {a b : Tx} {c d : Bool} (h1 : a = b) (h2 : c = d) : Ending.returned (.tuple #[.string (mk a), .bool c]) = .returned (.tuple #[.string (mk b), .bool d]) := by rw [h1, h2]

set_option maxHeartbeats 1000000 in
theorem rel_End (dir s : Tx) (w : World) (h1 : dir.length ≤ 1000000000) (h2 : s.length ≤ 1000000000) :
    Calls Try.prog 53 #[.string (mk dir), .string (mk s)] w fun e w' => e = .returned (.tuple #[.string (mk (joinD dir s)), .bool (wayB s)]) ∧ Below w.heap.size w w' := by
  have hp := fun W => Try.strings_HasPrefix (mk s) (mk [47]) W
  simp only [mk_data] at hp
  have hk : (⟨#[47]⟩ : ByteArray) = mk [47] := rfl
  change ∀ W, Calls Try.prog 93 _ W fun e w' => e = .returned (.bool (slashB s)) ∧ w' = W at hp
  have HJ := Lib.hid (path_Join dir s w h1 h2)
  have HP := Lib.hid hp
  have HW := Lib.hid (show wayB s = (!List.isEmpty s && !slashB s) from rfl)
  generalize joinD dir s = j at HJ ⊢
  clear hp
  cases he : List.isEmpty s
  · rw [he] at HW
    cases hb : slashB s
    · rw [hb] at HP HW
      go_enter Try.func53, Try.ntmps53
      simp only [hk]
      go_wp2_with (first | (go_at_call 93; refine (HP.out _).mono ?_; rintro e w' ⟨rfl, rfl⟩) | (go_at_call 92; refine HJ.out.mono ?_; rintro e w' ⟨rfl, hb⟩))
      go_ret2
      exact ⟨ret_sb rfl HW.out.symm, hb⟩
    · rw [hb] at HP HW
      go_enter Try.func53, Try.ntmps53
      simp only [hk]
      go_wp2_with (first | (go_at_call 93; refine (HP.out _).mono ?_; rintro e w' ⟨rfl, rfl⟩) | (go_at_call 92; refine HJ.out.mono ?_; rintro e w' ⟨rfl, hb⟩))
      go_ret2
      exact ⟨ret_sb rfl HW.out.symm, hb⟩
  · rw [he] at HW
    go_enter Try.func53, Try.ntmps53
    simp only [hk]
    go_wp2_with (first | (go_at_call 93; refine (HP.out _).mono ?_; rintro e w' ⟨rfl, rfl⟩) | (go_at_call 92; refine HJ.out.mono ?_; rintro e w' ⟨rfl, hb⟩))
    go_ret2
    exact ⟨ret_sb rfl HW.out.symm, hb⟩

theorem slash_nil : slashB [] = false := rfl
theorem slash_cons (c : UInt8) (r : Tx) : slashB (c :: r) = (c == 47) := by
  by_cases h : c = 47
  · subst h
    rw [beq_self_eq_true]
    unfold slashB Lib.hasPrefix
    first | rfl | simp
  · rw [beq_eq_false_iff_ne.2 h]
    unfold slashB Lib.hasPrefix
    show ((47 == c) && List.isPrefixOf [] r) = false
    rw [beq_eq_false_iff_ne.2 (Ne.symm h)]
    rfl

set_option maxHeartbeats 1000000 in
theorem ref_Join (dir s : Tx) (w : World) (h1 : dir.length ≤ 1000000000) (h2 : s.length ≤ 1000000000) :
    Calls Try.prog 95 #[.string (mk dir), .string (mk s)] w fun e w' => e = .returned (.string (mk (joinD dir s))) ∧ Below w.heap.size w w' := by
  have hk : (⟨#[47]⟩ : ByteArray) = mk [47] := rfl
  have HC1 := Lib.hid (fun W => ref_Clean s W (by omega))
  have HC2 := Lib.hid (fun W => ref_Clean (dir ++ 47 :: s) W (by simp; omega))
  have e1 : (47 : UInt8) :: joinS (cleanP (partsL s)) = cleanS s := rfl
  have e2 : (47 : UInt8) :: joinS (cleanP (partsL (dir ++ 47 :: s))) = cleanS (dir ++ 47 :: s) := rfl
  rw [e1] at HC1
  rw [e2] at HC2
  clear e1 e2
  have HJ := Lib.hid (show joinD dir s = if slashB s then cleanS s else cleanS (dir ++ 47 :: s) from rfl)
  have a1 := mk_append dir [47]
  have a2 := mk_append (dir ++ [47]) s
  rw [List.append_assoc] at a2
  have s1 : ¬ (9223372036854775807 < dir.length + 1) := by omega
  have s2 : ¬ (9223372036854775807 < dir.length + 1 + s.length) := by omega
  by_cases he : s = []
  · subst he
    go_enter Try.func95, Try.ntmps95
    simp only [hk]
    go_wp2_with (go_at_call 54; refine (HC2.out _).mono ?_; rintro e w' ⟨rfl, hb⟩)
    go_ret
    exact ⟨ret_str (by rw [HJ.out]; rfl), hb⟩
  · have hie : List.isEmpty s = false := by cases s <;> simp at he ⊢
    have hpos : 0 < (mk s).size := by rw [mk_size]; exact List.length_pos_iff.2 he
    have hpos2 : 0 < s.length := List.length_pos_iff.2 he
    obtain ⟨b, hb'⟩ : ∃ b : Int, (((mk s)[0]'hpos).toNat : Int) = b := ⟨_, rfl⟩
    have hbb := byte_eq (s[0]'hpos2) 47 (by omega)
    have hb2 : (((s[0]'hpos2).toNat : Int)) = b := hb'
    rw [hb2] at hbb
    have hsl : slashB s = (b == 47) := by
      rw [show (47 : Int) = ((47 : Nat) : Int) from rfl, hbb]
      cases s with
      | nil => exact absurd rfl he
      | cons c r => exact slash_cons c r
    rw [hsl] at HJ
    clear hbb hb2 hsl he
    cases hb47 : (b == 47)
    · rw [hb47] at HJ
      go_enter Try.func95, Try.ntmps95
      simp only [hk]
      go_wp2_with (go_at_call 54; refine (HC2.out _).mono ?_; rintro e w' ⟨rfl, hb⟩)
      go_ret
      exact ⟨ret_str (by rw [HJ.out]; rfl), hb⟩
    · rw [hb47] at HJ
      go_enter Try.func95, Try.ntmps95
      simp only [hk]
      go_wp2_with (go_at_call 54; refine (HC1.out _).mono ?_; rintro e w' ⟨rfl, hb⟩)
      go_ret
      exact ⟨ret_str (by rw [HJ.out]; rfl), hb⟩
end Go.Proofs.Ytmjggjccmbiheaa
