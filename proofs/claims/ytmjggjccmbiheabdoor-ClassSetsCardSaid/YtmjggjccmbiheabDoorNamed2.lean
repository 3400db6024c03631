/- Named at a byte that is no letter of a set; Named. -/
import Derived.Test.YtmjggjccmbiheabDoorNamed
namespace Go.Proofs.YtmjggjccmbiheabDoor
open Go Go.RowKit Go.Proofs
attribute [local go_sem] mk_list mk_size mk_data

theorem or32F : ∀ c : Fin 256, (c.val = 100 ∨ c.val = 119 ∨ c.val = 115 ∨ c.val = 68 ∨ c.val = 87 ∨ c.val = 83) ∨ ((bits BinOp.or IntKind.u8 (c.val : Int) 32 == 115) = false ∧ (bits BinOp.or IntKind.u8 (c.val : Int) 32 == 119) = false ∧ (bits BinOp.or IntKind.u8 (c.val : Int) 32 == 100) = false) := by decide +kernel
set_option maxRecDepth 100000 in
set_option maxHeartbeats 4000000 in
theorem class_NamedNo (c : Nat) (W : World) (hc : c < 256) (h1 : c ≠ 100) (h2 : c ≠ 119) (h3 : c ≠ 115) (h4 : c ≠ 68) (h5 : c ≠ 87) (h6 : c ≠ 83) :
    Calls Tryd.prog 4 #[.int .u8 c] W fun e w' => e = .returned (.tuple #[.string (mk (tb noB)), .bool false]) ∧ Below W.heap.size W w' := by
  have e0 : (⟨#[]⟩ : ByteArray) = mk [] := rfl
  have hz := zero37
  have HTX := Lib.hid (fun w => class_text noB w)
  obtain ⟨T, hT⟩ : ∃ T, tb noB = T := ⟨_, rfl⟩
  rw [hT] at HTX ⊢
  have i1 : ((c : Int) == 100) = false := by simp; omega
  have i2 : ((c : Int) == 119) = false := by simp; omega
  have i3 : ((c : Int) == 115) = false := by simp; omega
  have i4 : ((c : Int) == 68) = false := by simp; omega
  have i5 : ((c : Int) == 87) = false := by simp; omega
  have i6 : ((c : Int) == 83) = false := by simp; omega
  have ho : (bits BinOp.or IntKind.u8 (c : Int) 32 == 115) = false ∧ (bits BinOp.or IntKind.u8 (c : Int) 32 == 119) = false ∧ (bits BinOp.or IntKind.u8 (c : Int) 32 == 100) = false := by
    rcases or32F ⟨c, hc⟩ with h | h
    · simp only at h; omega
    · exact h
  obtain ⟨j1, j2, j3⟩ := ho
  clear h1 h2 h3 h4 h5 h6 hT
  go_enter Tryd.func4, Tryd.ntmps4
  simp only [e0]
  clear e0
  go_wp2_with fail
  have H2 := Lib.hid (three2 W)
  have h2 : ((W.alloc (.cells (vb fun _ => false) 37)).alloc (.cells (vb fun _ => false) 37)).heap[W.heap.size + 1]? = some (.cells (vb noB) 37) := H2.out.2.2
  refine load_bits _ rfl (W.heap.size + 1) 0 rfl (pre := []) h2 rfl ?_
  clear h2
  go_wp2_with fail
  refine (HTX.out _).mono ?_
  rintro e wt ⟨rfl, hb⟩
  have HT := Lib.hid (ext_trans H2.out.1 hb)
  clear hb
  go_wp2_with fail
  go_ret2
  exact ⟨rfl, HT.out⟩
theorem class_Named (c : Nat) (W : World) (hc : c < 256) :
    Calls Tryd.prog 4 #[.int .u8 c] W fun e w' => e = .returned (.tuple #[.string (mk (namedT c).1), .bool (namedT c).2]) ∧ Below W.heap.size W w' := by
  by_cases h1 : c = 100
  · subst h1; exact class_Named100 W
  by_cases h2 : c = 119
  · subst h2; exact class_Named119 W
  by_cases h3 : c = 115
  · subst h3; exact class_Named115 W
  by_cases h4 : c = 68
  · subst h4; exact class_Named68 W
  by_cases h5 : c = 87
  · subst h5; exact class_Named87 W
  by_cases h6 : c = 83
  · subst h6; exact class_Named83 W
  have e : namedT c = (tb noB, false) := by unfold namedT; rw [if_neg h1, if_neg h2, if_neg h3, if_neg h4, if_neg h5, if_neg h6]
  rw [e]
  exact class_NamedNo c W hc h1 h2 h3 h4 h5 h6
end Go.Proofs.YtmjggjccmbiheabDoor
