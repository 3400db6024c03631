/- Span, One, Has, Union, step by step. -/
import Derived.Test.YtmjggjccmbiheabDoorJoin
namespace Go.Proofs.YtmjggjccmbiheabDoor
open Go Go.RowKit Go.Proofs
attribute [local go_sem] mk_list mk_size mk_data

theorem index37 (f : Nat → Bool) {k : Nat} (hk : k < 256) (ik : IntKind) (w : World) : (Instr.index 37 (.agg (vb f)) (.int ik k)).run Tryd.prog w = .ok (.bool (f k)) w := by
  have h0 : (0 : Int) ≤ (k : Int) := by omega
  simp [Instr.index, run_underlying Tryd.underlying37, asIntOf, h0, go_sem]
  rw [if_pos hk, vb_get f hk]
  rfl
set_option maxRecDepth 100000 in
set_option maxHeartbeats 4000000 in
theorem class_Has (s : Tx) (c : Nat) (W : World) (hs : s.length ≤ 9223372036854775807) (hc : c < 256) :
    Calls Tryd.prog 9 #[.string (mk s), .int .u8 c] W fun e w' => e = .returned (.bool (hasT s c)) ∧ Below W.heap.size W w' := by
  have HF := Lib.hid (class_of s W hs)
  have hix := fun w => index37 (hasT s) hc .u8 w
  clear hs
  go_enter Tryd.func9, Tryd.ntmps9
  go_wp2_with fail
  refine HF.out.mono ?_
  rintro e w1 ⟨rfl, hb1⟩
  have HB1 := Lib.hid hb1
  go_wp2_with fail
  go_ret
  exact ⟨rfl, HB1.out⟩
set_option maxRecDepth 100000 in
set_option maxHeartbeats 4000000 in
theorem class_Span (a b : Nat) (W : World) (ha : a < 256) (hb : b < 256) :
    Calls Tryd.prog 6 #[.int .u8 a, .int .u8 b] W fun e w' => e = .returned (.string (mk (tb (spanB a b)))) ∧ Below W.heap.size W w' := by
  have e0 : (⟨#[]⟩ : ByteArray) = mk [] := rfl
  have hz := zero37
  have hX := heap_alloc_new W (.cells (vb fun _ => false) 37)
  have HA := Lib.hid (class_add W.heap.size 0 [] (fun _ => false) 37 a b (W.alloc (.cells (vb fun _ => false) 37)) hX rfl hb)
  have HTX := Lib.hid (fun w => class_text (spanB a b) w)
  have HVB : Hid (pb [] (fun i => (fun _ => false) i || spanB a b i) = vb (spanB a b)) := Lib.hid (vb_congr fun i _ => Bool.false_or _)
  rw [HVB.out] at HA
  obtain ⟨F, hF⟩ : ∃ F, spanB a b = F := ⟨_, rfl⟩
  rw [hF] at HA HTX ⊢
  clear hX HVB hF
  go_enter Tryd.func6, Tryd.ntmps6
  simp only [e0]
  clear e0
  go_wp2_with fail
  refine HA.out.mono ?_
  rintro e w1 ⟨rfl, hc1, hk1⟩
  have HB1 : Hid (Below W.heap.size W w1) := Lib.hid (Keep.under ((Below.refl _ _).alloc (Nat.le_refl _) _) hk1 (Nat.le_refl _) (Nat.le_refl _) (by simp))
  clear hk1 hz
  go_wp2_with fail
  refine load_bits _ rfl W.heap.size 0 rfl (pre := []) hc1 rfl ?_
  go_wp2_with fail
  refine (HTX.out _).mono ?_
  rintro e w2 ⟨rfl, hb2⟩
  have HB2 := Lib.hid (ext_trans HB1.out hb2)
  clear hb2 hc1
  go_wp2_with fail
  go_ret
  exact ⟨rfl, HB2.out⟩
set_option maxRecDepth 100000 in
set_option maxHeartbeats 4000000 in
theorem class_One (a : Nat) (W : World) (ha : a < 256) :
    Calls Tryd.prog 8 #[.int .u8 a] W fun e w' => e = .returned (.string (mk (tb (spanB a a)))) ∧ Below W.heap.size W w' := by
  have e0 : (⟨#[]⟩ : ByteArray) = mk [] := rfl
  have HS := Lib.hid (class_Span a a W ha ha)
  go_enter Tryd.func8, Tryd.ntmps8
  simp only [e0]
  clear e0
  go_wp2_with fail
  refine HS.out.mono ?_
  rintro e w2 ⟨rfl, hb2⟩
  have HB2 := Lib.hid hb2
  clear hb2
  go_wp2_with fail
  go_ret
  exact ⟨rfl, HB2.out⟩
set_option maxRecDepth 100000 in
set_option maxHeartbeats 4000000 in
theorem class_Union (s t : Tx) (W : World) (hs : s.length ≤ 9223372036854775807) (ht : t.length ≤ 9223372036854775807) :
    Calls Tryd.prog 12 #[.string (mk s), .string (mk t)] W fun e w' => e = .returned (.string (mk (tb (unionB s t)))) ∧ Below W.heap.size W w' := by
  have e0 : (⟨#[]⟩ : ByteArray) = mk [] := rfl
  have hz := zero37
  have HF := Lib.hid (class_of s W hs)
  have HJ : Hid (∀ (z : Nat) (w : World), w.heap[z]? = some (.cells (pb [] (hasT s)) 37) → Calls Tryd.prog 22 #[.pointer (some ⟨z, 0, none⟩), .string (mk t)] w fun e w' => e = .returned (.tuple #[]) ∧ w'.heap[z]? = some (.cells (pb [] fun i => hasT s i || hasT t i) 37) ∧ Keep z z w w') := Lib.hid (fun (z : Nat) (w : World) (h : w.heap[z]? = some (.cells (pb [] (hasT s)) 37)) => class_join z 0 [] (hasT s) 37 t w h rfl ht)
  have HTX := Lib.hid (fun w => class_text (unionB s t) w)
  have HVB : Hid ((pb [] fun i => hasT s i || hasT t i) = vb (unionB s t)) := Lib.hid rfl
  rw [HVB.out] at HJ
  obtain ⟨F, hF⟩ : ∃ F, unionB s t = F := ⟨_, rfl⟩
  rw [hF] at HJ HTX ⊢
  clear hs ht HVB hF
  go_enter Tryd.func12, Tryd.ntmps12
  simp only [e0]
  clear e0
  go_wp2_with fail
  refine HF.out.mono ?_
  rintro e w1 ⟨rfl, hb1⟩
  have HB1 := Lib.hid hb1
  have hX := heap_alloc_new w1 (.cells (vb fun _ => false) 37)
  clear hb1
  go_wp2_with fail
  obtain ⟨w2, hrun, hb, hk⟩ := store_run (hasT s) hX
  rw [hrun]
  simp only [Result.andThen_ok]
  rw [Oper.upon_skip]
  have H2 : Hid (w2.heap[w1.heap.size]? = some (.cells (pb [] (hasT s)) 37) ∧ Below w1.heap.size w1 w2) := Lib.hid ⟨hb, Keep.under ((Below.refl _ _).alloc (Nat.le_refl _) _) hk (Nat.le_refl _) (Nat.le_refl _) (by simp)⟩
  clear hrun hb hk hX hz
  go_wp2_with fail
  refine (HJ.out _ _ H2.out.1).mono ?_
  rintro e w3 ⟨rfl, hc3, hk3⟩
  have HB3 : Hid (Below W.heap.size W w3) := Lib.hid (ext_trans HB1.out (Keep.under H2.out.2 hk3 (Nat.le_refl _) (Nat.le_refl _) H2.out.2.size))
  clear hk3
  go_wp2_with fail
  refine load_bits _ rfl w1.heap.size 0 rfl (pre := []) hc3 rfl ?_
  go_wp2_with fail
  refine (HTX.out _).mono ?_
  rintro e w4 ⟨rfl, hb4⟩
  have HB4 := Lib.hid (ext_trans HB3.out hb4)
  clear hb4 hc3
  go_wp2_with fail
  go_ret
  exact ⟨rfl, HB4.out⟩
end Go.Proofs.YtmjggjccmbiheabDoor
