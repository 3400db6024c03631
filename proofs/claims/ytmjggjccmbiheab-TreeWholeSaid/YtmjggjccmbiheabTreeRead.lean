/- The tree's readers, step by step. -/
import Derived.Test.YtmjggjccmbiheabBits
namespace Go.Proofs.Ytmjggjccmbiheab
open Go Go.RowKit Go.Proofs Go.Sort
attribute [local go_sem] mk_list mk_size mk_data field0 field1 field2 field3

theorem row_mono' {W : World} {D D' : Nat} {v : Value} {xs : List En} (h : OwnE W D v xs) (hD : D' ≤ D) : OwnE W D' v xs := by
  refine ⟨h.1, ?_⟩
  rcases h.2 with h0 | ⟨g, cap, cur, hv, hb, r⟩
  · exact .inl h0
  · exact .inr ⟨g, cap, cur, hv, Nat.le_trans hD hb, r⟩
/-- A tree in plain words. -/
structure TreeSt where
  M : Int → Option PNode
  last : Int
  cnt : Nat
def pn (o : Option PNode) : PNode := o.getD ⟨0, 0, [], []⟩
def TreeAt (W : World) (t b : Nat) (S : TreeSt) : Prop :=
  ∃ f : Int → Option RawN, W.heap[t]? = some (.cells #[.map (some b), .int .i64 S.last] 54) ∧ MapAt W b S.cnt f ∧ (∀ k, (f k).map (·.p) = S.M k) ∧ ∀ k r, f k = some r → EntsAt W r.A r.p.ents
theorem TreeAt.below {W W' : World} {t b : Nat} {S : TreeSt} (h : TreeAt W t b S) (hb : Below W.heap.size W W') : TreeAt W' t b S := by
  obtain ⟨f, h1, h2, h3, h4⟩ := h
  exact ⟨f, (hb.block t (blk_lt h1)).trans h1, h2.below hb, h3, fun k r hr => (h4 k r hr).below hb⟩
theorem TreeAt.lt {W : World} {t b : Nat} {S : TreeSt} (h : TreeAt W t b S) : t < W.heap.size ∧ b < W.heap.size := by
  obtain ⟨f, h1, h2, _⟩ := h
  exact ⟨blk_lt h1, h2.lt⟩
theorem TreeAt.ne {W : World} {t b : Nat} {S : TreeSt} (h : TreeAt W t b S) : t ≠ b := by
  obtain ⟨f, h1, h2, _⟩ := h
  rintro rfl
  have := blk_cell h1 0
  exact h2.noCell 0 _ this
/-- A node as it is read. -/
theorem TreeAt.node {W : World} {t b : Nat} {S : TreeSt} (h : TreeAt W t b S) {k : Int} (hk : wfI k) : ∃ A c, (∀ W', Below W.heap.size W W' → (Instr.lookup 52 (.map (some b)) (.int .i64 k) false).run Try.prog W' = .ok (.agg #[.int .i64 (pn (S.M k)).kind, .int .i64 (pn (S.M k)).up, .string (mk (pn (S.M k)).data), .slice A (pn (S.M k)).ents.length c]) W') ∧ EntsAt W A (pn (S.M k)).ents := by
  obtain ⟨f, h1, h2, h3, h4⟩ := h
  have hl := fun W' hb => (h2.below (W' := W') hb).look hk
  have h5 := h3 k
  cases hf : f k with
  | none =>
    rw [hf] at hl h5
    rw [← h5]
    exact ⟨none, 0, hl, .inl rfl⟩
  | some r =>
    rw [hf] at hl h5
    rw [← h5]
    exact ⟨r.A, r.c, hl, h4 k r hf⟩
theorem TreeAt.cell {W : World} {t b : Nat} {S : TreeSt} (h : TreeAt W t b S) : W.cell? ⟨t, 0, none⟩ = some (.map (some b)) ∧ W.cell? ⟨t, 1, none⟩ = some (.int .i64 S.last) ∧ t < W.heap.size := by
  obtain ⟨f, h1, _⟩ := h
  have c0 := blk_cell h1 0
  have c1 := blk_cell h1 1
  simp only [List.getElem?_toArray, List.getElem?_cons_zero, List.getElem?_cons_succ] at c0 c1
  exact ⟨c0, c1, blk_lt h1⟩

/-- A node as it is handed back. -/
def NodeTo (p : PNode) (W : World) (e : Ending) (W' : World) : Prop :=
  (∃ A c, e = .returned (.agg #[.int .i64 p.kind, .int .i64 p.up, .string (mk p.data), .slice A p.ents.length c]) ∧ EntsAt W' A p.ents) ∧ Below W.heap.size W W'
set_option maxHeartbeats 1000000 in
theorem tree_at (t b : Nat) (S : TreeSt) (k : Int) (W : World) (h : TreeAt W t b S) (hk : wfI k) :
    Calls Try.prog 27 #[.pointer (some ⟨t, 0, none⟩), .int .i64 k] W (NodeTo (pn (S.M k)) W) := by
  obtain ⟨A, c, hln, he⟩ := h.node hk
  have HE := Lib.hid he
  have hl := hln (W.alloc (.cells #[.int .i64 0, .int .i64 0, .string ⟨#[]⟩, .slice none 0 0] 51)) ((Below.refl _ _).alloc (Nat.le_refl _) _)
  obtain ⟨c0, _, hlt⟩ := h.cell
  obtain ⟨p, hp⟩ : ∃ p, pn (S.M k) = p := ⟨_, rfl⟩
  rw [hp] at HE hl ⊢
  obtain ⟨kd, up, da, es⟩ := p
  simp only at hl HE
  clear he hp hln h
  go_enter Try.func27, Try.ntmps27
  go_wp2_with fail
  have hb : ∀ o, Below W.heap.size W (W.alloc o) := fun o => (Below.refl _ _).alloc (Nat.le_refl _) _
  refine bodyPost_ret (v := .agg #[.int .i64 kd, .int .i64 up, .string (mk da), .slice A es.length c]) ?_ rfl ⟨⟨A, c, rfl, HE.out.below (hb _)⟩, hb _⟩
  rw [results_cell1 rfl]
  go_simp
theorem tree_at_nil (k : Int) (W : World) : Calls Try.prog 27 #[.pointer none, .int .i64 k] W fun e w' => e = .returned (.agg #[.int .i64 0, .int .i64 0, .string (mk []), .slice none 0 0]) ∧ Below W.heap.size W w' := by
  go_enter Try.func27, Try.ntmps27
  go_wp2_with fail
  refine bodyPost_ret (v := .agg #[.int .i64 0, .int .i64 0, .string (mk []), .slice none 0 0]) ?_ rfl ⟨rfl, (Below.refl _ _).alloc (Nat.le_refl _) _⟩
  rw [results_cell1 rfl]
  go_simp
  rfl

section
variable (t b : Nat) (S : TreeSt) (k : Int) (W : World) (h : TreeAt W t b S) (hk : wfI k)
include h hk
theorem tree_Kind : Calls Try.prog 13 #[.pointer (some ⟨t, 0, none⟩), .int .i64 k] W fun e w' => e = .returned (.int .i64 (pn (S.M k)).kind) ∧ Below W.heap.size W w' := by
  have H := Lib.hid (tree_at t b S k W h hk)
  generalize pn (S.M k) = p at *
  obtain ⟨kd, up, da, es⟩ := p
  unfold NodeTo at H
  simp only at H ⊢
  clear h hk
  go_enter Try.func13, Try.ntmps13
  go_wp2_with fail
  refine H.out.mono ?_
  rintro e w1 ⟨⟨A, c, rfl, _⟩, hb⟩
  go_wp2_with fail
  go_ret
  exact ⟨rfl, hb⟩
theorem tree_Data : Calls Try.prog 21 #[.pointer (some ⟨t, 0, none⟩), .int .i64 k] W fun e w' => e = .returned (.string (mk (pn (S.M k)).data)) ∧ Below W.heap.size W w' := by
  have H := Lib.hid (tree_at t b S k W h hk)
  generalize pn (S.M k) = p at *
  obtain ⟨kd, up, da, es⟩ := p
  unfold NodeTo at H
  simp only at H ⊢
  clear h hk
  go_enter Try.func21, Try.ntmps21
  go_wp2_with fail
  refine H.out.mono ?_
  rintro e w1 ⟨⟨A, c, rfl, _⟩, hb⟩
  go_wp2_with fail
  go_ret
  exact ⟨rfl, hb⟩
theorem tree_Up : Calls Try.prog 12 #[.pointer (some ⟨t, 0, none⟩), .int .i64 k] W fun e w' => e = .returned (.int .i64 (pn (S.M k)).up) ∧ Below W.heap.size W w' := by
  have H := Lib.hid (tree_at t b S k W h hk)
  generalize pn (S.M k) = p at *
  obtain ⟨kd, up, da, es⟩ := p
  unfold NodeTo at H
  simp only at H ⊢
  clear h hk
  go_enter Try.func12, Try.ntmps12
  go_wp2_with fail
  refine H.out.mono ?_
  rintro e w1 ⟨⟨A, c, rfl, _⟩, hb⟩
  go_wp2_with fail
  go_ret
  exact ⟨rfl, hb⟩
theorem tree_List (hl : (pn (S.M k)).ents.length ≤ 1000000000000) : Calls Try.prog 11 #[.pointer (some ⟨t, 0, none⟩), .int .i64 k] W fun e w' => (∃ v, e = .returned v ∧ OwnE w' W.heap.size v (pn (S.M k)).ents) ∧ Below W.heap.size W w' := by
  have H := Lib.hid (tree_at t b S k W h hk)
  generalize pn (S.M k) = p at *
  obtain ⟨kd, up, da, es⟩ := p
  unfold NodeTo at H
  simp only at H ⊢
  clear h hk
  go_enter Try.func11, Try.ntmps11
  go_wp2_with fail
  refine H.out.mono ?_
  rintro e w1 ⟨⟨A, c, rfl, he⟩, hb⟩
  have HB := Lib.hid hb
  have HC := Lib.hid (ents_Clone A c _ w1 he hl)
  clear he hb
  go_wp2_with fail
  refine HC.out.mono ?_
  rintro e w2 ⟨v, rfl, ho, hb2⟩
  have HO := Lib.hid (And.intro ho hb2)
  clear ho hb2
  go_wp2_with fail
  go_ret
  exact ⟨⟨v, rfl, row_mono' HO.out.1 HB.out.size⟩, ext_trans HB.out HO.out.2⟩
theorem tree_dir : Calls Try.prog 28 #[.pointer (some ⟨t, 0, none⟩), .int .i64 k] W fun e w' => e = .returned (.int .i64 (if (pn (S.M k)).kind = 0 then 5 else if (pn (S.M k)).kind = 1 then 0 else 7)) ∧ Below W.heap.size W w' := by
  have H := Lib.hid (fun W' (hb : Below W.heap.size W W') => tree_Kind t b S k W' (h.below hb) hk)
  generalize (pn (S.M k)).kind = q at H
  clear h hk
  by_cases h0 : q = 0
  · subst h0
    go_enter Try.func28, Try.ntmps28
    go_wp2_with fail
    refine (H.out W (Below.refl _ _)).mono ?_
    rintro e w1 ⟨rfl, hb⟩
    have HB := Lib.hid hb
    clear hb
    go_wp2_with fail
    go_ret
    exact ⟨rfl, HB.out⟩
  · have h0' : (q == 0) = false := by simpa using h0
    have HQ := Lib.hid h0
    clear h0
    by_cases h1 : q = 1
    · subst h1
      clear h0'
      go_enter Try.func28, Try.ntmps28
      go_wp2_with fail
      refine (H.out W (Below.refl _ _)).mono ?_
      rintro e w1 ⟨rfl, hb⟩
      have HB := Lib.hid hb
      clear hb
      go_wp2_with fail
      refine (H.out w1 HB.out).mono ?_
      rintro e w2 ⟨rfl, hb2⟩
      have HB2 := Lib.hid (ext_trans HB.out hb2)
      clear hb2
      go_wp2_with fail
      go_ret
      exact ⟨rfl, HB2.out⟩
    · have h1' : (q != 1) = true := by simpa using h1
      have HQ1 := Lib.hid h1
      clear h1
      go_enter Try.func28, Try.ntmps28
      go_wp2_with fail
      refine (H.out W (Below.refl _ _)).mono ?_
      rintro e w1 ⟨rfl, hb⟩
      have HB := Lib.hid hb
      clear hb
      go_wp2_with fail
      refine (H.out w1 HB.out).mono ?_
      rintro e w2 ⟨rfl, hb2⟩
      have HB2 := Lib.hid (ext_trans HB.out hb2)
      clear hb2
      go_wp2_with fail
      go_ret
      exact ⟨rfl, HB2.out⟩
end
theorem tree_Len (t b : Nat) (S : TreeSt) (W : World) (h : TreeAt W t b S) : Calls Try.prog 14 #[.pointer (some ⟨t, 0, none⟩)] W fun e w' => e = .returned (.int .i64 S.cnt) ∧ W = w' := by
  obtain ⟨c0, _, hlt⟩ := h.cell
  obtain ⟨f, _, hm, _⟩ := h
  have hl := hm.len 3
  clear hm
  go_enter Try.func14, Try.ntmps14
  go_wp2_with fail
  go_ret
  exact ⟨rfl, rfl⟩
theorem tree_Len_nil (W : World) : Calls Try.prog 14 #[.pointer none] W fun e w' => e = .returned (.int .i64 0) ∧ W = w' := by
  go_enter Try.func14, Try.ntmps14
  go_wp2_with fail
  go_ret
  exact ⟨rfl, rfl⟩
theorem tree_dir_nil (k : Int) (W : World) : Calls Try.prog 28 #[.pointer none, .int .i64 k] W fun e w' => e = .returned (.int .i64 1) ∧ W = w' := by
  go_enter Try.func28, Try.ntmps28
  go_wp2_with fail
  go_ret
  exact ⟨rfl, rfl⟩
end Go.Proofs.Ytmjggjccmbiheab
