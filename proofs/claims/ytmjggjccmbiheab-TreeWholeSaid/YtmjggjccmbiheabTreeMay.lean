/- What is wrong with a kind and bytes: the tree's word and the reference's, step by step; has; a new tree. -/
import Derived.Test.YtmjggjccmbiheabTreeTurn
namespace Go.Proofs.Ytmjggjccmbiheab
open Go Go.RowKit Go.Proofs Go.Sort
attribute [local go_sem] mk_list mk_size mk_data field0 field1 field2 field3

def mayE (kind : Int) (data : Tx) : Int :=
  if kind < 1 ∨ 3 < kind then 2 else if (kind = 1 ∧ data ≠ []) ∨ (kind = 3 ∧ data = []) then 3 else if 65536 < data.length then 4 else 0
theorem may_cases (kind : Int) (data : Tx) (P : Int → Prop) (h1 : kind < 1 → P 2) (h2 : ¬ kind < 1 → 3 < kind → P 2) (h3 : kind = 1 → (data == []) = false → P 3) (h4 : kind = 3 → (data == []) = true → P 3)
    (h5 : kind = 1 → (data == []) = true → P 0) (h6 : kind = 2 → 65536 < data.length → P 4) (h7 : kind = 2 → ¬ 65536 < data.length → P 0) (h8 : kind = 3 → (data == []) = false → 65536 < data.length → P 4) (h9 : kind = 3 → (data == []) = false → ¬ 65536 < data.length → P 0) : P (mayE kind data) := by
  unfold mayE
  by_cases a : kind < 1
  · rw [if_pos (.inl a)]; exact h1 a
  · by_cases b : 3 < kind
    · rw [if_pos (.inr b)]; exact h2 a b
    · rw [if_neg (by omega)]
      cases hd : (data == [])
      · have hd' : data ≠ [] := by simpa using hd
        by_cases k1 : kind = 1
        · rw [if_pos (.inl ⟨k1, hd'⟩)]; exact h3 k1 hd
        · rw [if_neg (by rintro (⟨k, _⟩ | ⟨_, k⟩); exact k1 k; exact hd' k)]
          by_cases hl : 65536 < data.length
          · rw [if_pos hl]
            by_cases k2 : kind = 2
            · exact h6 k2 hl
            · exact h8 (by omega) hd hl
          · rw [if_neg hl]
            by_cases k2 : kind = 2
            · exact h7 k2 hl
            · exact h9 (by omega) hd hl
      · have hd' : data = [] := by simpa using hd
        have hl : ¬ 65536 < data.length := by rw [hd']; simp
        by_cases k3 : kind = 3
        · rw [if_pos (.inr ⟨k3, hd'⟩)]; exact h4 k3 hd
        · rw [if_neg (by rintro (⟨_, k⟩ | ⟨k, _⟩); exact k hd'; exact k3 k), if_neg hl]
          by_cases k1 : kind = 1
          · exact h5 k1 hd
          · exact h7 (by omega) hl
set_option maxHeartbeats 1000000 in
theorem tree_may (kind : Int) (data : Tx) (w : World) (hl : data.length ≤ 140737488351300) : Calls Try.prog 31 #[.int .i64 kind, .string (mk data)] w fun e w' => e = .returned (.int .i64 (mayE kind data)) ∧ w = w' := by
  have e0 : (⟨#[]⟩ : ByteArray) = mk [] := rfl
  refine may_cases kind data (fun q => Calls Try.prog 31 #[.int .i64 kind, .string (mk data)] w fun e w' => e = .returned (.int .i64 q) ∧ w = w') ?_ ?_ ?_ ?_ ?_ ?_ ?_ ?_ ?_
  all_goals intros
  all_goals try subst kind
  all_goals cases hd : (data == [])
  all_goals try (exfalso; simp_all; done)
  all_goals try (have hd2 := eq_of_beq hd; subst hd2)
  all_goals go_enter Try.func31, Try.ntmps31
  all_goals simp only [e0]
  all_goals go_wp2_with fail
  all_goals go_ret
  all_goals exact ⟨rfl, rfl⟩
set_option maxHeartbeats 1000000 in
theorem ref_may (kind : Int) (data : Tx) (w : World) (hl : data.length ≤ 140737488351300) : Calls Try.prog 44 #[.int .i64 kind, .string (mk data)] w fun e w' => e = .returned (.int .i64 (mayE kind data)) ∧ w = w' := by
  have e0 : (⟨#[]⟩ : ByteArray) = mk [] := rfl
  refine may_cases kind data (fun q => Calls Try.prog 44 #[.int .i64 kind, .string (mk data)] w fun e w' => e = .returned (.int .i64 q) ∧ w = w') ?_ ?_ ?_ ?_ ?_ ?_ ?_ ?_ ?_
  all_goals intros
  all_goals try subst kind
  all_goals cases hd : (data == [])
  all_goals try (exfalso; simp_all; done)
  all_goals try (have hd2 := eq_of_beq hd; subst hd2)
  all_goals go_enter Try.func44, Try.ntmps44
  all_goals simp only [e0]
  all_goals go_wp2_with fail
  all_goals go_ret
  all_goals exact ⟨rfl, rfl⟩

def findN (S : TreeSt) (d : Int) (s : Tx) : Int × Bool := findE (allE (pn (S.M d)).ents) s
theorem tree_has (t b : Nat) (S : TreeSt) (d : Int) (s : Tx) (W : World) (h : TreeAt W t b S) (hk : wfI d) (hl : (pn (S.M d)).ents.length ≤ 1000000000000) :
    Calls Try.prog 30 #[.pointer (some ⟨t, 0, none⟩), .int .i64 d, .string (mk s)] W fun e w' => e = .returned (.bool (findN S d s).2) ∧ Below W.heap.size W w' := by
  obtain ⟨A, c, hln, he⟩ := h.node hk
  obtain ⟨t0, _, hlt⟩ := h.cell
  have hln := hln W (Below.refl _ _)
  have HF := Lib.hid (ents_Find A c _ s W he hl)
  unfold findN
  generalize pn (S.M d) = p at *
  obtain ⟨kd, up, da, es⟩ := p
  simp only at hln HF ⊢
  clear h hk he hl
  go_enter Try.func30, Try.ntmps30
  go_wp2_with fail
  refine HF.out.mono ?_
  rintro e w1 ⟨rfl, hb⟩
  go_wp2_with fail
  go_ret
  exact ⟨rfl, hb⟩

def newS : TreeSt := ⟨upd (fun _ => none) 1 (some ⟨1, 1, [], []⟩), 1, 1⟩
set_option maxHeartbeats 1000000 in
set_option maxRecDepth 100000 in
theorem tree_New (W : World) : Calls Try.prog 8 #[] W fun e w' => (∃ t b, e = .returned (.pointer (some ⟨t, 0, none⟩)) ∧ TreeAt w' t b newS ∧ W.heap.size ≤ t ∧ W.heap.size ≤ b) ∧ Below W.heap.size W w' := by
  obtain ⟨w', hrun, hm, hg⟩ := (MapAt.made W).insert (k := 1) (by decide) (by decide) rfl ⟨⟨1, 1, [], []⟩, none, 0⟩
  have HB : Hid (Below W.heap.size W w') := Lib.hid (((Below.refl W.heap.size W).alloc (Nat.le_refl _) _).grown hg (by simp) (by intro k hk; have := Option.some.inj hk; omega))
  have HM := Lib.hid hm
  have hmm := @run_makeMap Try.prog
  have e0 : (⟨#[]⟩ : ByteArray) = mk [] := rfl
  unfold rawV at hrun
  simp only [List.length_nil] at hrun
  clear hm hg
  go_enter Try.func8, Try.ntmps8
  go_wp2_with fail
  go_ret
  have hal : Below w'.heap.size w' (w'.alloc (.cells #[.map (some W.heap.size), .int .i64 1] 54)) := (Below.refl _ _).alloc (Nat.le_refl _) _
  refine ⟨⟨_, W.heap.size, rfl, ⟨_, heap_alloc_new _ _, HM.out.below hal, map_upd _ _ (fun _ => rfl) 1 _, ?_⟩, HB.out.size, Nat.le_refl _⟩, HB.out.alloc HB.out.size _⟩
  intro k r hr
  by_cases e : k = 1
  · subst e
    rw [upd_same] at hr
    cases hr
    exact .inl rfl
  · rw [upd_other _ _ e] at hr
    cases hr
end Go.Proofs.Ytmjggjccmbiheab
