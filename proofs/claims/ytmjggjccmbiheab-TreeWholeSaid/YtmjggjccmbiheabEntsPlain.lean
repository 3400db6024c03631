/- Entries in plain words: what the program's Put, Cut and Merge come to is what the reference's come to; what comes of them may be. -/
import Derived.Test.YtmjggjccmbiheabEntsRefMerge
namespace Go.Proofs.Ytmjggjccmbiheab
open Go.RowKit Go.Proofs Go.Sort

theorem at_lt {xs : List En} {s : Tx} (hr : rise xs = true) {k : Nat} (h : k < xs.length) (hk : atI xs s + (if atB xs s then 1 else 0) ≤ k) : s < xs[k].1 := by
  have h1 : ¬ xs[k].1 < s := fun hl => by
    have := (at_iff hr h).1 hl
    omega
  have h2 : (xs[k].1 == s) = false := by
    refine ne_of_at hr h ?_
    cases hb : atB xs s
    · exact .inr rfl
    · rw [hb] at hk; simp at hk; exact .inl (by omega)
  exact tx_lt_of (List.not_lt.1 h1) (fun e => by rw [e] at h2; simp at h2)

theorem filter_split {p : En → Bool} {l : List En} {k : Nat} (h1 : ∀ (j : Nat) (h : j < l.length), j < k → p l[j] = true) (h2 : ∀ (j : Nat) (h : j < l.length), k ≤ j → p l[j] = false) : l.filter p = l.take k := by
  conv => lhs; rw [← List.take_append_drop k l]
  rw [List.filter_append, List.filter_eq_self.2, List.filter_eq_nil_iff.2, List.append_nil]
  · intro e he
    obtain ⟨j, hj, rfl⟩ := List.getElem_of_mem he
    rw [List.getElem_drop]
    rw [h2 _ (by simp at hj; omega) (by omega)]
    simp
  · intro e he
    obtain ⟨j, hj, rfl⟩ := List.getElem_of_mem he
    rw [List.getElem_take]
    simp at hj
    exact h1 _ (by omega) (by omega)
theorem filter_split' {p : En → Bool} {l : List En} {k : Nat} (h1 : ∀ (j : Nat) (h : j < l.length), j < k → p l[j] = false) (h2 : ∀ (j : Nat) (h : j < l.length), k ≤ j → p l[j] = true) : l.filter p = l.drop k := by
  conv => lhs; rw [← List.take_append_drop k l]
  rw [List.filter_append, List.filter_eq_nil_iff.2, List.filter_eq_self.2, List.nil_append]
  · intro e he
    obtain ⟨j, hj, rfl⟩ := List.getElem_of_mem he
    rw [List.getElem_drop]
    exact h2 _ (by simp at hj; omega) (by omega)
  · intro e he
    obtain ⟨j, hj, rfl⟩ := List.getElem_of_mem he
    rw [List.getElem_take]
    simp at hj
    rw [h1 _ (by omega) (by omega)]
    simp

/-- Without one: the reference's all others. -/
theorem cutE_eq {xs : List En} {s : Tx} (hr : rise xs = true) : cutE xs s = xs.filter fun e => !(e.1 == s) := by
  unfold cutE
  cases hb : atB xs s
  · rw [if_neg (by simp)]
    symm
    rw [List.filter_eq_self]
    intro e he
    obtain ⟨j, hj, rfl⟩ := List.getElem_of_mem he
    rw [ne_of_at hr hj (.inr hb)]
    rfl
  · obtain ⟨hlt, _⟩ := findE_in hr hb
    rw [if_pos rfl]
    have hx : xs = xs.take (atI xs s) ++ (xs[atI xs s] :: xs.drop (atI xs s + 1)) := by
      rw [← List.drop_eq_getElem_cons hlt, List.take_append_drop]
    conv => rhs; rw [hx]
    rw [List.filter_append, List.filter_cons, at_in hlt, hb]
    simp only [Bool.not_true, Bool.false_eq_true, if_false]
    congr 1
    · symm
      rw [List.filter_eq_self]
      intro e he
      obtain ⟨j, hj, rfl⟩ := List.getElem_of_mem he
      rw [List.getElem_take, ne_of_at hr _ (.inl (by simp at hj; omega))]
      rfl
    · symm
      rw [List.filter_eq_self]
      intro e he
      obtain ⟨j, hj, rfl⟩ := List.getElem_of_mem he
      rw [List.getElem_drop, ne_of_at hr _ (.inl (by omega))]
      rfl

theorem ltB_iff (s : Tx) (e : En) : ltB s e = decide (e.1 < s) := bytesLess_eq _ _
theorem gtB_iff (s : Tx) (e : En) : gtB s e = decide (s < e.1) := by
  unfold gtB
  rcases gt_ways e.1 s with ⟨h, h2⟩ | ⟨h, h3, h2⟩ | ⟨h, h3, h2⟩
  · rw [h, decide_eq_false h2]; rfl
  · rw [h, h3, decide_eq_false h2]; rfl
  · rw [h, h3, decide_eq_true h2]; rfl

theorem filter_lt {xs : List En} {s : Tx} (hr : rise xs = true) : (xs.filter fun e => !(e.1 == s)).filter (ltB s) = xs.take (atI xs s) := by
  rw [List.filter_filter]
  refine filter_split (fun j h hj => ?_) (fun j h hj => ?_)
  · have hl := (at_iff (s := s) hr h).2 hj
    rw [ltB_iff, decide_eq_true hl, ne_of_at hr h (.inl (by omega))]
    rfl
  · have hl : ¬ xs[j].1 < s := fun hl => by have := (at_iff (s := s) hr h).1 hl; omega
    rw [ltB_iff, decide_eq_false hl]
    rfl
theorem filter_gt {xs : List En} {s : Tx} (hr : rise xs = true) : (xs.filter fun e => !(e.1 == s)).filter (gtB s) = xs.drop (atI xs s + if atB xs s then 1 else 0) := by
  rw [List.filter_filter]
  refine filter_split' (fun j h hj => ?_) (fun j h hj => ?_)
  · rw [gtB_iff]
    by_cases h1 : j < atI xs s
    · have hl := (at_iff (s := s) hr h).2 h1
      rw [decide_eq_false (fun h2 => List.lt_irrefl _ (List.lt_trans hl h2))]
      rfl
    · cases hb : atB xs s
      · rw [hb] at hj; simp at hj; omega
      · rw [hb] at hj
        simp at hj
        obtain rfl : j = atI xs s := by omega
        rw [at_in h, hb]
        simp
  · have hl := at_lt hr h hj
    rw [gtB_iff, decide_eq_true hl]
    have : (xs[j].1 == s) = false := by
      rw [beq_eq_false_iff_ne]
      intro e
      rw [e] at hl
      exact List.lt_irrefl _ hl
    rw [this]
    rfl

theorem rputP_eq (xs : List En) (e : En) : rputP xs e = putP xs e := by
  have hr := rise_allE xs
  unfold rputP putP putE
  simp only []
  rw [filter_lt hr, filter_gt hr]
  cases hb : atB (allE xs) e.1
  · rw [if_neg (by simp), if_neg (by simp)]
    rfl
  · obtain ⟨hlt, _⟩ := findE_in hr hb
    rw [if_pos rfl, if_pos rfl, List.set_eq_take_append_cons_drop, if_pos hlt]
    simp
theorem rmergeP_eq (a b : List En) : rmergeP a b = mergeP a b := by
  unfold rmergeP mergeP
  rw [show rputP = putP from funext fun xs => funext fun e => rputP_eq xs e]

/-! ### What comes of them may be -/
theorem rise_of_pairwise {l : List En} (h : l.Pairwise fun x y => x.1 < y.1) : rise l = true := by
  rw [rise_iff]
  intro j hj
  exact List.pairwise_iff_getElem.1 h j (j + 1) (by omega) hj (by omega)
theorem pairwise_of_rise {l : List En} (h : rise l = true) : l.Pairwise fun x y => x.1 < y.1 := List.pairwise_map.1 (rise_pairwise h)
theorem allE_of {l : List En} (h : rise l = true) : allE l = l := by unfold allE; rw [if_pos h]
theorem rise_cutP (xs : List En) (s : Tx) : rise (cutP xs s) = true := by
  unfold cutP
  rw [cutE_eq (rise_allE xs)]
  exact rise_of_pairwise ((pairwise_of_rise (rise_allE xs)).sublist List.filter_sublist)
theorem rise_putP (xs : List En) (e : En) : rise (putP xs e) = true := by
  rw [← rputP_eq]
  unfold rputP
  simp only []
  apply rise_of_pairwise
  have hp := pairwise_of_rise (rise_allE xs)
  have hf := hp.sublist (List.filter_sublist (p := fun x => !(x.1 == e.1)))
  rw [List.pairwise_append, List.pairwise_append]
  refine ⟨⟨hf.sublist List.filter_sublist, List.pairwise_singleton _ _, ?_⟩, hf.sublist List.filter_sublist, ?_⟩
  · intro x hx y hy
    rw [List.mem_singleton] at hy
    subst hy
    have := (List.mem_filter.1 hx).2
    rw [ltB_iff] at this
    exact of_decide_eq_true this
  · intro x hx y hy
    have h1 := (List.mem_filter.1 hy).2
    rw [gtB_iff] at h1
    have h1 := of_decide_eq_true h1
    rcases List.mem_append.1 hx with hx | hx
    · have h2 := (List.mem_filter.1 hx).2
      rw [ltB_iff] at h2
      exact List.lt_trans (of_decide_eq_true h2) h1
    · rw [List.mem_singleton] at hx
      subst hx
      exact h1
theorem find_putP (xs : List En) (e : En) : findE (putP xs e) e.1 = (e.2, true) := by
  rw [← rputP_eq]
  unfold rputP findE
  simp only []
  have h : ∀ l : List En, (l.filter (ltB e.1)).find? (fun x => x.1 == e.1) = none := by
    intro l
    rw [List.find?_eq_none]
    intro x hx
    have h2 := (List.mem_filter.1 hx).2
    rw [ltB_iff] at h2
    have h2 := of_decide_eq_true h2
    rw [beq_iff_eq]
    intro he
    rw [he] at h2
    exact List.lt_irrefl _ h2
  rw [List.find?_append, List.find?_append, h]
  simp
theorem find_cutP (xs : List En) (s : Tx) : findE (cutP xs s) s = (0, false) := by
  unfold cutP
  rw [cutE_eq (rise_allE xs)]
  refine findE_none fun j h => ?_
  have := (List.mem_filter.1 (List.getElem_mem h)).2
  simpa using this
theorem mergeP_le (a b : List En) : (mergeP a b).length ≤ a.length + b.length := by
  have h1 := fold_le (allE a) (allE b)
  have h2 := allE_le a
  have h3 := allE_le b
  unfold mergeP
  omega
theorem cutP_le (xs : List En) (s : Tx) : (cutP xs s).length ≤ xs.length := by
  unfold cutP
  rw [cutE_eq (rise_allE xs)]
  exact Nat.le_trans (List.length_filter_le _ _) (allE_le xs)
end Go.Proofs.Ytmjggjccmbiheab
