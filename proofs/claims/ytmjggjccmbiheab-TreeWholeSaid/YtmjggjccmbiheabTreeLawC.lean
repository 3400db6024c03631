/- The plain law of the tree: Put. -/
import Derived.Test.YtmjggjccmbiheabTreeLawB
namespace Go.Proofs.Ytmjggjccmbiheab
open Go Go.RowKit Go.Proofs Go.Sort

theorem list_more (L : List NodeT) (y : NodeT) (k : Int) : listR (L ++ [y]) k = if listP k y = true then putP (listR L k) (y.name, y.num) else listR L k := by
  unfold listR
  rw [List.filter_append, List.foldl_append, List.filter_cons, List.filter_nil]
  split <;> rfl
theorem node_none {L : List NodeT} {k : Int} (h : ∀ x ∈ L, x.num ≠ k) : L.find? (fun x => x.num == k) = none := List.find?_eq_none.2 fun x hx => by simpa using h x hx
theorem list_none {L : List NodeT} {k : Int} (h : ∀ x ∈ L, x.up ≠ k) : listR L k = [] := by
  unfold listR
  rw [List.filter_eq_nil_iff.2 fun x hx => by unfold listP; simp [h x hx]]
  rfl
theorem ups_le {L : List NodeT} {last : Int} (h : WF L last) {x : NodeT} (hx : x ∈ L) : 1 ≤ x.up ∧ x.up ≤ last := by
  obtain ⟨y, hy, e, _⟩ := h.ups x hx
  rw [← e]
  exact h.nums y hy
theorem rel_put {L : List NodeT} {last : Int} (h : WF L last) {d : Int} (hd : (atR L d).kind = 1) (s : Tx) (kind : Int) (data : Tx) :
    enterS (newN (relS L last) d kind data) d (putP (pn ((newN (relS L last) d kind data).M d)).ents (s, last + 1)) = relS (L ++ [newR last d s kind data]) (last + 1) := by
  obtain ⟨x, hx, hxn, ha, hf⟩ := at_kind (L := L) (k := d) (by rw [hd]; decide)
  have hb := h.nums x hx
  rw [hxn] at hb
  have hne : d ≠ last + 1 := by omega
  have hnone : L.find? (fun x => x.num == last + 1) = none := node_none fun z hz e => by have := h.nums z hz; omega
  have hMd : (newN (relS L last) d kind data).M d = nodeOf L d := by
    unfold newN setM lastS relS
    exact upd_other _ _ hne
  have hMn : (relS L last).M (last + 1) = none := by
    show nodeOf L (last + 1) = none
    unfold nodeOf; rw [hnone]; rfl
  have hnd : nodeOf L d = some ⟨x.kind, x.up, x.data, listR L d⟩ := by unfold nodeOf; rw [hf]; rfl
  rw [hMd]
  unfold enterS
  rw [hMd, hnd]
  have hsome : ((newN (relS L last) d kind data).M d).isSome = true := by rw [hMd, hnd]; rfl
  unfold setM
  rw [if_pos hsome]
  unfold relS
  congr 1
  · funext k
    by_cases e : k = d
    · subst e
      rw [upd_same]
      unfold nodeOf
      rw [List.find?_append, hf, list_more, if_pos (by unfold listP newR; simp; omega)]
      simp [pn, newR]
    · rw [upd_other _ _ e]
      unfold newN setM lastS
      simp only
      by_cases e2 : k = last + 1
      · subst e2
        rw [upd_same]
        unfold nodeOf
        rw [List.find?_append, hnone, list_more, if_neg (by unfold listP newR; simp; intro e3; exact absurd e3 hne), list_none fun z hz e3 => by have := ups_le h hz; omega]
        simp [newR]
      · rw [upd_other _ _ e2]
        show nodeOf L k = _
        unfold nodeOf
        rw [List.find?_append, list_more, if_neg (by unfold listP newR; simp; intro e3; exact absurd e3.symm e)]
        have : ([newR last d s kind data].find? fun x => x.num == k) = none := node_none fun z hz => by rw [List.mem_singleton] at hz; subst hz; exact fun e3 => e2 e3.symm
        rw [this]
        simp
  · unfold newN setM lastS
    simp only
    rw [show nodeOf L (last + 1) = none from hMn]
    simp
theorem wf_put {L : List NodeT} {last : Int} (h : WF L last) {d : Int} (hd : (atR L d).kind = 1) {s : Tx} {kind : Int} (data : Tx) (hi : inR L d s = 0) (hk : 1 ≤ kind ∧ kind ≤ 3) : WF (L ++ [newR last d s kind data]) (last + 1) := by
  obtain ⟨x, hx, hxn, ha, hf⟩ := at_kind (L := L) (k := d) (by rw [hd]; decide)
  have hb := h.nums x hx
  rw [hxn] at hb
  have hno : ∀ z ∈ L, z.up = d → z.num ≠ 1 → z.name ≠ s := by
    intro z hz e1 e2 e3
    unfold inR at hi
    cases hg : L.find? (inP d s) with
    | none => exact absurd (List.find?_eq_none.1 hg z hz) (by unfold inP; simp [e1, e2, e3])
    | some q =>
      rw [hg] at hi
      have := h.nums q (List.mem_of_find?_eq_some hg)
      simp only at hi
      omega
  refine ⟨?_, ?_, ?_, ?_, ?_, ?_, ?_⟩
  · rw [List.map_append, List.nodup_append]
    refine ⟨h.nodup, by simp, ?_⟩
    intro a ha1 b hb1
    obtain ⟨z, hz, rfl⟩ := List.mem_map.1 ha1
    rw [List.map_cons, List.map_nil, List.mem_singleton] at hb1
    subst hb1
    have := h.nums z hz
    show z.num ≠ last + 1
    omega
  · intro z hz
    rcases List.mem_append.1 hz with hz | hz
    · have := h.nums z hz; omega
    · rw [List.mem_singleton] at hz; subst hz; show 1 ≤ last + 1 ∧ last + 1 ≤ last + 1; omega
  · obtain ⟨l, hl⟩ := h.root
    exact ⟨l ++ [newR last d s kind data], by rw [hl]; rfl⟩
  · intro z hz
    rcases List.mem_append.1 hz with hz | hz
    · obtain ⟨y, hy, e⟩ := h.ups z hz
      exact ⟨y, List.mem_append_left _ hy, e⟩
    · rw [List.mem_singleton] at hz; subst hz
      exact ⟨x, List.mem_append_left _ hx, hxn, by rw [← ha]; exact hd⟩
  · intro k
    rw [List.filter_append, List.map_append, List.nodup_append]
    refine ⟨h.names k, ?_, ?_⟩
    · rw [List.filter_cons]
      split <;> simp
    · intro a ha1 b hb1
      obtain ⟨z, hz, rfl⟩ := List.mem_map.1 ha1
      obtain ⟨y, hy, rfl⟩ := List.mem_map.1 hb1
      obtain ⟨hy1, hy2⟩ := List.mem_filter.1 hy
      obtain ⟨hz1, hz2⟩ := List.mem_filter.1 hz
      rw [List.mem_singleton] at hy1
      subst hy1
      unfold listP at hy2 hz2
      simp only [Bool.and_eq_true, beq_iff_eq, bne_iff_ne] at hy2 hz2
      exact hno z hz1 (hz2.1.trans hy2.1.symm) hz2.2
  · intro z hz
    rcases List.mem_append.1 hz with hz | hz
    · exact h.kinds z hz
    · rw [List.mem_singleton] at hz; subst hz; exact hk
  · obtain ⟨rk, hr⟩ := h.rank
    refine ⟨fun k => if k = last + 1 then rk d + 1 else rk k, fun z hz hz1 => ?_⟩
    rcases List.mem_append.1 hz with hz | hz
    · have h1 := h.nums z hz
      have h2 := ups_le h hz
      simp only
      rw [if_neg (by omega), if_neg (by omega)]
      exact hr z hz hz1
    · rw [List.mem_singleton] at hz; subst hz
      show (if d = last + 1 then rk d + 1 else rk d) < (if last + 1 = last + 1 then rk d + 1 else rk (last + 1))
      rw [if_neg (by omega), if_pos rfl]
      omega
theorem may_kind {kind : Int} {data : Tx} (h : mayE kind data = 0) : 1 ≤ kind ∧ kind ≤ 3 := by
  unfold mayE at h
  split at h
  · cases h
  · omega
theorem dir_kind {L : List NodeT} {d : Int} (h : dirR L d = 0) : (atR L d).kind = 1 := by
  unfold dirR at h
  split at h
  · cases h
  · split at h
    · assumption
    · cases h
theorem put_rel {L : List NodeT} {last : Int} (h : WF L last) (d : Int) (s : Tx) (kind : Int) (data : Tx) :
    putS (relS L last) d s kind data = (relS (putR L last d s kind data).L (putR L last d s kind data).last, (putR L last d s kind data).n, (putR L last d s kind data).e) ∧ WF (putR L last d s kind data).L (putR L last d s kind data).last := by
  unfold putS putR
  rw [dir_rel h]
  by_cases hd : dirR L d ≠ 0
  · rw [if_pos hd, if_pos hd]; exact ⟨rfl, h⟩
  · rw [if_neg hd, if_neg hd]
    have hk := dir_kind (L := L) (d := d) (by simpa using hd)
    by_cases hc : checkI s ≠ 0
    · rw [if_pos hc, if_pos hc]; exact ⟨rfl, h⟩
    · rw [if_neg hc, if_neg hc, find_rel h hk]
      have hi0 : 0 ≤ inR L d s := by
        unfold inR
        cases hg : L.find? (inP d s) with
        | none => simp
        | some q => have := h.nums q (List.mem_of_find?_eq_some hg); simp only; omega
      by_cases hi : 0 < inR L d s
      · rw [if_pos (by simp; omega), if_pos hi]; exact ⟨rfl, h⟩
      · rw [if_neg (by simp; omega), if_neg hi]
        by_cases hm : mayE kind data ≠ 0
        · rw [if_pos hm, if_pos hm]; exact ⟨rfl, h⟩
        · rw [if_neg hm, if_neg hm]
          have hcnt : (relS L last).cnt = L.length := rfl
          rw [hcnt]
          by_cases h4 : 4096 ≤ L.length
          · rw [if_pos h4, if_pos h4]; exact ⟨rfl, h⟩
          · rw [if_neg h4, if_neg h4]
            refine ⟨?_, wf_put h hk data (by omega) (may_kind (by simpa using hm))⟩
            exact congrArg (fun S => (S, last + 1, (0 : Int))) (rel_put h hk s kind data)
end Go.Proofs.Ytmjggjccmbiheab
