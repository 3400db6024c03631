/- The plain law of the tree: Set. -/
import Derived.Test.YtmjggjccmbiheabTreeLawA
namespace Go.Proofs.Ytmjggjccmbiheab
open Go Go.RowKit Go.Proofs Go.Sort

theorem with_num (y x : NodeT) : (withF y x).num = x.num := by
  unfold withF
  split
  · rename_i h; exact (eq_of_beq h).symm
  · rfl
theorem find_with (y : NodeT) (k : Int) : ∀ L : List NodeT, (withR L y).find? (fun x => x.num == k) = (L.find? fun x => x.num == k).map (withF y)
  | [] => rfl
  | x :: L => by
    have ih := find_with y k L
    unfold withR at ih ⊢
    rw [List.map_cons, List.find?_cons, List.find?_cons, with_num]
    cases hq : (x.num == k)
    · exact ih
    · rfl
theorem at_kind {L : List NodeT} {k : Int} (h : (atR L k).kind ≠ 0) : ∃ x ∈ L, x.num = k ∧ atR L k = x ∧ L.find? (fun y => y.num == k) = some x := by
  unfold atR at h ⊢
  cases hf : L.find? (fun y => y.num == k) with
  | none => rw [hf] at h; exact absurd rfl h
  | some x =>
    have h1 := List.find?_some hf
    simp only [beq_iff_eq] at h1
    exact ⟨x, List.mem_of_find?_eq_some hf, h1, rfl, rfl⟩
theorem rel_with {L : List NodeT} {last : Int} (h : WF L last) {x : NodeT} (hx : x ∈ L) (data : Tx) :
    relS (withR L ⟨x.num, x.up, x.name, x.kind, data⟩) last = setM (relS L last) x.num { pn ((relS L last).M x.num) with data := data } := by
  have hf := find_num h.nodup hx rfl
  have hM : ∀ k, nodeOf (withR L ⟨x.num, x.up, x.name, x.kind, data⟩) k = upd (nodeOf L) x.num (some { pn (nodeOf L x.num) with data := data }) k := by
    intro k
    have hl := list_with (L := L) ⟨x.num, x.up, x.name, x.kind, data⟩ k (fun z hz e => by rw [num_inj h.nodup hz hx e]; exact ⟨rfl, rfl⟩)
    by_cases e : k = x.num
    · subst e
      rw [upd_same]
      unfold nodeOf
      rw [find_with, hf, hl]
      simp [withF, pn]
    · rw [upd_other _ _ e]
      unfold nodeOf
      rw [find_with, hl]
      cases hg : L.find? (fun z => z.num == k) with
      | none => rfl
      | some z =>
        have h1 := List.find?_some hg
        simp only [beq_iff_eq] at h1
        have : withF ⟨x.num, x.up, x.name, x.kind, data⟩ z = z := by
          unfold withF
          rw [if_neg (by simpa [h1] using e)]
        simp [this]
  have hs : (nodeOf L x.num).isSome = true := by unfold nodeOf; rw [hf]; rfl
  unfold relS setM
  simp only [hs, if_true]
  congr 1
  · exact funext hM
  · unfold withR; rw [List.length_map]
theorem wf_with {L : List NodeT} {last : Int} (h : WF L last) {x : NodeT} (hx : x ∈ L) (h1 : x.num ≠ 1) (data : Tx) : WF (withR L ⟨x.num, x.up, x.name, x.kind, data⟩) last := by
  have hall : ∀ z ∈ L, (withF ⟨x.num, x.up, x.name, x.kind, data⟩ z).num = z.num ∧ (withF ⟨x.num, x.up, x.name, x.kind, data⟩ z).up = z.up ∧ (withF ⟨x.num, x.up, x.name, x.kind, data⟩ z).name = z.name ∧ (withF ⟨x.num, x.up, x.name, x.kind, data⟩ z).kind = z.kind := by
    intro z hz
    unfold withF
    split
    · rename_i e
      rw [num_inj h.nodup hz hx (eq_of_beq e)]
      exact ⟨rfl, rfl, rfl, rfl⟩
    · exact ⟨rfl, rfl, rfl, rfl⟩
  have hmem : ∀ z ∈ withR L ⟨x.num, x.up, x.name, x.kind, data⟩, ∃ q ∈ L, z.num = q.num ∧ z.up = q.up ∧ z.name = q.name ∧ z.kind = q.kind := by
    intro z hz
    obtain ⟨q, hq, rfl⟩ := List.mem_map.1 hz
    exact ⟨q, hq, hall q hq⟩
  refine ⟨?_, ?_, ?_, ?_, ?_, ?_, ?_⟩
  · have : (withR L ⟨x.num, x.up, x.name, x.kind, data⟩).map (·.num) = L.map (·.num) := by
      unfold withR
      rw [List.map_map]
      exact List.map_congr_left fun z hz => (hall z hz).1
    rw [this]
    exact h.nodup
  · intro z hz
    obtain ⟨q, hq, e, _⟩ := hmem z hz
    rw [e]; exact h.nums q hq
  · obtain ⟨l, rfl⟩ := h.root
    refine ⟨l.map (withF ⟨x.num, x.up, x.name, x.kind, data⟩), ?_⟩
    unfold withR
    rw [List.map_cons]
    congr 1
    unfold withF
    rw [if_neg (by simpa [rootR] using Ne.symm h1)]
  · intro z hz
    obtain ⟨q, hq, _, e, _⟩ := hmem z hz
    obtain ⟨u, hu, e1, e2⟩ := h.ups q hq
    exact ⟨_, List.mem_map.2 ⟨u, hu, rfl⟩, by rw [(hall u hu).1, e1, e], by rw [(hall u hu).2.2.2, e2]⟩
  · intro d
    have : ((withR L ⟨x.num, x.up, x.name, x.kind, data⟩).filter (listP d)).map (·.name) = (L.filter (listP d)).map (·.name) := by
      unfold withR
      rw [List.filter_map, List.map_map]
      have hp : L.filter (listP d ∘ withF ⟨x.num, x.up, x.name, x.kind, data⟩) = L.filter (listP d) := List.filter_congr fun z hz => by
        unfold listP Function.comp
        simp only [(hall z hz).1, (hall z hz).2.1]
      rw [hp]
      exact List.map_congr_left fun z hz => (hall z (List.mem_filter.1 hz).1).2.2.1
    rw [this]
    exact h.names d
  · intro z hz
    obtain ⟨q, hq, _, _, _, e⟩ := hmem z hz
    rw [e]; exact h.kinds q hq
  · obtain ⟨rk, hr⟩ := h.rank
    refine ⟨rk, fun z hz hz1 => ?_⟩
    obtain ⟨q, hq, e, e2, _⟩ := hmem z hz
    rw [e, e2]
    exact hr q hq (by rw [← e]; exact hz1)
theorem set_rel {L : List NodeT} {last : Int} (h : WF L last) (n : Int) (data : Tx) : setS (relS L last) n data = (relS (setR L n data).1 last, (setR L n data).2) ∧ WF (setR L n data).1 last := by
  have hp : pn ((relS L last).M n) = _ := pn_rel h n
  unfold setS setR
  by_cases h0 : (atR L n).kind = 0
  · rw [if_pos h0, if_pos (by rw [hp]; exact h0)]
    exact ⟨rfl, h⟩
  · rw [if_neg h0, if_neg (by rw [hp]; exact h0)]
    by_cases h1 : (atR L n).kind = 1
    · rw [if_pos h1, if_pos (by rw [hp]; exact h1)]
      exact ⟨rfl, h⟩
    · rw [if_neg h1, if_neg (by rw [hp]; exact h1)]
      have hk : (pn ((relS L last).M n)).kind = (atR L n).kind := by rw [hp]
      rw [hk]
      split
      · exact ⟨rfl, h⟩
      · obtain ⟨x, hx, hn, ha, _⟩ := at_kind h0
        rw [ha] at h1 ⊢
        subst hn
        refine ⟨?_, wf_with h hx ?_ data⟩
        · rw [← rel_with h hx data]
        · intro e
          obtain ⟨l, hl⟩ := h.root
          have hr : rootR ∈ L := by rw [hl]; exact List.mem_cons_self ..
          rw [num_inj h.nodup hx hr (by rw [e]; rfl)] at h1
          exact h1 rfl
end Go.Proofs.Ytmjggjccmbiheab
