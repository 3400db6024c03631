/- The plain law of the tree: Cut. -/
import Derived.Test.YtmjggjccmbiheabTreeLawC
namespace Go.Proofs.Ytmjggjccmbiheab
open Go Go.RowKit Go.Proofs Go.Sort

def lessR (L : List NodeT) (n : Int) : List NodeT := L.filter fun x => x.num != n
theorem less_len : ∀ {L : List NodeT}, (L.map (·.num)).Nodup → ∀ {x : NodeT}, x ∈ L → (lessR L x.num).length + 1 = L.length
  | [], _, _, hx => absurd hx (by simp)
  | a :: L, h, x, hx => by
    rw [List.map_cons, List.nodup_cons] at h
    unfold lessR
    rw [List.filter_cons]
    rcases List.mem_cons.1 hx with h1 | h1
    · subst h1
      rw [if_neg (by simp), List.filter_eq_self.2 fun z hz => by
        rw [bne_iff_ne]; intro e; exact h.1 (List.mem_map.2 ⟨z, hz, e⟩)]
      rfl
    · have hne : a.num ≠ x.num := fun e => h.1 (List.mem_map.2 ⟨x, h1, e.symm⟩)
      rw [if_pos (by simpa using hne), List.length_cons, List.length_cons]
      have := less_len h.2 h1
      unfold lessR at this
      omega
theorem find_less {L : List NodeT} {n k : Int} (h : k ≠ n) : (lessR L n).find? (fun x => x.num == k) = L.find? (fun x => x.num == k) := by
  unfold lessR
  induction L with
  | nil => rfl
  | cons a L ih =>
    rw [List.filter_cons, List.find?_cons]
    cases hq : (a.num == k)
    · split
      · rw [List.find?_cons, hq]; exact ih
      · exact ih
    · rw [if_pos (by have := eq_of_beq hq; rw [bne_iff_ne, this]; exact h), List.find?_cons, hq]
theorem in_node {L : List NodeT} {d : Int} {s : Tx} (h : inR L d s ≠ 0) : ∃ x ∈ L, x.num = inR L d s ∧ x.up = d ∧ x.name = s ∧ x.num ≠ 1 := by
  unfold inR at h ⊢
  cases hf : L.find? (inP d s) with
  | none => rw [hf] at h; exact absurd rfl h
  | some x =>
    have hp := List.find?_some hf
    unfold inP at hp
    simp only [Bool.and_eq_true, beq_iff_eq, bne_iff_ne] at hp
    exact ⟨x, List.mem_of_find?_eq_some hf, rfl, hp.1.1, hp.1.2, hp.2⟩
theorem wf_less {L : List NodeT} {last : Int} (h : WF L last) {x : NodeT} (hx : x ∈ L) (h1 : x.num ≠ 1) (he : listR L x.num = []) : WF (lessR L x.num) last := by
  have hm : ∀ z, z ∈ lessR L x.num ↔ z ∈ L ∧ z.num ≠ x.num := fun z => by unfold lessR; rw [List.mem_filter, bne_iff_ne]
  have hno : ∀ z ∈ L, z.num ≠ 1 → z.up ≠ x.num := fun z hz hz1 e => by
    have := (mem_listR h x.num (z.name, z.num)).2 ⟨z, hz, by unfold listP; simp [e, hz1], rfl⟩
    rw [he] at this
    cases this
  refine ⟨?_, fun z hz => h.nums z ((hm z).1 hz).1, ?_, ?_, ?_, fun z hz => h.kinds z ((hm z).1 hz).1, ?_⟩
  · exact h.nodup.sublist (List.filter_sublist.map _)
  · obtain ⟨l, rfl⟩ := h.root
    refine ⟨l.filter fun z => z.num != x.num, ?_⟩
    unfold lessR
    rw [List.filter_cons, if_pos (by rw [bne_iff_ne]; exact Ne.symm h1)]
  · intro z hz
    obtain ⟨hz1, hz2⟩ := (hm z).1 hz
    obtain ⟨y, hy, e1, e2⟩ := h.ups z hz1
    refine ⟨y, (hm y).2 ⟨hy, fun e => ?_⟩, e1, e2⟩
    by_cases hz3 : z.num = 1
    · obtain ⟨l, hl⟩ := h.root
      have hr : rootR ∈ L := by rw [hl]; exact List.mem_cons_self ..
      have : z = rootR := num_inj h.nodup hz1 hr hz3
      rw [this] at e1
      exact h1 (e.symm.trans e1)
    · exact hno z hz1 hz3 (e1.symm.trans e)
  · intro d
    exact (h.names d).sublist ((List.filter_sublist.filter _).map _)
  · obtain ⟨rk, hr⟩ := h.rank
    exact ⟨rk, fun z hz => hr z ((hm z).1 hz).1⟩
theorem list_less {L : List NodeT} {last : Int} (h : WF L last) {x : NodeT} (hx : x ∈ L) (h1 : x.num ≠ 1) (he : listR L x.num = []) (k : Int) : listR (lessR L x.num) k = if k = x.up then cutP (listR L k) x.name else listR L k := by
  have hw := wf_less h hx h1 he
  have hm : ∀ z, z ∈ lessR L x.num ↔ z ∈ L ∧ z.num ≠ x.num := fun z => by unfold lessR; rw [List.mem_filter, bne_iff_ne]
  have hxp : listP x.up x = true := by unfold listP; simp [h1]
  by_cases e : k = x.up
  · subst e
    rw [if_pos rfl]
    refine rise_eq (rise_listR _ _) (rise_cutP _ _) fun a => ?_
    rw [mem_listR hw, mem_cutP (rise_listR _ _), mem_listR h]
    constructor
    · rintro ⟨z, hz, hp, rfl⟩
      obtain ⟨hz1, hz2⟩ := (hm z).1 hz
      refine ⟨⟨z, hz1, hp, rfl⟩, fun e2 => hz2 ?_⟩
      have ha := (mem_listR h x.up (z.name, z.num)).2 ⟨z, hz1, hp, rfl⟩
      have hb := (mem_listR h x.up (x.name, x.num)).2 ⟨x, hx, hxp, rfl⟩
      exact congrArg Prod.snd (rise_inj (pairwise_of_rise (rise_listR L x.up)) ha hb e2)
    · rintro ⟨⟨z, hz, hp, rfl⟩, hne⟩
      refine ⟨z, (hm z).2 ⟨hz, fun e2 => hne ?_⟩, hp, rfl⟩
      rw [num_inj h.nodup hz hx e2]
  · rw [if_neg e]
    refine rise_eq (rise_listR _ _) (rise_listR _ _) fun a => ?_
    rw [mem_listR hw, mem_listR h]
    constructor
    · rintro ⟨z, hz, hp, rfl⟩
      exact ⟨z, ((hm z).1 hz).1, hp, rfl⟩
    · rintro ⟨z, hz, hp, rfl⟩
      refine ⟨z, (hm z).2 ⟨hz, fun e2 => e ?_⟩, hp, rfl⟩
      rw [num_inj h.nodup hz hx e2] at hp
      unfold listP at hp
      simp only [Bool.and_eq_true, beq_iff_eq] at hp
      exact hp.1.symm
theorem rel_less {L : List NodeT} {last : Int} (h : WF L last) {x : NodeT} (hx : x ∈ L) (h1 : x.num ≠ 1) (he : listR L x.num = []) :
    enterS (delM (relS L last) x.num) x.up (cutP (pn ((delM (relS L last) x.num).M x.up)).ents x.name) = relS (lessR L x.num) last := by
  obtain ⟨y, hy, hy1, hy2⟩ := h.ups x hx
  have hne : x.up ≠ x.num := by
    obtain ⟨rk, hr⟩ := h.rank
    intro e
    have := hr x hx h1
    rw [e] at this
    omega
  have hyf := find_num h.nodup hy hy1
  have hMd : (delM (relS L last) x.num).M x.up = some ⟨y.kind, y.up, y.data, listR L x.up⟩ := by
    unfold delM relS
    simp only
    rw [upd_other _ _ hne]
    unfold nodeOf
    rw [hyf]; rfl
  have hsx : (nodeOf L x.num).isSome = true := by unfold nodeOf; rw [find_num h.nodup hx rfl]; rfl
  unfold enterS
  rw [hMd]
  unfold setM
  rw [if_pos (by rw [hMd]; rfl)]
  unfold relS
  congr 1
  · funext k
    by_cases e : k = x.up
    · subst e
      rw [upd_same]
      unfold nodeOf
      rw [find_less hne, hyf, list_less h hx h1 he, if_pos rfl]
      simp [pn]
    · rw [upd_other _ _ e]
      unfold delM
      simp only
      by_cases e2 : k = x.num
      · subst e2
        rw [upd_same]
        unfold nodeOf
        rw [node_none fun z hz e3 => by
          have := (List.mem_filter.1 hz).2
          rw [bne_iff_ne] at this
          exact this e3]
        rfl
      · rw [upd_other _ _ e2]
        unfold nodeOf
        rw [find_less e2, list_less h hx h1 he, if_neg e]
  · unfold delM
    simp only
    rw [if_pos hsx]
    have := less_len h.nodup hx
    omega
theorem cut_rel {L : List NodeT} {last : Int} (h : WF L last) (d : Int) (s : Tx) : cutS (relS L last) d s = (relS (cutR L d s).1 last, (cutR L d s).2) ∧ WF (cutR L d s).1 last := by
  unfold cutS cutR
  rw [dir_rel h]
  by_cases hd : dirR L d ≠ 0
  · rw [if_pos hd, if_pos hd]; exact ⟨rfl, h⟩
  · rw [if_neg hd, if_neg hd]
    have hk := dir_kind (L := L) (d := d) (by simpa using hd)
    rw [find_rel h hk]
    by_cases hi : inR L d s = 0
    · rw [if_pos (by simp [hi]), if_pos hi]; exact ⟨rfl, h⟩
    · rw [if_neg (by simp [hi]), if_neg hi]
      obtain ⟨x, hx, hn, hu, hs, h1⟩ := in_node hi
      simp only
      rw [← hn]
      have hp : (pn ((relS L last).M x.num)).ents = listR L x.num := by
        show (pn (nodeOf L x.num)).ents = _
        unfold nodeOf
        rw [find_num h.nodup hx rfl]
        rfl
      rw [hp]
      by_cases he : listR L x.num = []
      · rw [if_neg (by simp [he]), if_neg (by simp [he])]
        refine ⟨?_, wf_less h hx h1 he⟩
        subst hu hs
        exact congrArg (fun S => (S, (0 : Int))) (rel_less h hx h1 he)
      · rw [if_pos he, if_pos he]; exact ⟨rfl, h⟩
end Go.Proofs.Ytmjggjccmbiheab
