/- Each node is met once: the plain law; rows of whole numbers. -/
import Derived.Test.YtmjggjccmbiheabTreeLawE
import Derived.Test.YtmjggjccmbiheabLawShort
namespace Go.Proofs.Ytmjggjccmbiheab
open Go Go.RowKit Go.Proofs Go.Sort

theorem len_sub {α : Type} [BEq α] [LawfulBEq α] : ∀ {l m : List α}, l.Nodup → (∀ a ∈ l, a ∈ m) → l.length ≤ m.length
  | [], _, _, _ => Nat.zero_le _
  | a :: l, m, h, hs => by
    rw [List.nodup_cons] at h
    have ha : a ∈ m := hs a (List.mem_cons_self ..)
    have h1 : l.length ≤ (m.erase a).length := len_sub h.2 fun b hb => (List.mem_erase_of_ne (fun e => h.1 (by rw [← e]; exact hb))).2 (hs b (List.mem_cons_of_mem _ hb))
    rw [List.length_erase_of_mem ha] at h1
    have : 0 < m.length := List.length_pos_of_mem ha
    rw [List.length_cons]
    omega
/-- What a walk through the tree has met: met, of which the first i are done. -/
structure MetT (L : List NodeT) (met : List Int) (i : Nat) : Prop where
  nodup : met.Nodup
  root : 1 ∈ met
  mem : ∀ m ∈ met, inL L m
  up : ∀ m ∈ met, m ≠ 1 → upR L m ∈ met.take i
  down : ∀ x ∈ L, x.num ≠ 1 → x.up ∈ met.take i → x.num ∈ met
theorem MetT.start {L : List NodeT} {last : Int} (h : WF L last) : MetT L [1] 0 := by
  refine ⟨by simp, by simp, ?_, ?_, ?_⟩
  · intro m hm
    rw [List.mem_singleton] at hm
    subst hm
    exact root_in h
  · intro m hm h1
    rw [List.mem_singleton] at hm
    exact absurd hm h1
  · intro x _ _ hx
    simp at hx
theorem kid_of {L : List NodeT} {last : Int} (h : WF L last) {d : Int} {e : En} (he : e ∈ listR L d) : ∃ x ∈ L, x.num = e.2 ∧ x.up = d ∧ x.num ≠ 1 ∧ upR L e.2 = d ∧ (atR L e.2).kind ≠ 0 := by
  obtain ⟨x, hx, hp, rfl⟩ := (mem_listR h d e).1 he
  unfold listP at hp
  simp only [Bool.and_eq_true, beq_iff_eq, bne_iff_ne] at hp
  have ha := at_mem h hx rfl
  refine ⟨x, hx, rfl, hp.1, hp.2, ?_, ?_⟩
  · show (atR L x.num).up = d
    rw [ha]; exact hp.1
  · show (atR L x.num).kind ≠ 0
    rw [ha]
    have := h.kinds x hx
    omega
theorem kids_nodup {L : List NodeT} {last : Int} (h : WF L last) (d : Int) : ((listR L d).map (·.2)).Nodup := by
  have hp := pairwise_of_rise (rise_listR L d)
  unfold List.Nodup
  rw [List.pairwise_map]
  refine List.Pairwise.imp_of_mem ?_ hp
  intro a b ha hb hab e
  obtain ⟨x, hx, _, rfl⟩ := (mem_listR h d a).1 ha
  obtain ⟨y, hy, _, rfl⟩ := (mem_listR h d b).1 hb
  rw [num_inj h.nodup hx hy e] at hab
  exact List.lt_irrefl _ hab
theorem MetT.step {L : List NodeT} {last : Int} (h : WF L last) {met : List Int} {i : Nat} (hi : i < met.length) (hm : MetT L met i) : MetT L (met ++ (listR L met[i]).map (·.2)) (i + 1) := by
  have ht : (met ++ (listR L met[i]).map (·.2)).take (i + 1) = met.take i ++ [met[i]] := by
    rw [List.take_append_of_le_length (by omega), List.take_succ_eq_append_getElem hi]
  have hnot : met[i] ∉ met.take i := by
    intro hc
    obtain ⟨j, hj, e⟩ := List.mem_iff_getElem.1 hc
    rw [List.length_take] at hj
    rw [List.getElem_take] at e
    have := (List.getElem_inj hm.nodup).1 e
    omega
  refine ⟨?_, List.mem_append_left _ hm.root, ?_, ?_, ?_⟩
  · rw [List.nodup_append]
    refine ⟨hm.nodup, kids_nodup h _, ?_⟩
    intro a ha b hb e
    subst e
    obtain ⟨en, hen, rfl⟩ := List.mem_map.1 hb
    obtain ⟨x, _, hn, _, h1, hu, _⟩ := kid_of h hen
    have := hm.up en.2 ha (by rw [← hn]; exact h1)
    rw [hu] at this
    exact hnot this
  · intro m hx
    rcases List.mem_append.1 hx with hx | hx
    · exact hm.mem m hx
    · obtain ⟨en, hen, rfl⟩ := List.mem_map.1 hx
      obtain ⟨x, hxL, hn, _⟩ := kid_of h hen
      exact ⟨x, hxL, hn⟩
  · intro m hx h1
    rw [ht]
    rcases List.mem_append.1 hx with hx | hx
    · exact List.mem_append_left _ (hm.up m hx h1)
    · obtain ⟨en, hen, rfl⟩ := List.mem_map.1 hx
      obtain ⟨_, _, _, _, _, hu, _⟩ := kid_of h hen
      rw [hu]
      exact List.mem_append_right _ (List.mem_singleton.2 rfl)
  · intro x hx h1 hu
    rw [ht] at hu
    rcases List.mem_append.1 hu with hu | hu
    · exact List.mem_append_left _ (hm.down x hx h1 hu)
    · rw [List.mem_singleton] at hu
      refine List.mem_append_right _ (List.mem_map.2 ⟨(x.name, x.num), (mem_listR h _ _).2 ⟨x, hx, ?_, rfl⟩, rfl⟩)
      unfold listP
      simp [hu, h1]
theorem MetT.le {L : List NodeT} {met : List Int} {i : Nat} (hm : MetT L met i) : met.length ≤ L.length := by
  have : met.length ≤ (L.map (·.num)).length := len_sub hm.nodup fun a ha => by
    obtain ⟨x, hx, e⟩ := hm.mem a ha
    exact List.mem_map.2 ⟨x, hx, e⟩
  rwa [List.length_map] at this
theorem MetT.all {L : List NodeT} {last : Int} (h : WF L last) {met : List Int} {i : Nat} (hi : met.length ≤ i) (hm : MetT L met i) : met.length = L.length := by
  refine Nat.le_antisymm hm.le ?_
  have ht : met.take i = met := List.take_of_length_le hi
  obtain ⟨rk, hr⟩ := h.rank
  have hall : ∀ (n : Nat) (x : NodeT), x ∈ L → rk x.num ≤ n → x.num ∈ met := by
    intro n
    induction n with
    | zero =>
      intro x hx h0
      by_cases h1 : x.num = 1
      · rw [h1]; exact hm.root
      · have := hr x hx h1; omega
    | succ n ih =>
      intro x hx h0
      by_cases h1 : x.num = 1
      · rw [h1]; exact hm.root
      · have hlt := hr x hx h1
        obtain ⟨y, hy, e, _⟩ := h.ups x hx
        refine hm.down x hx h1 ?_
        rw [ht, ← e]
        exact ih y hy (by rw [e]; omega)
  have : (L.map (·.num)).length ≤ met.length := len_sub h.nodup fun a ha => by
    obtain ⟨x, hx, rfl⟩ := List.mem_map.1 ha
    exact hall _ x hx (Nat.le_refl _)
  rwa [List.length_map] at this


theorem info3 : (Try.prog.info? 3).map (fun i => (i.zero, i.size, i.bytes)) = some (some (.int .i64 0), 1, 8) := by kernel_rfl
abbrev IntsOwn (W : World) (base : Nat) (v : Value) (n : Nat) (l : List Int) : Prop := W.ownsRow base 3 1 v n (l.map fun m => .int .i64 m)
theorem ints_cell {W : World} {base n : Nat} {v : Value} {l : List Int} (h : IntsOwn W base v n l) {i : Nat} (hi : i < l.length) : ∃ g c, v = .slice (some ⟨g, 0, none⟩) n c ∧ g < W.heap.size ∧ W.cell? ⟨g, i, none⟩ = some (.int .i64 l[i]) := by
  have h1 := h.1
  rw [List.length_map] at h1
  rcases h.2 with ⟨rfl, h0⟩ | ⟨g, cap, cur, rfl, hb, hg, hn, hm, hs, ht⟩
  · omega
  · refine ⟨g, cap, rfl, (Array.getElem?_eq_some_iff.1 hg).1, ?_⟩
    have := h.cells (g := g) rfl i (.int .i64 l[i]) (by simp [List.getElem?_eq_getElem hi])
    rwa [show (⟨g, 0, none⟩ : Addr).add i = ⟨g, i, none⟩ from by unfold Addr.add; split <;> simp_all] at this
theorem ints_len {W : World} {base n : Nat} {v : Value} {l : List Int} (h : IntsOwn W base v n l) : l.length = n := by
  have h1 := h.1
  rw [List.length_map] at h1
  omega
/-- Rows of two types never share a block. -/
theorem own_ne {W : World} {b1 b2 : Nat} {e1 e2 : TypeId} {s1 s2 : Nat} {v1 v2 : Value} {n1 n2 : Nat} {xs1 xs2 : List Value} (h1 : W.ownsRow b1 e1 s1 v1 n1 xs1) (h2 : W.ownsRow b2 e2 s2 v2 n2 xs2) (he : e1 ≠ e2) : v1.ownBlock = none ∨ v1.ownBlock ≠ v2.ownBlock := by
  rcases h1.2 with ⟨rfl, _⟩ | ⟨g, cap, cur, rfl, _, hg, _⟩
  · exact .inl rfl
  · refine .inr fun e => ?_
    rcases h2.2 with ⟨rfl, _⟩ | ⟨g', cap', cur', rfl, _, hg', _⟩
    · simp [Value.ownBlock] at e
    · simp only [Value.ownBlock, Option.some.injEq] at e
      subst e
      have := Option.some.inj (hg.symm.trans hg')
      injection this with _ a2 _
      exact he a2
theorem ents_of {L : List NodeT} {d : Int} (h : inL L d) (hn : (L.map (·.num)).Nodup) : (pn (nodeOf L d)).ents = listR L d := by
  obtain ⟨x, hx, e⟩ := h
  unfold nodeOf
  rw [find_num hn hx e]
  rfl
theorem ints_more {W : World} {base n : Nat} {v : Value} {l : List Int} {a : Int} (h : W.ownsRow base 3 1 v (n + 1) (l.map (fun m => .int .i64 m) ++ [.int .i64 a])) : IntsOwn W base v (n + 1) (l ++ [a]) := by
  unfold IntsOwn
  rw [List.map_append]
  exact h
theorem took {es : List En} {met : List Int} {j : Nat} (hj : j < es.length) : met ++ (es.take (j + 1)).map (·.2) = met ++ (es.take j).map (·.2) ++ [es[j].2] := by
  rw [List.take_succ_eq_append_getElem hj, List.map_append, List.append_assoc]
  rfl
end Go.Proofs.Ytmjggjccmbiheab
