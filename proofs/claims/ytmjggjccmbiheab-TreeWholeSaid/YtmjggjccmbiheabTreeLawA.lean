/- The plain law of the tree: a directory's entries, told by what is in them. -/
import Derived.Test.YtmjggjccmbiheabRefMove
import Derived.Test.YtmjggjccmbiheabEntsPlain
namespace Go.Proofs.Ytmjggjccmbiheab
open Go Go.RowKit Go.Proofs Go.Sort

theorem lt_or (a b : Tx) (h : a ≠ b) : a < b ∨ b < a := by
  rcases gt_ways a b with ⟨h2, _⟩ | ⟨_, h3, _⟩ | ⟨_, _, h2⟩
  · rw [bytesLess_eq] at h2
    exact .inl (of_decide_eq_true h2)
  · exact absurd (eq_of_beq h3) h
  · exact .inr h2
theorem mem_putP {xs : List En} (hr : rise xs = true) (e a : En) : a ∈ putP xs e ↔ a = e ∨ (a ∈ xs ∧ a.1 ≠ e.1) := by
  rw [← rputP_eq]
  unfold rputP
  simp only [allE_of hr, List.mem_append, List.mem_filter, List.mem_singleton, ltB_iff, gtB_iff, decide_eq_true_eq, Bool.not_eq_true', beq_eq_false_iff_ne, ne_eq]
  constructor
  · rintro ((⟨⟨h1, h2⟩, _⟩ | h) | ⟨⟨h1, h2⟩, _⟩)
    · exact .inr ⟨h1, h2⟩
    · exact .inl h
    · exact .inr ⟨h1, h2⟩
  · rintro (h | ⟨h1, h2⟩)
    · exact .inl (.inr h)
    · rcases lt_or a.1 e.1 h2 with h | h
      · exact .inl (.inl ⟨⟨h1, h2⟩, h⟩)
      · exact .inr ⟨⟨h1, h2⟩, h⟩
theorem mem_cutP {xs : List En} (hr : rise xs = true) (s : Tx) (a : En) : a ∈ cutP xs s ↔ a ∈ xs ∧ a.1 ≠ s := by
  unfold cutP
  rw [allE_of hr, cutE_eq hr, List.mem_filter]
  simp
theorem pair_eq : ∀ {l m : List En}, l.Pairwise (fun x y => x.1 < y.1) → m.Pairwise (fun x y => x.1 < y.1) → (∀ a, a ∈ l ↔ a ∈ m) → l = m
  | [], [], _, _, _ => rfl
  | [], b :: m, _, _, h => absurd ((h b).2 (List.mem_cons_self ..)) (by simp)
  | a :: l, [], _, _, h => absurd ((h a).1 (List.mem_cons_self ..)) (by simp)
  | a :: l, b :: m, hl, hm, h => by
    have hl' := List.pairwise_cons.1 hl
    have hm' := List.pairwise_cons.1 hm
    have hab : a = b := by
      rcases List.mem_cons.1 ((h a).1 (List.mem_cons_self ..)) with e | e
      · exact e
      · rcases List.mem_cons.1 ((h b).2 (List.mem_cons_self ..)) with e2 | e2
        · exact e2.symm
        · exact absurd (List.lt_trans (hm'.1 a e) (hl'.1 b e2)) (List.lt_irrefl _)
    subst hab
    congr 1
    refine pair_eq hl'.2 hm'.2 fun x => ?_
    constructor
    · intro hx
      rcases List.mem_cons.1 ((h x).1 (List.mem_cons_of_mem _ hx)) with e | e
      · subst e; exact absurd (hl'.1 x hx) (List.lt_irrefl _)
      · exact e
    · intro hx
      rcases List.mem_cons.1 ((h x).2 (List.mem_cons_of_mem _ hx)) with e | e
      · subst e; exact absurd (hm'.1 x hx) (List.lt_irrefl _)
      · exact e
theorem rise_eq {l m : List En} (hl : rise l = true) (hm : rise m = true) (h : ∀ a, a ∈ l ↔ a ∈ m) : l = m := pair_eq (pairwise_of_rise hl) (pairwise_of_rise hm) h

theorem rise_inj : ∀ {l : List En}, l.Pairwise (fun x y => x.1 < y.1) → ∀ {a b : En}, a ∈ l → b ∈ l → a.1 = b.1 → a = b
  | [], _, _, _, ha, _, _ => absurd ha (by simp)
  | c :: l, h, a, b, ha, hb, e => by
    have h' := List.pairwise_cons.1 h
    rcases List.mem_cons.1 ha with h1 | h1 <;> rcases List.mem_cons.1 hb with h2 | h2
    · rw [h1, h2]
    · subst h1
      have := h'.1 b h2
      rw [e] at this
      exact absurd this (List.lt_irrefl _)
    · subst h2
      have := h'.1 a h1
      rw [e] at this
      exact absurd this (List.lt_irrefl _)
    · exact rise_inj h'.2 h1 h2 e
theorem rise_fold : ∀ (l : List NodeT) (out : List En), rise out = true → rise (l.foldl addR out) = true
  | [], _, h => h
  | _ :: l, _, _ => rise_fold l _ (rise_putP _ _)
theorem rise_listR (L : List NodeT) (d : Int) : rise (listR L d) = true := rise_fold _ [] rfl
theorem mem_fold : ∀ (l : List NodeT) (out : List En), rise out = true → (l.map (·.name)).Nodup → (∀ x ∈ l, ∀ a ∈ out, a.1 ≠ x.name) → ∀ a, a ∈ l.foldl addR out ↔ a ∈ out ∨ ∃ x ∈ l, a = (x.name, x.num)
  | [], out, _, _, _, a => by simp
  | x :: l, out, hr, hn, hd, a => by
    rw [List.map_cons, List.nodup_cons] at hn
    have hp : rise (addR out x) = true := rise_putP _ _
    rw [List.foldl_cons, mem_fold l _ hp hn.2 ?_ a]
    · unfold addR
      rw [mem_putP hr]
      constructor
      · rintro ((h | ⟨h, _⟩) | ⟨y, hy, h⟩)
        · exact .inr ⟨x, List.mem_cons_self .., h⟩
        · exact .inl h
        · exact .inr ⟨y, List.mem_cons_of_mem _ hy, h⟩
      · rintro (h | ⟨y, hy, h⟩)
        · exact .inl (.inr ⟨h, hd x (List.mem_cons_self ..) a h⟩)
        · rcases List.mem_cons.1 hy with e | e
          · subst e; exact .inl (.inl h)
          · exact .inr ⟨y, e, h⟩
    · intro y hy b hb
      unfold addR at hb
      rcases (mem_putP hr _ _).1 hb with h | ⟨h, _⟩
      · subst h
        intro he
        exact hn.1 (List.mem_map.2 ⟨y, hy, he.symm⟩)
      · exact hd y (List.mem_cons_of_mem _ hy) b h

theorem num_inj : ∀ {L : List NodeT}, (L.map (·.num)).Nodup → ∀ {x z : NodeT}, x ∈ L → z ∈ L → x.num = z.num → x = z
  | [], _, _, _, hx, _, _ => absurd hx (by simp)
  | a :: L, h, x, z, hx, hz, e => by
    rw [List.map_cons, List.nodup_cons] at h
    rcases List.mem_cons.1 hx with h1 | h1 <;> rcases List.mem_cons.1 hz with h2 | h2
    · rw [h1, h2]
    · subst h1; exact absurd (List.mem_map.2 ⟨z, h2, e.symm⟩) h.1
    · subst h2; exact absurd (List.mem_map.2 ⟨x, h1, e⟩) h.1
    · exact num_inj h.2 h1 h2 e
/-- What a tree of nodes is. -/
structure WF (L : List NodeT) (last : Int) : Prop where
  nodup : (L.map (·.num)).Nodup
  nums : ∀ x ∈ L, 1 ≤ x.num ∧ x.num ≤ last
  root : ∃ l, L = rootR :: l
  ups : ∀ x ∈ L, ∃ y ∈ L, y.num = x.up ∧ y.kind = 1
  names : ∀ d : Int, ((L.filter (listP d)).map (·.name)).Nodup
  kinds : ∀ x ∈ L, 1 ≤ x.kind ∧ x.kind ≤ 3
  rank : ∃ rk : Int → Nat, ∀ x ∈ L, x.num ≠ 1 → rk x.up < rk x.num
theorem mem_listR {L : List NodeT} {last : Int} (h : WF L last) (d : Int) (a : En) : a ∈ listR L d ↔ ∃ x ∈ L, listP d x = true ∧ a = (x.name, x.num) := by
  unfold listR
  rw [mem_fold _ [] rfl (h.names d) (fun _ _ a ha => absurd ha (by simp)) a]
  simp only [List.not_mem_nil, false_or, List.mem_filter, and_assoc]
/-- A node of the program's tree, of the reference's list. -/
def nodeOf (L : List NodeT) (k : Int) : Option PNode := (L.find? fun x => x.num == k).map fun x => ⟨x.kind, x.up, x.data, listR L k⟩
def relS (L : List NodeT) (last : Int) : TreeSt := ⟨nodeOf L, last, L.length⟩
theorem pn_rel {L : List NodeT} {last : Int} (h : WF L last) (k : Int) : pn (nodeOf L k) = ⟨(atR L k).kind, (atR L k).up, (atR L k).data, if (atR L k).kind = 1 then listR L k else []⟩ := by
  unfold nodeOf atR
  cases hf : L.find? (fun x => x.num == k) with
  | none => simp [pn, zeroR]
  | some x =>
    simp only [Option.map_some, pn, Option.getD_some]
    by_cases h1 : x.kind = 1
    · rw [if_pos h1]
    · rw [if_neg h1]
      congr 1
      rw [List.eq_nil_iff_forall_not_mem]
      intro a ha
      obtain ⟨y, hy, hp, _⟩ := (mem_listR h k a).1 ha
      unfold listP at hp
      simp only [Bool.and_eq_true, beq_iff_eq] at hp
      obtain ⟨z, hz, hzn, hzk⟩ := h.ups y hy
      have hx := List.mem_of_find?_eq_some hf
      have hxn := List.find?_some hf
      simp only [beq_iff_eq] at hxn
      have : x = z := num_inj h.nodup hx hz (by rw [hxn, hzn]; exact hp.1.symm)
      subst this
      exact h1 hzk
theorem find_num {L : List NodeT} (h : (L.map (·.num)).Nodup) {x : NodeT} (hx : x ∈ L) {k : Int} (e : x.num = k) : L.find? (fun y => y.num == k) = some x := by
  cases hf : L.find? (fun y => y.num == k) with
  | none => exact absurd e (by have := List.find?_eq_none.1 hf x hx; simpa using this)
  | some y =>
    have h1 := List.find?_some hf
    simp only [beq_iff_eq] at h1
    rw [num_inj h (List.mem_of_find?_eq_some hf) hx (by rw [h1, e])]
theorem at_mem {L : List NodeT} {last : Int} (h : WF L last) {x : NodeT} (hx : x ∈ L) {k : Int} (e : x.num = k) : atR L k = x := by
  unfold atR
  rw [find_num h.nodup hx e]
  rfl
theorem at_none {L : List NodeT} {k : Int} (h : ∀ x ∈ L, x.num ≠ k) : atR L k = zeroR := by
  unfold atR
  rw [List.find?_eq_none.2 (fun x hx => by simpa using h x hx)]
  rfl
theorem dir_rel {L : List NodeT} {last : Int} (h : WF L last) (k : Int) : dirE (relS L last) k = dirR L k := by
  unfold dirE dirR relS
  simp only [pn_rel h k]
/-- The node of a name in a directory: the one that its entries name. -/
theorem find_rel {L : List NodeT} {last : Int} (h : WF L last) {d : Int} (hd : (atR L d).kind = 1) (s : Tx) : findN (relS L last) d s = (inR L d s, decide (inR L d s ≠ 0)) := by
  unfold findN relS
  simp only [pn_rel h d, if_pos hd]
  rw [allE_of (rise_listR L d)]
  unfold findE inR
  cases hf : L.find? (inP d s) with
  | none =>
    have hn : (listR L d).find? (fun e => e.1 == s) = none := by
      rw [List.find?_eq_none]
      intro a ha
      obtain ⟨x, hx, hp, rfl⟩ := (mem_listR h d a).1 ha
      have := List.find?_eq_none.1 hf x hx
      unfold inP at this
      unfold listP at hp
      simp only [Bool.and_eq_true, beq_iff_eq, bne_iff_ne] at hp this ⊢
      intro e
      exact this ⟨⟨hp.1, e⟩, hp.2⟩
    rw [hn]
    simp
  | some x =>
    have hx := List.mem_of_find?_eq_some hf
    have hp := List.find?_some hf
    unfold inP at hp
    simp only [Bool.and_eq_true, beq_iff_eq, bne_iff_ne] at hp
    have hm : (x.name, x.num) ∈ listR L d := (mem_listR h d _).2 ⟨x, hx, by unfold listP; simp [hp.1.1, hp.2], rfl⟩
    have hx1 := h.nums x hx
    cases hg : (listR L d).find? (fun e => e.1 == s) with
    | none => exact absurd (List.find?_eq_none.1 hg _ hm) (by simp [hp.1.2])
    | some a =>
      have ha := List.mem_of_find?_eq_some hg
      have he := List.find?_some hg
      simp only [beq_iff_eq] at he
      have : a = (x.name, x.num) := rise_inj (pairwise_of_rise (rise_listR L d)) ha hm (by rw [he]; exact hp.1.2.symm)
      subst this
      have : x.num ≠ 0 := by omega
      simp [this]
/-- Set: both trees answer alike. -/
theorem list_with {L : List NodeT} (y : NodeT) (d : Int) (hy : ∀ x ∈ L, x.num = y.num → x.up = y.up ∧ x.name = y.name) : listR (withR L y) d = listR L d := by
  unfold listR withR
  have : ∀ (l : List NodeT) (out : List En), (∀ x ∈ l, x.num = y.num → x.up = y.up ∧ x.name = y.name) → ((l.map (withF y)).filter (listP d)).foldl addR out = (l.filter (listP d)).foldl addR out := by
    intro l
    induction l with
    | nil => intro out _; rfl
    | cons x l ih =>
      intro out h
      have h1 : listP d (withF y x) = listP d x ∧ ∀ o, addR o (withF y x) = addR o x := by
        unfold withF
        by_cases e : x.num = y.num
        · obtain ⟨e1, e2⟩ := h x (List.mem_cons_self ..) e
          rw [if_pos (by simpa using e)]
          unfold listP addR
          rw [e, e1, e2]
          exact ⟨rfl, fun _ => rfl⟩
        · rw [if_neg (by simpa using e)]
          exact ⟨rfl, fun _ => rfl⟩
      rw [List.map_cons, List.filter_cons, List.filter_cons, h1.1]
      split
      · rw [List.foldl_cons, List.foldl_cons, h1.2]
        exact ih _ (fun z hz => h z (List.mem_cons_of_mem _ hz))
      · exact ih _ (fun z hz => h z (List.mem_cons_of_mem _ hz))
  exact this L [] hy
end Go.Proofs.Ytmjggjccmbiheab
