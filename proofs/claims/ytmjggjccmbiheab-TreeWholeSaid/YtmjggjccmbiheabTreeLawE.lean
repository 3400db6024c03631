/- The plain law of the tree: ways up; small, full; room; a node that moves; Move. -/
import Derived.Test.YtmjggjccmbiheabTreeLawD
namespace Go.Proofs.Ytmjggjccmbiheab
open Go Go.RowKit Go.Proofs Go.Sort

theorem up_rel {L : List NodeT} {last : Int} (h : WF L last) (k : Int) : upM (relS L last) k = upR L k := by
  show (pn (nodeOf L k)).up = _
  rw [pn_rel h]
  rfl
theorem insF_rel {L : List NodeT} {last : Int} (h : WF L last) (n : Int) : ∀ (f : Nat) (k : Int), insF (relS L last) n f k = insR L n f k
  | 0, _ => rfl
  | f + 1, k => by
    show (if (k == n || k == 1) = true then k == n else insF (relS L last) n f (upM (relS L last) k)) = (if (k == n || k == 1) = true then k == n else insR L n f (upR L k))
    rw [up_rel h, insF_rel h n f]
def inL (L : List NodeT) (k : Int) : Prop := ∃ x ∈ L, x.num = k
theorem ranked_R {L : List NodeT} {last : Int} (h : WF L last) {rk : Int → Nat} (hr : ∀ x ∈ L, x.num ≠ 1 → rk x.up < rk x.num) : RankedR L rk (inL L) := by
  rintro k ⟨x, hx, rfl⟩ h1
  have : upR L x.num = x.up := by unfold upR; rw [at_mem h hx rfl]
  rw [this]
  obtain ⟨y, hy, e, _⟩ := h.ups x hx
  exact ⟨hr x hx h1, y, hy, e⟩
theorem ranked_S {L : List NodeT} {last : Int} (h : WF L last) (hl : last ≤ 1000000) {rk : Int → Nat} (hr : ∀ x ∈ L, x.num ≠ 1 → rk x.up < rk x.num) : Ranked (relS L last) rk (inL L) := by
  intro k hk
  refine ⟨?_, fun h1 => ?_⟩
  · obtain ⟨x, hx, rfl⟩ := hk
    have := h.nums x hx
    exact wf_small (by omega) (by omega)
  · rw [up_rel h]
    exact ranked_R h hr k hk h1
theorem dir_in {L : List NodeT} {d : Int} (h : dirR L d = 0) : inL L d := by
  obtain ⟨x, hx, hn, _⟩ := at_kind (L := L) (k := d) (by rw [dir_kind h]; decide)
  exact ⟨x, hx, hn⟩
theorem root_in {L : List NodeT} {last : Int} (h : WF L last) : ∃ x ∈ L, x.num = 1 := by
  obtain ⟨l, rfl⟩ := h.root
  exact ⟨rootR, List.mem_cons_self .., rfl⟩
theorem fold_len : ∀ (l : List NodeT) (out : List En), (l.foldl addR out).length ≤ out.length + l.length
  | [], _ => by simp
  | x :: l, out => by
    have h1 := fold_len l (addR out x)
    have h2 : (addR out x).length ≤ out.length + 1 := putP_le _ _
    rw [List.foldl_cons, List.length_cons]
    omega
theorem list_len (L : List NodeT) (d : Int) : (listR L d).length ≤ L.length := by
  have h1 := fold_len (L.filter (listP d)) []
  have h2 := List.length_filter_le (listP d) L
  unfold listR
  simp only [List.length_nil] at h1
  omega
theorem small_rel {L : List NodeT} {last : Int} (h : WF L last) (hl : last ≤ 1000000) (hL : L.length ≤ 100000) : SmallT (relS L last) := by
  have h1 : 1 ≤ last := by obtain ⟨x, hx, e⟩ := root_in h; have := h.nums x hx; omega
  refine ⟨fun k p hp => ?_, hL, by show 0 ≤ last ∧ last ≤ 1000000; omega⟩
  have hp' : nodeOf L k = some p := hp
  unfold nodeOf at hp'
  cases hf : L.find? (fun x => x.num == k) with
  | none => rw [hf] at hp'; cases hp'
  | some x =>
    rw [hf] at hp'
    cases hp'
    refine ⟨Nat.le_trans (list_len L k) hL, fun e he => ?_⟩
    obtain ⟨y, hy, _, rfl⟩ := (mem_listR h k e).1 he
    have := h.nums y hy
    show 0 ≤ y.num ∧ y.num ≤ 1000000
    omega


theorem cnt_step (n : Int) : ∀ {L : List NodeT}, (L.map (·.num)).Nodup → (L.filter fun x => decide (x.num ≤ n + 1)).length = (L.filter fun x => decide (x.num ≤ n)).length + if (L.find? fun x => x.num == n + 1).isSome = true then 1 else 0
  | [], _ => rfl
  | a :: L, h => by
    rw [List.map_cons, List.nodup_cons] at h
    have ih := cnt_step n h.2
    rw [List.filter_cons, List.filter_cons, List.find?_cons]
    by_cases e : a.num = n + 1
    · have hn : L.find? (fun x => x.num == n + 1) = none := node_none fun z hz e2 => h.1 (List.mem_map.2 ⟨z, hz, by show z.num = a.num; rw [e2, e]⟩)
      rw [hn] at ih
      have hb : (a.num == n + 1) = true := by simpa using e
      rw [hb, if_pos (by simp; omega), if_neg (by simp; omega), List.length_cons, ih]
      simp
    · have hb : (a.num == n + 1) = false := by simpa using e
      rw [hb]
      by_cases e2 : a.num ≤ n
      · rw [if_pos (by simp; omega), if_pos (by simpa using e2), List.length_cons, List.length_cons, ih]
        simp only
        omega
      · rw [if_neg (by simp; omega), if_neg (by simpa using e2), ih]
theorem cnt_rel {L : List NodeT} {last : Int} (h : WF L last) : ∀ n : Nat, cntTo (relS L last) n = (L.filter fun x => decide (x.num ≤ (n : Int))).length
  | 0 => by
    rw [List.filter_eq_nil_iff.2 fun x hx => by have := h.nums x hx; simp; omega]
    rfl
  | n + 1 => by
    have hs := cnt_step (n : Int) h.nodup
    have ih := cnt_rel h n
    have hc : ((n + 1 : Nat) : Int) = (n : Int) + 1 := by omega
    rw [hc, hs, ← ih]
    show cntTo (relS L last) n + (if (nodeOf L ((n : Int) + 1)).isSome = true then 1 else 0) = _
    unfold nodeOf
    rw [Option.isSome_map]
theorem full_rel {L : List NodeT} {last : Int} (h : WF L last) : FullT (relS L last) := by
  have h1 : 1 ≤ last := by obtain ⟨x, hx, e⟩ := root_in h; have := h.nums x hx; omega
  refine ⟨fun k p hp => ?_, ?_, by show 0 ≤ last; omega⟩
  · have hp' : nodeOf L k = some p := hp
    unfold nodeOf at hp'
    cases hf : L.find? (fun x => x.num == k) with
    | none => rw [hf] at hp'; cases hp'
    | some x =>
      have hx := h.nums x (List.mem_of_find?_eq_some hf)
      have he := List.find?_some hf
      simp only [beq_iff_eq] at he
      rw [he] at hx
      exact hx
  · show L.length = cntTo (relS L last) last.toNat
    rw [cnt_rel h, List.filter_eq_self.2 fun x hx => by have := h.nums x hx; simp; omega]


theorem kind_rel {L : List NodeT} {last : Int} (h : WF L last) (k : Int) : (pn ((relS L last).M k)).kind = (atR L k).kind := by
  show (pn (nodeOf L k)).kind = _
  rw [pn_rel h]
theorem room_rel {L : List NodeT} {last : Int} (h : WF L last) (n : Int) {to_ : Int} (hk : (atR L to_).kind = 1) (as_ : Tx) :
    roomS (relS L last) n to_ as_ = if inR L to_ as_ = 0 then (relS L last, false, 0) else if inR L to_ as_ = n then (relS L last, true, 0) else
      if (atR L (inR L to_ as_)).kind = 1 ∧ (atR L n).kind ≠ 1 then (relS L last, false, 8) else if (atR L n).kind = 1 ∧ (atR L (inR L to_ as_)).kind ≠ 1 then (relS L last, false, 7) else
      (relS (cutR L to_ as_).1 last, false, (cutR L to_ as_).2) := by
  unfold roomS
  rw [find_rel h hk, (cut_rel h to_ as_).1]
  simp only [kind_rel h, beq_iff_eq, beq_eq_false_iff_ne, ne_eq, decide_eq_false_iff_not, Decidable.not_not]


/-- A node under another name. -/
abbrev mvR (x : NodeT) (to_ : Int) (as_ : Tx) : NodeT := ⟨x.num, to_, as_, x.kind, x.data⟩
theorem mem_with {L : List NodeT} {y : NodeT} (hy : ∃ x ∈ L, x.num = y.num) (z : NodeT) : z ∈ withR L y ↔ z = y ∨ (z ∈ L ∧ z.num ≠ y.num) := by
  unfold withR
  rw [List.mem_map]
  constructor
  · rintro ⟨q, hq, rfl⟩
    unfold withF
    by_cases e : q.num = y.num
    · rw [if_pos (by simpa using e)]; exact .inl rfl
    · rw [if_neg (by simpa using e)]; exact .inr ⟨hq, e⟩
  · rintro (rfl | ⟨hz, e⟩)
    · obtain ⟨x, hx, e⟩ := hy
      exact ⟨x, hx, by unfold withF; rw [if_pos (by simpa using e)]⟩
    · exact ⟨z, hz, by unfold withF; rw [if_neg (by simpa using e)]⟩
theorem name_inj : ∀ {L : List NodeT}, (L.map (·.name)).Nodup → ∀ {x z : NodeT}, x ∈ L → z ∈ L → x.name = z.name → x = z
  | [], _, _, _, hx, _, _ => absurd hx (by simp)
  | a :: L, h, x, z, hx, hz, e => by
    rw [List.map_cons, List.nodup_cons] at h
    rcases List.mem_cons.1 hx with h1 | h1 <;> rcases List.mem_cons.1 hz with h2 | h2
    · rw [h1, h2]
    · subst h1; exact absurd (List.mem_map.2 ⟨z, h2, e.symm⟩) h.1
    · subst h2; exact absurd (List.mem_map.2 ⟨x, h1, e⟩) h.1
    · exact name_inj h.2 h1 h2 e
theorem names_nodup : ∀ {l : List NodeT}, (l.map (·.num)).Nodup → (∀ a ∈ l, ∀ b ∈ l, a.name = b.name → a.num = b.num) → (l.map (·.name)).Nodup
  | [], _, _ => List.nodup_nil
  | a :: l, h, hi => by
    rw [List.map_cons, List.nodup_cons] at h ⊢
    refine ⟨fun hm => ?_, names_nodup h.2 fun b hb c hc => hi b (List.mem_cons_of_mem _ hb) c (List.mem_cons_of_mem _ hc)⟩
    obtain ⟨z, hz, e⟩ := List.mem_map.1 hm
    exact h.1 (List.mem_map.2 ⟨z, hz, hi z (List.mem_cons_of_mem _ hz) a (List.mem_cons_self ..) e⟩)
theorem no_name {L : List NodeT} {last : Int} (h : WF L last) {d : Int} {s : Tx} (hi : inR L d s = 0) : ∀ z ∈ L, z.up = d → z.num ≠ 1 → z.name ≠ s := by
  intro z hz e1 e2 e3
  unfold inR at hi
  cases hg : L.find? (inP d s) with
  | none => exact absurd (List.find?_eq_none.1 hg z hz) (by unfold inP; simp [e1, e2, e3])
  | some q =>
    rw [hg] at hi
    have := h.nums q (List.mem_of_find?_eq_some hg)
    simp only at hi
    omega
theorem ins_self (L : List NodeT) (n : Int) : ∀ f, insR L n f n = true
  | 0 => by simp [insR]
  | f + 1 => by simp [insR]
theorem ins_fuel {L : List NodeT} {rk : Int → Nat} {Good : Int → Prop} (hr : RankedR L rk Good) (n : Int) : ∀ (f g : Nat) (k : Int), Good k → rk k ≤ f → rk k ≤ g → insR L n f k = insR L n g k
  | 0, 0, _, _, _, _ => rfl
  | 0, g + 1, k, hg, h0, _ => by
    have h1 : k = 1 := by
      by_cases e : k = 1
      · exact e
      · have := (hr k hg e).1; omega
    show (k == n) = if (k == n || k == 1) = true then k == n else insR L n g (upR L k)
    rw [if_pos (by simp [h1])]
  | f + 1, 0, k, hg, _, h0 => by
    have h1 : k = 1 := by
      by_cases e : k = 1
      · exact e
      · have := (hr k hg e).1; omega
    show (if (k == n || k == 1) = true then k == n else insR L n f (upR L k)) = (k == n)
    rw [if_pos (by simp [h1])]
  | f + 1, g + 1, k, hg, h1, h2 => by
    show (if (k == n || k == 1) = true then k == n else insR L n f (upR L k)) = (if (k == n || k == 1) = true then k == n else insR L n g (upR L k))
    by_cases e : (k == n || k == 1) = true
    · rw [if_pos e, if_pos e]
    · rw [if_neg e, if_neg e]
      have hk1 : k ≠ 1 := fun h => e (by simp [h])
      have h3 := hr k hg hk1
      exact ins_fuel hr n f g _ h3.2 (by omega) (by omega)
theorem ins_step {L : List NodeT} {last : Int} (h : WF L last) {rk : Int → Nat} (hr : ∀ x ∈ L, x.num ≠ 1 → rk x.up < rk x.num) {n : Int} {z : NodeT} (hz : z ∈ L) (h1 : z.num ≠ 1) (h2 : z.num ≠ n) : insR L n (rk z.num) z.num = insR L n (rk z.up) z.up := by
  have h3 := hr z hz h1
  obtain ⟨g, hg⟩ : ∃ g, rk z.num = g + 1 := ⟨rk z.num - 1, by omega⟩
  rw [hg]
  show (if (z.num == n || z.num == 1) = true then z.num == n else insR L n g (upR L z.num)) = _
  rw [if_neg (by simp [h1, h2])]
  have hu : upR L z.num = z.up := by unfold upR; rw [at_mem h hz rfl]
  rw [hu]
  obtain ⟨y, hy, e, _⟩ := h.ups z hz
  exact ins_fuel (ranked_R h hr) n g (rk z.up) z.up ⟨y, hy, e⟩ (by omega) (Nat.le_refl _)
section
variable {L : List NodeT} {last : Int} (h : WF L last) {x : NodeT} (hx : x ∈ L) (h1 : x.num ≠ 1) {to_ : Int} {as_ : Tx} (hk : (atR L to_).kind = 1) (hi : inR L to_ as_ = 0)
include h hx h1 hk hi
theorem wf_move (B : Int → Bool) (hB1 : B x.num = true) (hB2 : B to_ = false) (hB3 : ∀ z ∈ L, z.num ≠ 1 → z.num ≠ x.num → B z.num = B z.up) : WF (withR L (mvR x to_ as_)) last := by
  have hm := mem_with (L := L) (y := mvR x to_ as_) ⟨x, hx, rfl⟩
  have hno := no_name h hi
  have hnd : ((withR L (mvR x to_ as_)).map (·.num)).Nodup := by
    have : (withR L (mvR x to_ as_)).map (·.num) = L.map (·.num) := by
      unfold withR
      rw [List.map_map]
      exact List.map_congr_left fun z _ => with_num _ z
    rw [this]
    exact h.nodup
  have hup : ∀ d : Int, (∃ y ∈ L, y.num = d ∧ y.kind = 1) → ∃ y ∈ withR L (mvR x to_ as_), y.num = d ∧ y.kind = 1 := by
    rintro d ⟨y, hy, e1, e2⟩
    by_cases e : y.num = x.num
    · have := num_inj h.nodup hy hx e
      subst this
      exact ⟨_, (hm _).2 (.inl rfl), e1, e2⟩
    · exact ⟨y, (hm _).2 (.inr ⟨hy, e⟩), e1, e2⟩
  refine ⟨hnd, ?_, ?_, ?_, ?_, ?_, ?_⟩
  · intro z hz
    rcases (hm z).1 hz with rfl | ⟨hz, _⟩
    · exact h.nums x hx
    · exact h.nums z hz
  · obtain ⟨l, rfl⟩ := h.root
    refine ⟨l.map (withF (mvR x to_ as_)), ?_⟩
    unfold withR
    rw [List.map_cons]
    congr 1
    unfold withF
    rw [if_neg (by simpa [rootR] using Ne.symm h1)]
  · intro z hz
    rcases (hm z).1 hz with rfl | ⟨hz, _⟩
    · obtain ⟨y, hy, e1, e2, _⟩ := at_kind (L := L) (k := to_) (by rw [hk]; decide)
      exact hup _ ⟨y, hy, e1, by rw [← e2]; exact hk⟩
    · exact hup _ (h.ups z hz)
  · intro d
    refine names_nodup (hnd.sublist (List.filter_sublist.map _)) ?_
    intro a ha b hb e
    obtain ⟨ha1, ha2⟩ := List.mem_filter.1 ha
    obtain ⟨hb1, hb2⟩ := List.mem_filter.1 hb
    have ha3 := ha2
    have hb3 := hb2
    unfold listP at ha3 hb3
    simp only [Bool.and_eq_true, beq_iff_eq, bne_iff_ne] at ha3 hb3
    rcases (hm a).1 ha1 with rfl | ⟨hz, hne⟩ <;> rcases (hm b).1 hb1 with rfl | ⟨hw, hne2⟩
    · rfl
    · exact absurd e.symm (hno b hw (hb3.1.trans ha3.1.symm) hb3.2)
    · exact absurd e (hno a hz (ha3.1.trans hb3.1.symm) ha3.2)
    · rw [name_inj (h.names d) (List.mem_filter.2 ⟨hz, ha2⟩) (List.mem_filter.2 ⟨hw, hb2⟩) e]
  · intro z hz
    rcases (hm z).1 hz with rfl | ⟨hz, _⟩
    · exact h.kinds x hx
    · exact h.kinds z hz
  · obtain ⟨rk, hr⟩ := h.rank
    refine ⟨fun k => if B k = true then rk k + rk to_ + 1 else rk k, fun z hz hz1 => ?_⟩
    rcases (hm z).1 hz with rfl | ⟨hz, hne⟩
    · show (if B to_ = true then rk to_ + rk to_ + 1 else rk to_) < (if B x.num = true then rk x.num + rk to_ + 1 else rk x.num)
      rw [hB1, hB2, if_pos rfl, if_neg (by decide)]
      omega
    · have h2 := hr z hz hz1
      simp only
      rw [hB3 z hz hz1 hne]
      split <;> omega
theorem list_move (hw : WF (withR L (mvR x to_ as_)) last) (k : Int) :
    listR (withR L (mvR x to_ as_)) k = if k = to_ then putP (if k = x.up then cutP (listR L k) x.name else listR L k) (as_, x.num) else (if k = x.up then cutP (listR L k) x.name else listR L k) := by
  have hm := mem_with (L := L) (y := mvR x to_ as_) ⟨x, hx, rfl⟩
  have hno := no_name h hi
  have hxp : listP x.up x = true := by unfold listP; simp [h1]
  obtain ⟨l1, hl1⟩ : ∃ l1, (if k = x.up then cutP (listR L k) x.name else listR L k) = l1 := ⟨_, rfl⟩
  rw [hl1]
  have hr1 : rise l1 = true := by
    rw [← hl1]
    split
    · exact rise_cutP _ _
    · exact rise_listR _ _
  have hm1 : ∀ a, a ∈ l1 ↔ ∃ z ∈ L, listP k z = true ∧ z.num ≠ x.num ∧ a = (z.name, z.num) := by
    intro a
    rw [← hl1]
    by_cases e : k = x.up
    · subst e
      rw [if_pos rfl, mem_cutP (rise_listR _ _), mem_listR h]
      constructor
      · rintro ⟨⟨z, hz, hp, rfl⟩, hne⟩
        exact ⟨z, hz, hp, fun e2 => hne (by rw [num_inj h.nodup hz hx e2]), rfl⟩
      · rintro ⟨z, hz, hp, hne, rfl⟩
        refine ⟨⟨z, hz, hp, rfl⟩, fun e2 => hne ?_⟩
        have ha := (mem_listR h x.up (z.name, z.num)).2 ⟨z, hz, hp, rfl⟩
        have hb := (mem_listR h x.up (x.name, x.num)).2 ⟨x, hx, hxp, rfl⟩
        exact congrArg Prod.snd (rise_inj (pairwise_of_rise (rise_listR L x.up)) ha hb e2)
    · rw [if_neg e, mem_listR h]
      constructor
      · rintro ⟨z, hz, hp, rfl⟩
        refine ⟨z, hz, hp, fun e2 => e ?_, rfl⟩
        rw [num_inj h.nodup hz hx e2] at hp
        unfold listP at hp
        simp only [Bool.and_eq_true, beq_iff_eq] at hp
        exact hp.1.symm
      · rintro ⟨z, hz, hp, _, rfl⟩
        exact ⟨z, hz, hp, rfl⟩
  clear hl1
  by_cases e : k = to_
  · subst e
    rw [if_pos rfl]
    refine rise_eq (rise_listR _ _) (rise_putP _ _) fun a => ?_
    rw [mem_listR hw, mem_putP hr1, hm1]
    constructor
    · rintro ⟨z, hz, hp, rfl⟩
      rcases (hm z).1 hz with rfl | ⟨hz, hne⟩
      · exact .inl rfl
      · refine .inr ⟨⟨z, hz, hp, hne, rfl⟩, ?_⟩
        unfold listP at hp
        simp only [Bool.and_eq_true, beq_iff_eq, bne_iff_ne] at hp
        exact hno z hz hp.1 hp.2
    · rintro (rfl | ⟨⟨z, hz, hp, hne, rfl⟩, _⟩)
      · exact ⟨_, (hm _).2 (.inl rfl), by unfold listP; simp [h1], rfl⟩
      · exact ⟨z, (hm _).2 (.inr ⟨hz, hne⟩), hp, rfl⟩
  · rw [if_neg e]
    refine rise_eq (rise_listR _ _) hr1 fun a => ?_
    rw [mem_listR hw, hm1]
    constructor
    · rintro ⟨z, hz, hp, rfl⟩
      rcases (hm z).1 hz with rfl | ⟨hz, hne⟩
      · unfold listP at hp
        simp only [Bool.and_eq_true, beq_iff_eq] at hp
        exact absurd hp.1.symm e
      · exact ⟨z, hz, hp, hne, rfl⟩
    · rintro ⟨z, hz, hp, hne, rfl⟩
      exact ⟨z, (hm _).2 (.inr ⟨hz, hne⟩), hp, rfl⟩
end
/-- Nodes with other ways up and other entries. -/
def nodeW (L : List NodeT) (u : Int → Int → Int) (E : Int → List En) (k : Int) : Option PNode := (L.find? fun x => x.num == k).map fun z => ⟨z.kind, u k z.up, z.data, E k⟩
theorem rel_W (L : List NodeT) (last : Int) : relS L last = ⟨nodeW L (fun _ v => v) (listR L), last, L.length⟩ := rfl
theorem enter_W {L : List NodeT} {d : Int} {x : NodeT} (hd : L.find? (fun y => y.num == d) = some x) (u : Int → Int → Int) (E : Int → List En) (last : Int) (n : Nat) (l : List En) : enterS ⟨nodeW L u E, last, n⟩ d l = ⟨nodeW L u (fun k => if k = d then l else E k), last, n⟩ := by
  have hs : (nodeW L u E d).isSome = true := by unfold nodeW; rw [hd]; rfl
  unfold enterS setM
  simp only [hs, if_true]
  congr 1
  funext k
  by_cases e : k = d
  · subst e
    rw [upd_same]
    unfold nodeW
    rw [hd]
    simp [pn]
  · rw [upd_other _ _ e]
    unfold nodeW
    simp only [if_neg e]
theorem up_W {L : List NodeT} {d : Int} {x : NodeT} (hd : L.find? (fun y => y.num == d) = some x) (u : Int → Int → Int) (E : Int → List En) (last : Int) (n : Nat) (to_ : Int) : move2 ⟨nodeW L u E, last, n⟩ d to_ = ⟨nodeW L (fun k v => if k = d then to_ else u k v) E, last, n⟩ := by
  have hs : (nodeW L u E d).isSome = true := by unfold nodeW; rw [hd]; rfl
  unfold move2 setM
  simp only [hs, if_true]
  congr 1
  funext k
  by_cases e : k = d
  · subst e
    rw [upd_same]
    unfold nodeW
    rw [hd]
    simp [pn]
  · rw [upd_other _ _ e]
    unfold nodeW
    simp only [if_neg e]
theorem ents_W {L : List NodeT} {d : Int} {x : NodeT} (hd : L.find? (fun y => y.num == d) = some x) (u : Int → Int → Int) (E : Int → List En) : (pn (nodeW L u E d)).ents = E d := by
  unfold nodeW
  rw [hd]
  rfl
theorem rel_move {L : List NodeT} {last : Int} (h : WF L last) {x : NodeT} (hx : x ∈ L) (h1 : x.num ≠ 1) {to_ : Int} {as_ : Tx} (hk : (atR L to_).kind = 1) (hi : inR L to_ as_ = 0) (hw : WF (withR L (mvR x to_ as_)) last) :
    moveEnd (relS L last) x.num x.up x.name to_ as_ = relS (withR L (mvR x to_ as_)) last := by
  have hfx := find_num h.nodup hx rfl
  obtain ⟨y, hy, hy1, _⟩ := h.ups x hx
  have hfu := find_num h.nodup hy hy1
  obtain ⟨t, _, _, _, hft⟩ := at_kind (L := L) (k := to_) (by rw [hk]; decide)
  unfold moveEnd move3
  rw [rel_W L last, up_W hfx, enter_W hfu, enter_W hft]
  simp only
  rw [ents_W hft, ents_W hfu]
  unfold relS
  congr 1
  · funext k
    unfold nodeOf
    rw [find_with, list_move h hx h1 hk hi hw]
    unfold nodeW
    have hE : (if k = to_ then putP (if to_ = x.up then cutP (listR L x.up) x.name else listR L to_) (as_, x.num) else if k = x.up then cutP (listR L x.up) x.name else listR L k) = (if k = to_ then putP (if k = x.up then cutP (listR L k) x.name else listR L k) (as_, x.num) else (if k = x.up then cutP (listR L k) x.name else listR L k)) := by
      by_cases e : k = to_
      · subst e
        rw [if_pos rfl, if_pos rfl]
        by_cases e2 : k = x.up
        · subst e2; rfl
        · rw [if_neg e2, if_neg e2]
      · rw [if_neg e, if_neg e]
        by_cases e2 : k = x.up
        · subst e2; rfl
        · rw [if_neg e2, if_neg e2]
    dsimp only
    rw [hE]
    generalize (if k = to_ then putP (if k = x.up then cutP (listR L k) x.name else listR L k) (as_, x.num) else (if k = x.up then cutP (listR L k) x.name else listR L k)) = E
    by_cases e : k = x.num
    · subst e
      rw [hfx]
      simp [withF]
    · cases hg : L.find? (fun z => z.num == k) with
      | none => rfl
      | some z =>
        have h3 := List.find?_some hg
        simp only [beq_iff_eq] at h3
        have : withF (mvR x to_ as_) z = z := by
          unfold withF
          rw [if_neg (by simpa [h3] using e)]
        simp [this, e]
  · unfold withR; rw [List.length_map]
theorem cut_same {L : List NodeT} {d : Int} {s : Tx} (h : (cutR L d s).2 ≠ 0) : (cutR L d s).1 = L := by
  unfold cutR at h ⊢
  split
  · rfl
  · split
    · rfl
    · split
      · rfl
      · rename_i a b c
        rw [if_neg a, if_neg b, if_neg c] at h
        exact absurd rfl h
theorem cut_less {L : List NodeT} {d : Int} {s : Tx} (h : (cutR L d s).2 = 0) : (cutR L d s).1 = lessR L (inR L d s) ∧ inR L d s ≠ 0 ∧ listR L (inR L d s) = [] := by
  unfold cutR at h ⊢
  split at h
  · rename_i a; exact absurd h a
  · split at h
    · cases h
    · split at h
      · cases h
      · rename_i a b c
        rw [if_neg a, if_neg b, if_neg c]
        exact ⟨rfl, b, by simpa using c⟩
theorem in_pos {L : List NodeT} {last : Int} (h : WF L last) {d : Int} {s : Tx} (hi : inR L d s ≠ 0) : 0 < inR L d s := by
  obtain ⟨x, hx, e, _⟩ := in_node hi
  have := h.nums x hx
  omega


theorem move_rel {L : List NodeT} {last : Int} (h : WF L last) {rk : Int → Nat} (hr : ∀ x ∈ L, x.num ≠ 1 → rk x.up < rk x.num) (from_ : Int) (s : Tx) (to_ : Int) (as_ : Tx) :
    moveS (relS L last) rk from_ s to_ as_ = (relS (moveR L (rk to_) from_ s to_ as_).1 last, (moveR L (rk to_) from_ s to_ as_).2) ∧ WF (moveR L (rk to_) from_ s to_ as_).1 last ∧ (moveR L (rk to_) from_ s to_ as_).1.length ≤ L.length := by
  unfold moveS moveR
  rw [dir_rel h, dir_rel h]
  by_cases hd : dirR L from_ ≠ 0
  · rw [if_pos hd, if_pos hd]; exact ⟨rfl, h, Nat.le_refl _⟩
  rw [if_neg hd, if_neg hd]
  by_cases hd2 : dirR L to_ ≠ 0
  · rw [if_pos hd2, if_pos hd2]; exact ⟨rfl, h, Nat.le_refl _⟩
  rw [if_neg hd2, if_neg hd2]
  have hk := dir_kind (L := L) (d := from_) (by simpa using hd)
  have hk2 := dir_kind (L := L) (d := to_) (by simpa using hd2)
  rw [find_rel h hk]
  by_cases hi : inR L from_ s = 0
  · rw [if_pos (by simp [hi]), if_pos hi]; exact ⟨rfl, h, Nat.le_refl _⟩
  rw [if_neg (by simp [hi]), if_neg hi]
  by_cases hc : checkI as_ ≠ 0
  · rw [if_pos hc, if_pos hc]; exact ⟨rfl, h, Nat.le_refl _⟩
  rw [if_neg hc, if_neg hc]
  simp only
  rw [kind_rel h, insF_rel h]
  obtain ⟨x, hx, hn, hu, hs, h1⟩ := in_node hi
  rw [← hn, at_mem h hx rfl]
  by_cases hb : (x.kind == 1 && insR L x.num (rk to_) to_) = true
  · rw [if_pos hb, if_pos hb]; exact ⟨rfl, h, Nat.le_refl _⟩
  rw [if_neg hb, if_neg hb]
  clear hn hi hd hd2 hc hk
  subst hu hs
  have hx0 := (h.nums x hx).1
  have hB : ∃ B : Int → Bool, B x.num = true ∧ B to_ = false ∧ ∀ z ∈ L, z.num ≠ 1 → z.num ≠ x.num → B z.num = B z.up := by
    by_cases hxk : x.kind = 1
    · refine ⟨fun k => insR L x.num (rk k) k, ins_self _ _ _, ?_, fun z hz hz1 hz2 => ins_step h hr hz hz1 hz2⟩
      simpa [hxk] using hb
    · have hno : ∀ y ∈ L, y.kind = 1 → y.num ≠ x.num := fun y hy e e2 => hxk (by rw [← num_inj h.nodup hy hx e2]; exact e)
      refine ⟨fun k => k == x.num, by simp, ?_, fun z hz hz1 hz2 => ?_⟩
      · obtain ⟨t, ht, e, e2, _⟩ := at_kind (L := L) (k := to_) (by rw [hk2]; decide)
        have := hno t ht (by rw [← e2]; exact hk2)
        rw [e] at this
        simpa using this
      · obtain ⟨y, hy, e, e2⟩ := h.ups z hz
        have := hno y hy e2
        rw [e] at this
        have a : (z.num == x.num) = false := by simpa using hz2
        have b : (z.up == x.num) = false := by simpa using this
        simp only [a, b]
  clear hb
  obtain ⟨B, hB1, hB2, hB3⟩ := hB
  rw [room_rel h x.num hk2]
  unfold moveX
  have hat := at_mem h hx rfl
  by_cases ho : inR L to_ as_ = 0
  · rw [if_pos ho, ho, if_neg (show ¬ (0 : Int) = x.num by omega), if_neg (show ¬ (0 : Int) < 0 by decide)]
    have hw := wf_move h hx h1 hk2 ho B hB1 hB2 hB3
    refine ⟨?_, hw, by unfold withR; simp⟩
    simp only [Bool.false_or]
    rw [if_neg (by decide)]
    exact congrArg (fun S => (S, (0 : Int))) (rel_move h hx h1 hk2 ho hw)
  rw [if_neg ho]
  by_cases hon : inR L to_ as_ = x.num
  · rw [if_pos hon, if_pos hon]
    refine ⟨?_, h, Nat.le_refl _⟩
    simp only [Bool.true_or, if_true]
  rw [if_neg hon, if_neg hon, if_pos (in_pos h ho), hat]
  by_cases h8 : (atR L (inR L to_ as_)).kind = 1 ∧ x.kind ≠ 1
  · rw [if_pos h8, if_pos h8]
    refine ⟨?_, h, Nat.le_refl _⟩
    simp only [Bool.false_or]
    rw [if_pos (by decide)]
  rw [if_neg h8, if_neg h8]
  by_cases h7 : x.kind = 1 ∧ (atR L (inR L to_ as_)).kind ≠ 1
  · rw [if_pos h7, if_pos (show (atR L (inR L to_ as_)).kind ≠ 1 ∧ x.kind = 1 from ⟨h7.2, h7.1⟩)]
    refine ⟨?_, h, Nat.le_refl _⟩
    simp only [Bool.false_or]
    rw [if_pos (by decide)]
  rw [if_neg h7, if_neg (show ¬ ((atR L (inR L to_ as_)).kind ≠ 1 ∧ x.kind = 1) from fun a => h7 ⟨a.2, a.1⟩)]
  by_cases hf : (cutR L to_ as_).2 ≠ 0
  · rw [if_pos hf]
    refine ⟨?_, h, Nat.le_refl _⟩
    simp only [Bool.false_or]
    rw [if_pos (by simpa using hf), cut_same hf]
  rw [if_neg hf]
  simp only [Bool.false_or]
  rw [if_neg (by simpa using hf)]
  obtain ⟨hl, _, he⟩ := cut_less (by simpa using hf)
  obtain ⟨o, hoL, hon2, hou, hos, ho1⟩ := in_node ho
  rw [hl, ← hon2]
  rw [← hon2] at he hon
  have hw1 := wf_less h hoL ho1 he
  have hx1 : x ∈ lessR L o.num := by unfold lessR; rw [List.mem_filter, bne_iff_ne]; exact ⟨hx, Ne.symm hon⟩
  have hto : to_ ≠ o.num := by
    intro e
    have := hr o hoL ho1
    rw [hou, e] at this
    omega
  have hk3 : (atR (lessR L o.num) to_).kind = 1 := by unfold atR at hk2 ⊢; rw [find_less hto]; exact hk2
  have hi3 : inR (lessR L o.num) to_ as_ = 0 := by
    by_cases e : inR (lessR L o.num) to_ as_ = 0
    · exact e
    · obtain ⟨q, hq, _, hqu, hqs, hq1⟩ := in_node e
      unfold lessR at hq
      rw [List.mem_filter, bne_iff_ne] at hq
      refine absurd ?_ hq.2
      rw [name_inj (h.names to_) (List.mem_filter.2 ⟨hq.1, by unfold listP; simp [hqu, hq1]⟩) (List.mem_filter.2 ⟨hoL, by unfold listP; simp [hou, ho1]⟩) (hqs.trans hos.symm)]
  have hw := wf_move hw1 hx1 h1 hk3 hi3 B hB1 hB2 fun z hz => by
    unfold lessR at hz
    exact hB3 z (List.mem_filter.1 hz).1
  refine ⟨?_, hw, ?_⟩
  · exact congrArg (fun S => (S, (0 : Int))) (rel_move hw1 hx1 h1 hk3 hi3 hw)
  · unfold withR lessR
    rw [List.length_map]
    exact List.length_filter_le _ _
end Go.Proofs.Ytmjggjccmbiheab
