/- What the reference's fold over items comes to, in plain words. -/
import Derived.Test.YtmjggjccmbiheaaStowPlain
namespace Go.Proofs.Ytmjggjccmbiheaa
open Go.RowKit Go.Proofs Go.Sort

structure StT where
  kind : Int
  tg : Bool
  c : CmdT
def stepC (st : StT) (x : ItemT) : StT :=
  if x.long = [] then { st with c := { st.c with deals := st.c.deals ++ [(st.kind, x.vals.headD [])] } }
  else if x.long = dirT then { st with c := { st.c with dir := cleanS (x.vals.headD []) } }
  else if x.long = targetT then { st with tg := true, c := { st.c with target := cleanS (x.vals.headD []) } }
  else if x.long = stowT then { st with kind := 1 }
  else if x.long = deleteT then { st with kind := 2 }
  else if x.long = restowT then { st with kind := 3 }
  else if x.long = simT then { st with c := { st.c with sim := true } }
  else if x.long = quietT then { st with c := { st.c with quiet := true } }
  else if x.long = adoptT then { st with c := { st.c with adopt := true } }
  else if x.long = nofoldT then { st with c := { st.c with fold := false } }
  else if x.long = dotsT then { st with c := { st.c with dots := true } }
  else if x.long = ignoreT then { st with c := { st.c with ign := st.c.ign ++ [x.vals.headD []] } }
  else if x.long = deferT then { st with c := { st.c with defr := st.c.defr ++ [x.vals.headD []] } }
  else if x.long = overT then { st with c := { st.c with over := st.c.over ++ [x.vals.headD []] } }
  else st
def startC : StT := ⟨1, false, { dir := [47], target := [], fold := true, dots := false, adopt := false, ign := [], defr := [], over := [], deals := [], sim := false, quiet := false }⟩
def foldC (l : List ItemT) : StT := l.foldl stepC startC
theorem foldC_snoc (l : List ItemT) (x : ItemT) : foldC (l ++ [x]) = stepC (foldC l) x := by unfold foldC; rw [List.foldl_append]; rfl
def endC (st : StT) : CmdT := if st.tg then st.c else { st.c with target := dirS st.c.dir }

theorem values_snoc (l : List ItemT) (x : ItemT) (t : Tx) : valuesS (l ++ [x]) t = valuesS l t ++ if x.long = t then x.vals else [] := by
  unfold valuesS
  rw [List.filter_append, List.flatMap_append, List.filter_cons]
  by_cases h : x.long = t
  · simp [h]
  · simp [h]
theorem has_snoc (l : List ItemT) (x : ItemT) (t : Tx) (ht : t ≠ []) : hasS (l ++ [x]) t = (hasS l t || decide (x.long = t)) := by
  unfold hasS
  have : (t == []) = false := by simpa using ht
  rw [this, List.any_append]
  simp only [List.any_cons, List.any_nil, Bool.or_false, Bool.not_false, Bool.true_and]
  by_cases h : x.long = t <;> simp [h]
theorem last_snoc_ne (l : List ItemT) (x : ItemT) (t o : Tx) (h : x.long ≠ t) : lastS (l ++ [x]) t o = lastS l t o := by
  unfold lastS
  rw [values_snoc, if_neg h, List.append_nil]
theorem last_snoc_eq (l : List ItemT) (t v o : Tx) : lastS (l ++ [⟨t, [v]⟩]) t o = cleanS v := by
  unfold lastS
  rw [values_snoc, if_pos rfl, List.getLast?_append]
  rfl
structure InvR (l : List ItemT) (st : StT) : Prop where
  kind : st.kind = (foldD l).1
  deals : st.c.deals = (foldD l).2
  dir : st.c.dir = lastS l dirT [47]
  tgt : ∀ o, (if st.tg then st.c.target else o) = lastS l targetT o
  fold : st.c.fold = !hasS l nofoldT
  dots : st.c.dots = hasS l dotsT
  adopt : st.c.adopt = hasS l adoptT
  ign : st.c.ign = valuesS l ignoreT
  defr : st.c.defr = valuesS l deferT
  over : st.c.over = valuesS l overT
  sim : st.c.sim = hasS l simT
  quiet : st.c.quiet = hasS l quietT
theorem inv_start : InvR [] startC := ⟨rfl, rfl, rfl, fun _ => rfl, rfl, rfl, rfl, rfl, rfl, rfl, rfl, rfl⟩
set_option maxHeartbeats 4000000 in
theorem inv_step {l : List ItemT} {st : StT} (h : InvR l st) {x : ItemT} (hx : okI stowL x) : InvR (l ++ [x]) (stepC st x) := by
  obtain ⟨a1, a2, a3, a4, a5, a6, a7, a8, a9, a10, a11, a12⟩ := h
  obtain ⟨k, tg, ⟨c1, c2, c3, c4, c5, c6, c7, c8, c9, c10, c11⟩⟩ := st
  simp only at a1 a2 a3 a4 a5 a6 a7 a8 a9 a10 a11 a12
  subst a1 a2 a3 a5 a6 a7 a8 a9 a10 a11 a12
  obtain ⟨lo, vs⟩ := x
  have one : vs.length = 1 → ∃ v, vs = [v] := fun h => by
    match vs, h with
    | [v], _ => exact ⟨v, rfl⟩
  have h1 : ∀ t, t ≠ lo → valuesS (l ++ [⟨lo, vs⟩]) t = valuesS l t := fun t ht => by rw [values_snoc, if_neg (fun e => ht e.symm), List.append_nil]
  have h2 : ∀ t, t ≠ [] → t ≠ lo → hasS (l ++ [⟨lo, vs⟩]) t = hasS l t := fun t h0 ht => by rw [has_snoc _ _ _ h0, decide_eq_false (fun e => ht e.symm), Bool.or_false]
  have h3 : ∀ t o, t ≠ lo → lastS (l ++ [⟨lo, vs⟩]) t o = lastS l t o := fun t o ht => last_snoc_ne _ _ _ _ (fun e => ht e.symm)
  have h4 : ∀ t, t ≠ [] → t = lo → hasS (l ++ [⟨lo, vs⟩]) t = true := fun t h0 ht => by rw [has_snoc _ _ _ h0, decide_eq_true ht.symm, Bool.or_true]
  have hk : foldD (l ++ [⟨lo, vs⟩]) = (kindOf lo (foldD l).1, if lo == [] then (foldD l).2 ++ [(kindOf lo (foldD l).1, vs.headD [])] else (foldD l).2) := foldD_snoc l _
  rcases hx with ⟨e1, e2⟩ | ⟨s, hs, e1, _, e2⟩
  · simp only at e1 e2
    subst e1
    obtain ⟨v, rfl⟩ := one e2
    refine ⟨?_, ?_, ?_, ?_, ?_, ?_, ?_, ?_, ?_, ?_, ?_, ?_⟩
    · rw [hk]; rfl
    · rw [hk]; rfl
    · rw [h3 _ _ (by decide)]; rfl
    · intro o; rw [h3 _ _ (by decide)]; exact a4 o
    · rw [h2 _ (by decide) (by decide)]; rfl
    · rw [h2 _ (by decide) (by decide)]; rfl
    · rw [h2 _ (by decide) (by decide)]; rfl
    · rw [h1 _ (by decide)]; rfl
    · rw [h1 _ (by decide)]; rfl
    · rw [h1 _ (by decide)]; rfl
    · rw [h2 _ (by decide) (by decide)]; rfl
    · rw [h2 _ (by decide) (by decide)]; rfl
  · simp only at e1 e2
    subst e1
    have hs' := hs
    simp only [stowL, List.mem_cons, List.not_mem_nil, or_false] at hs'
    have h5 : ∀ t v, t = s.long → vs = [v] → valuesS (l ++ [⟨s.long, vs⟩]) t = valuesS l t ++ [v] := fun t v ht hv => by rw [values_snoc, if_pos ht.symm]; rw [hv]
    have h6 : ∀ t v o, t = s.long → vs = [v] → lastS (l ++ [⟨s.long, vs⟩]) t o = cleanS v := fun t v o ht hv => by subst ht; subst hv; exact last_snoc_eq _ _ _ _
    rcases hs' with rfl | rfl | rfl | rfl | rfl | rfl | rfl | rfl | rfl | rfl | rfl | rfl | rfl
    all_goals simp only at hk h1 h2 h3 h4 h5 h6
    all_goals
      refine ⟨?_, ?_, ?_, ?_, ?_, ?_, ?_, ?_, ?_, ?_, ?_, ?_⟩
      · rw [hk]; rfl
      · rw [hk]; rfl
      · first
          | (rw [h3 _ _ (by decide)]; rfl)
          | (obtain ⟨v, rfl⟩ := one e2; rw [h6 _ v _ rfl rfl]; rfl)
      · intro o
        first
          | (rw [h3 _ _ (by decide)]; exact a4 o)
          | (obtain ⟨v, rfl⟩ := one e2; rw [h6 _ v _ rfl rfl]; rfl)
      · first
          | (rw [h2 _ (by decide) (by decide)]; rfl)
          | (rw [h4 _ (by decide) rfl]; rfl)
      · first
          | (rw [h2 _ (by decide) (by decide)]; rfl)
          | (rw [h4 _ (by decide) rfl]; rfl)
      · first
          | (rw [h2 _ (by decide) (by decide)]; rfl)
          | (rw [h4 _ (by decide) rfl]; rfl)
      · first
          | (rw [h1 _ (by decide)]; rfl)
          | (obtain ⟨v, rfl⟩ := one e2; rw [h5 _ v rfl rfl]; rfl)
      · first
          | (rw [h1 _ (by decide)]; rfl)
          | (obtain ⟨v, rfl⟩ := one e2; rw [h5 _ v rfl rfl]; rfl)
      · first
          | (rw [h1 _ (by decide)]; rfl)
          | (obtain ⟨v, rfl⟩ := one e2; rw [h5 _ v rfl rfl]; rfl)
      · first
          | (rw [h2 _ (by decide) (by decide)]; rfl)
          | (rw [h4 _ (by decide) rfl]; rfl)
      · first
          | (rw [h2 _ (by decide) (by decide)]; rfl)
          | (rw [h4 _ (by decide) rfl]; rfl)
theorem inv_fold : ∀ (l : List ItemT) (acc : List ItemT), (∀ x ∈ l, okI stowL x) → InvR acc (foldC acc) → InvR (acc ++ l) (foldC (acc ++ l))
  | [], acc, _, h => by rw [List.append_nil]; exact h
  | x :: l, acc, hl, h => by
    have := inv_fold l (acc ++ [x]) (fun y hy => hl y (List.mem_cons_of_mem _ hy)) (by rw [foldC_snoc]; exact inv_step h (hl x (by simp)))
    rwa [List.append_assoc] at this
/-- The fold's end is what stow's words say. -/
theorem endC_eq {l : List ItemT} (hl : ∀ x ∈ l, okI stowL x) : endC (foldC l) = cmdT l := by
  have h := inv_fold l [] hl inv_start
  rw [List.nil_append] at h
  obtain ⟨a1, a2, a3, a4, a5, a6, a7, a8, a9, a10, a11, a12⟩ := h
  have ht := a4 (dirS (foldC l).c.dir)
  unfold endC cmdT dealsT
  rw [← a2, ← a5, ← a6, ← a7, ← a8, ← a9, ← a10, ← a11, ← a12, ← a3, ← ht]
  split <;> rfl
/-- What is there of an item that stow's words make. -/
theorem okI_vals {x : ItemT} (h : okI stowL x) : (x.long = [] ∨ x.long = dirT ∨ x.long = targetT ∨ x.long = ignoreT ∨ x.long = deferT ∨ x.long = overT) → ∃ v, x.vals = [v] := by
  have one : x.vals.length = 1 → ∃ v, x.vals = [v] := fun h => by
    match x.vals, h with
    | [v], _ => exact ⟨v, rfl⟩
  intro hx
  rcases h with ⟨_, e2⟩ | ⟨s, hs, e1, e0, e2⟩
  · exact one e2
  · have hs' := hs
    simp only [stowL, List.mem_cons, List.not_mem_nil, or_false] at hs'
    rw [e1] at hx
    rcases hs' with rfl | rfl | rfl | rfl | rfl | rfl | rfl | rfl | rfl | rfl | rfl | rfl | rfl
    all_goals first | exact one e2 | exact absurd hx (by decide)
end Go.Proofs.Ytmjggjccmbiheaa
