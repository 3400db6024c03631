/- Ways in plain words: parts that are good, the way from parts to parts, how long it is. -/
import Derived.Test.YtmjggjccmbiheaaRelEnd
namespace Go.Proofs.Ytmjggjccmbiheaa
open Go.RowKit Go.Proofs Go.Sort

theorem split_noslash : ∀ l : Tx, ∀ p ∈ split l, p.contains 47 = false
  | [], p, h => by simp [split] at h; subst h; rfl
  | c :: l, p, h => by
    have ih := split_noslash l
    unfold split at h
    split at h
    · rcases List.mem_cons.1 h with rfl | h
      · rfl
      · exact ih p h
    · rename_i hc
      split at h
      · rename_i x t e
        rw [e] at ih
        rcases List.mem_cons.1 h with rfl | h
        · rw [List.contains_cons, ih x (by simp), Bool.or_false, beq_eq_false_iff_ne]
          rintro rfl
          exact hc rfl
        · exact ih p (by simp [h])
      · rename_i e; exact absurd e (split_ne l)
theorem split_cons (c : UInt8) (l : Tx) : split (c :: l) = if c == 47 then [] :: split l else match split l with
    | h :: t => (c :: h) :: t
    | [] => [[c]] := rfl
theorem split_slash : ∀ a b : Tx, split (a ++ 47 :: b) = split a ++ split b
  | [], b => by simp [split]
  | c :: a, b => by
    have ih := split_slash a b
    rw [List.cons_append, split_cons, split_cons c a]
    by_cases hc : c == 47
    · rw [if_pos hc, if_pos hc, ih]; rfl
    · rw [if_neg hc, if_neg hc, ih]
      cases e : split a with
      | nil => exact absurd e (split_ne a)
      | cons h t => rfl
theorem split_self {p : Tx} (h : p.contains 47 = false) : split p = [p] := by
  rw [split_step, h, one_self h]; rfl
theorem partsL_slash (a b : Tx) : partsL (a ++ 47 :: b) = partsL a ++ partsL b := by
  unfold partsL; rw [split_slash, List.filter_append]
theorem partsL_lead (b : Tx) : partsL (47 :: b) = partsL b := by
  have := partsL_slash [] b
  rw [partsL_nil] at this
  exact this

/-- A part: not empty, no dot alone, no slash in it. -/
def goodP (p : Tx) : Prop := okP p = true ∧ p.contains 47 = false
def goodL (l : List Tx) : Prop := ∀ p ∈ l, goodP p
def noUp (l : List Tx) : Prop := ∀ p ∈ l, p ≠ [46, 46]
theorem good_up : goodP [46, 46] := by unfold goodP; decide
theorem good_partsL (s : Tx) : goodL (partsL s) := fun p h => by
  unfold partsL at h
  rw [List.mem_filter] at h
  exact ⟨h.2, split_noslash s p h.1⟩
theorem joinS_cons (x y : Tx) (l : List Tx) : joinS (x :: y :: l) = x ++ 47 :: joinS (y :: l) := by
  unfold joinS Lib.join
  rw [List.intercalate_cons_cons]
  simp
theorem joinS_one (x : Tx) : joinS [x] = x := by simp [joinS, Lib.join]
theorem split_joinS : ∀ (l : List Tx), goodL l → l ≠ [] → split (joinS l) = l
  | [], _, h => absurd rfl h
  | [x], h, _ => by rw [joinS_one, split_self (h x (by simp)).2]
  | x :: y :: l, h, _ => by
    rw [joinS_cons, split_slash, split_self (h x (by simp)).2, split_joinS (y :: l) (fun p hp => h p (List.mem_cons_of_mem _ hp)) (by simp)]
    rfl
theorem partsL_joinS {l : List Tx} (h : goodL l) : partsL (joinS l) = l := by
  by_cases h0 : l = []
  · subst h0; exact partsL_nil
  · unfold partsL
    rw [split_joinS l h h0, List.filter_eq_self]
    exact fun p hp => (h p hp).1
theorem partsL_dot : partsL [46] = [] := by decide

theorem step_good {out : List Tx} {p : Tx} (h : goodL out) (hp : goodP p) : goodL (cleanStep out p) := by
  unfold cleanStep
  split
  · exact fun q hq => h q ((List.dropLast_subset _ hq))
  · intro q hq
    rcases List.mem_append.1 hq with hq | hq
    · exact h q hq
    · rw [List.mem_singleton.1 hq]; exact hp
theorem step_noUp {out : List Tx} {p : Tx} (h : noUp out) : noUp (cleanStep out p) := by
  unfold cleanStep
  split
  · exact fun q hq => h q ((List.dropLast_subset _ hq))
  · rename_i hp
    intro q hq
    rcases List.mem_append.1 hq with hq | hq
    · exact h q hq
    · rw [List.mem_singleton.1 hq]; rintro rfl; exact hp rfl
theorem fold_good : ∀ (l out : List Tx), goodL out → goodL l → goodL (l.foldl cleanStep out)
  | [], _, h, _ => h
  | p :: l, out, h, hl => fold_good l _ (step_good h (hl p (by simp))) (fun q hq => hl q (List.mem_cons_of_mem _ hq))
theorem fold_noUp : ∀ (l out : List Tx), noUp out → noUp (l.foldl cleanStep out)
  | [], _, h => h
  | _ :: l, _, h => fold_noUp l _ (step_noUp h)
/-- A clean path's parts. -/
def pathP (s : Tx) : List Tx := cleanP (partsL s)
theorem good_pathP (s : Tx) : goodL (pathP s) := fold_good _ _ (by intro p hp; cases hp) (good_partsL s)
theorem noUp_pathP (s : Tx) : noUp (pathP s) := fold_noUp _ _ (by intro p hp; cases hp)
theorem cleanS_eq (s : Tx) : cleanS s = 47 :: joinS (pathP s) := rfl
theorem partsL_cleanS (s : Tx) : partsL (cleanS s) = pathP s := by
  rw [cleanS_eq, partsL_lead, partsL_joinS (good_pathP s)]
theorem cleanS_inj {a b : Tx} (h : cleanS a = cleanS b) : pathP a = pathP b := by
  rw [← partsL_cleanS a, h, partsL_cleanS]

/-- How many parts two lists begin with alike. -/
def common : List Tx → List Tx → Nat
  | x :: a, y :: b => if x == y then common a b + 1 else 0
  | [], _ => 0
  | _ :: _, [] => 0
theorem common_le : ∀ a b : List Tx, common a b ≤ a.length ∧ common a b ≤ b.length
  | x :: a, y :: b => by
    have := common_le a b
    unfold common
    split <;> simp <;> omega
  | [], _ => by simp [common]
  | _ :: _, [] => by simp [common]
theorem common_take : ∀ a b : List Tx, a.take (common a b) = b.take (common a b)
  | x :: a, y :: b => by
    unfold common
    split
    · rename_i h
      rw [List.take_succ_cons, List.take_succ_cons, common_take a b, eq_of_beq h]
    · rfl
  | [], _ => by simp [common]
  | _ :: _, [] => by simp [common]
theorem common_of : ∀ (k : Nat) (a b : List Tx), k ≤ a.length → k ≤ b.length → a.take k = b.take k → (∀ (h1 : k < a.length) (h2 : k < b.length), a[k] ≠ b[k]) → common a b = k
  | 0, [], _, _, _, _, _ => by simp [common]
  | 0, _ :: _, [], _, _, _, _ => by simp [common]
  | 0, x :: a, y :: b, _, _, _, h => by
    unfold common
    rw [if_neg]
    have := h (by simp) (by simp)
    simpa using this
  | k + 1, [], _, h1, _, _, _ => by simp at h1
  | k + 1, _ :: _, [], _, h2, _, _ => by simp at h2
  | k + 1, x :: a, y :: b, h1, h2, h3, h4 => by
    rw [List.take_succ_cons, List.take_succ_cons, List.cons.injEq] at h3
    unfold common
    rw [if_pos (by simp [h3.1]), common_of k a b (by simpa using h1) (by simpa using h2) h3.2 (fun u v => h4 (by simpa using u) (by simpa using v))]
theorem common_self : ∀ a : List Tx, common a a = a.length
  | [] => rfl
  | x :: a => by unfold common; rw [if_pos (by simp), common_self a]; rfl
theorem common_snoc : ∀ (a b : List Tx) (p : Tx), common a b ≤ common (a ++ [p]) b ∧ common (a ++ [p]) b ≤ common a b + 1
  | [], [], p => by simp [common]
  | [], y :: b, p => by
    show common [] (y :: b) ≤ common [p] (y :: b) ∧ common [p] (y :: b) ≤ common [] (y :: b) + 1
    unfold common
    split <;> simp [common]
  | x :: a, [], p => by simp [common]
  | x :: a, y :: b, p => by
    have ih := common_snoc a b p
    rw [List.cons_append]
    unfold common
    split <;> omega

/-- The way from parts to parts. -/
def wayP (a b : List Tx) : List Tx := List.replicate (a.length - common a b) [46, 46] ++ b.drop (common a b)
theorem wayP_len (a b : List Tx) : (wayP a b).length = (a.length - common a b) + (b.length - common a b) := by simp [wayP]
theorem fold_ups : ∀ (m : Nat) (a : List Tx), (List.replicate m ([46, 46] : Tx)).foldl cleanStep a = a.take (a.length - m)
  | 0, a => by simp
  | m + 1, a => by
    rw [List.replicate_succ, List.foldl_cons, fold_ups m]
    have : cleanStep a [46, 46] = a.dropLast := rfl
    rw [this, List.dropLast_eq_take, List.take_take, List.length_take]
    congr 1
    omega
theorem fold_noups : ∀ (l out : List Tx), noUp l → l.foldl cleanStep out = out ++ l
  | [], out, _ => by simp
  | p :: l, out, h => by
    have hp : cleanStep out p = out ++ [p] := by
      unfold cleanStep
      rw [if_neg]
      have := h p (by simp)
      simpa using this
    rw [List.foldl_cons, hp, fold_noups l _ (fun q hq => h q (List.mem_cons_of_mem _ hq))]
    simp
/-- The way ends there. -/
theorem way_ends (a b : List Tx) (h : noUp b) : (wayP a b).foldl cleanStep a = b := by
  have hc := common_le a b
  unfold wayP
  rw [List.foldl_append, fold_ups, fold_noups _ _ (fun p hp => h p (List.mem_of_mem_drop hp)), show a.length - (a.length - common a b) = common a b by omega, common_take, List.take_append_drop]
theorem dist_step (a b : List Tx) (p : Tx) : (wayP a b).length ≤ (wayP (cleanStep a p) b).length + 1 := by
  rw [wayP_len, wayP_len]
  have hc := common_le a b
  unfold cleanStep
  split
  · rcases List.eq_nil_or_concat a with rfl | ⟨x, q, rfl⟩
    · simp
    · rw [List.concat_eq_append, List.dropLast_concat]
      have h1 := common_snoc x b q
      have h2 := common_le x b
      rw [List.concat_eq_append] at hc
      simp only [List.length_append, List.length_singleton] at hc ⊢
      omega
  · have h1 := common_snoc a b p
    have h2 := common_le (a ++ [p]) b
    simp only [List.length_append, List.length_singleton] at h2 ⊢
    omega
/-- None is shorter. -/
theorem way_least : ∀ (t a : List Tx), (wayP a (t.foldl cleanStep a)).length ≤ t.length
  | [], a => by rw [wayP_len]; simp [common_self]
  | p :: t, a => by
    have h1 := way_least t (cleanStep a p)
    have h2 := dist_step a (t.foldl cleanStep (cleanStep a p)) p
    rw [List.foldl_cons, List.length_cons]
    omega

def relP (dir s : Tx) : List Tx := wayP (pathP dir) (pathP s)
def relS (dir s : Tx) : Tx := if relP dir s = [] then [46] else joinS (relP dir s)
theorem good_relP (dir s : Tx) : goodL (relP dir s) := by
  intro p hp
  unfold relP wayP at hp
  rcases List.mem_append.1 hp with hp | hp
  · rw [List.eq_of_mem_replicate hp]; exact good_up
  · exact good_pathP s p (List.mem_of_mem_drop hp)
theorem partsL_relS (dir s : Tx) : partsL (relS dir s) = relP dir s := by
  unfold relS
  split
  · rename_i h; rw [h, partsL_dot]
  · exact partsL_joinS (good_relP dir s)
theorem relS_dot (dir s : Tx) : (relS dir s = [46]) ↔ relP dir s = [] := by
  constructor
  · intro h
    rw [← partsL_relS, h, partsL_dot]
  · intro h; unfold relS; rw [if_pos h]
theorem joinS_lead : ∀ (l : List Tx), goodL l → l ≠ [] → ∃ c r, joinS l = c :: r ∧ c ≠ 47
  | [], _, h => absurd rfl h
  | x :: l, h, _ => by
    have hx := h x (by simp)
    cases x with
    | nil => exact absurd hx.1 (by decide)
    | cons c r =>
      have hc : c ≠ 47 := by
        rintro rfl
        have := hx.2
        simp at this
      cases l with
      | nil => exact ⟨c, r, joinS_one _, hc⟩
      | cons y l => exact ⟨c, _, by rw [joinS_cons]; rfl, hc⟩
theorem wayB_relS (dir s : Tx) : wayB (relS dir s) = true := by
  have h : ∃ c r, relS dir s = c :: r ∧ c ≠ 47 := by
    unfold relS
    split
    · exact ⟨46, [], rfl, by decide⟩
    · rename_i h0
      exact joinS_lead _ (good_relP dir s) h0
  obtain ⟨c, r, e, hc⟩ := h
  unfold wayB
  rw [e, slash_cons, beq_eq_false_iff_ne.2 hc]
  rfl
theorem slashB_relS (dir s : Tx) : slashB (relS dir s) = false := by
  have h := wayB_relS dir s
  unfold wayB at h
  simp only [Bool.and_eq_true, Bool.not_eq_true'] at h
  exact h.2
theorem pathP_slash (a b : Tx) : pathP (a ++ 47 :: b) = (partsL b).foldl cleanStep (pathP a) := by
  unfold pathP cleanP
  rw [partsL_slash, List.foldl_append]
theorem rel_ends (dir s : Tx) : joinD dir (relS dir s) = cleanS s := by
  unfold joinD
  rw [slashB_relS, if_neg (by decide), cleanS_eq, cleanS_eq, pathP_slash, partsL_relS, relP, way_ends _ _ (noUp_pathP s)]
theorem rel_least (dir s text : Tx) (hw : wayB text = true) (h : joinD dir text = cleanS s) : (relP dir s).length ≤ (partsL text).length := by
  have hs : slashB text = false := by
    unfold wayB at hw
    simp only [Bool.and_eq_true, Bool.not_eq_true'] at hw
    exact hw.2
  unfold joinD at h
  rw [hs, if_neg (by decide)] at h
  have h2 := cleanS_inj h
  rw [pathP_slash] at h2
  unfold relP
  rw [← h2]
  exact way_least _ _
theorem wt_ups : ∀ m : Nat, wt (List.replicate m ([46, 46] : Tx)) = 3 * m
  | 0 => by simp [wt]
  | m + 1 => by
    have h := wt_ups m
    have h2 : wt ([46, 46] :: List.replicate m ([46, 46] : Tx)) = 2 + 1 + wt (List.replicate m ([46, 46] : Tx)) := by simp [wt]
    rw [List.replicate_succ, h2, h]; omega
theorem wt_drop (xs : List Tx) (k : Nat) : wt (xs.drop k) ≤ wt xs := by
  have := wt_append (xs.take k) (xs.drop k)
  rw [List.take_append_drop] at this
  omega
theorem pathP_len (s : Tx) : (pathP s).length ≤ s.length + 1 := Nat.le_trans (cleanP_len _) (partsL_len s)
theorem wt_pathP (s : Tx) : wt (pathP s) ≤ s.length + 1 := Nat.le_trans (wt_cleanP _) (wt_partsL s)
theorem wt_relP (dir s : Tx) : wt (relP dir s) ≤ 3 * (dir.length + 1) + (s.length + 1) := by
  unfold relP wayP
  rw [wt_append, wt_ups]
  have h1 := wt_drop (pathP s) (common (pathP dir) (pathP s))
  have h2 := wt_pathP s
  have h3 := pathP_len dir
  omega
theorem relS_len (dir s : Tx) : (relS dir s).length ≤ 3 * (dir.length + 1) + (s.length + 1) := by
  unfold relS
  split
  · simp; omega
  · exact Nat.le_trans (joinS_le _) (wt_relP dir s)
end Go.Proofs.Ytmjggjccmbiheaa
