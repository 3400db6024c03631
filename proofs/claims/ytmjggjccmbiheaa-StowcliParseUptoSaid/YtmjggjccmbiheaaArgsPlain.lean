/- Words as items in plain words: what args.Parse makes of them; what stands behind '--'. -/
import Derived.Test.YtmjggjccmbiheaaPathClean
namespace Go.Proofs.Ytmjggjccmbiheaa
open Go.RowKit Go.Proofs Go.Sort

structure SpecT where
  long : Tx
  short : UInt8
  needs : Int
deriving DecidableEq
instance : Inhabited SpecT := ⟨⟨[], 0, 0⟩⟩
structure ItemT where
  long : Tx
  vals : List Tx
deriving DecidableEq

/-- What stands ahead of the first such byte, and behind it. -/
def oneC (c : UInt8) (l : Tx) : Tx := l.takeWhile (· != c)
def afterC (c : UInt8) (l : Tx) : Tx := l.drop ((oneC c l).length + 1)

def nOf (s : SpecT) : Nat := s.needs.toNat
def findS (ss : List SpecT) (p : SpecT → Bool) : Option SpecT := ss.find? fun s => !(s.long == []) && p s
def putS (s : SpecT) (rest : List Tx) : Option (List ItemT × Nat) := if nOf s ≤ rest.length then some ([⟨s.long, rest.take (nOf s)⟩], nOf s) else none
def longS (ss : List SpecT) (w : Tx) (rest : List Tx) : Option (List ItemT × Nat) :=
  match findS ss fun s => s.long == oneC 61 w with
  | none => none
  | some s => if w.contains 61 then (if s.needs == 1 then some ([⟨s.long, [afterC 61 w]⟩], 0) else none) else putS s rest
def shortS (ss : List SpecT) : Tx → List Tx → Option (List ItemT × Nat)
  | [], _ => some ([], 0)
  | c :: w, rest =>
    match findS ss fun s => !(s.short == 0) && s.short == c with
    | none => none
    | some s => if decide (1 < s.needs) && !w.isEmpty then none
      else if s.needs == 1 && !w.isEmpty then some ([⟨s.long, [w]⟩], 0)
      else match putS s rest with
        | none => none
        | some (i, n) => match shortS ss w (rest.drop n) with
          | none => none
          | some (is, m) => some (i ++ is, n + m)
def opdT (w : Tx) : ItemT := ⟨[], [w]⟩
def wordS (ss : List SpecT) (w : Tx) (rest : List Tx) : Option (List ItemT × Nat) :=
  if Lib.hasPrefix w [45, 45] then longS ss (w.drop 2) rest
  else if decide (1 < w.length) && w.head? == some 45 then shortS ss (w.drop 1) rest
  else some ([opdT w], 0)
def goS (ss : List SpecT) : Nat → List Tx → Nat → List ItemT → Sum (List ItemT) Nat
  | 0, _, _, acc => .inl acc
  | _ + 1, [], _, acc => .inl acc
  | f + 1, w :: ws, k, acc => if w == [45, 45] then .inl (acc ++ ws.map opdT) else match wordS ss w ws with
    | none => .inr k
    | some (is, n) => goS ss f (ws.drop n) (k + 1 + n) (acc ++ is)
def parseS (ss : List SpecT) (ws : List Tx) : Sum (List ItemT) Nat := goS ss ws.length ws 0 []
def valuesS (l : List ItemT) (long : Tx) : List Tx := (l.filter fun x => x.long == long).flatMap (·.vals)
def hasS (l : List ItemT) (long : Tx) : Bool := !(long == []) && l.any fun x => x.long == long

/-- How many values there are. -/
def tv (l : List ItemT) : Nat := (l.map fun x => x.vals.length).sum
theorem tv_append (a b : List ItemT) : tv (a ++ b) = tv a + tv b := by simp [tv]
theorem tv_cons (a : ItemT) (b : List ItemT) : tv (a :: b) = a.vals.length + tv b := by simp [tv]
theorem tv_nil : tv [] = 0 := rfl
theorem valuesS_len (long : Tx) : ∀ l : List ItemT, (valuesS l long).length ≤ tv l
  | [] => by simp [valuesS, tv]
  | x :: l => by
    have h := valuesS_len long l
    rw [tv_cons]
    unfold valuesS at h ⊢
    rw [List.filter_cons]
    split
    · rw [List.flatMap_cons, List.length_append]; omega
    · omega

theorem putS_some {s : SpecT} {rest : List Tx} {is : List ItemT} {n : Nat} (h : putS s rest = some (is, n)) : is.length = 1 ∧ n ≤ rest.length ∧ tv is ≤ n := by
  unfold putS at h
  split at h
  · rename_i hn
    simp only [Option.some.injEq, Prod.mk.injEq] at h
    obtain ⟨rfl, rfl⟩ := h
    refine ⟨rfl, hn, ?_⟩
    rw [tv_cons, tv_nil]
    simp
    omega
  · cases h
theorem putS_more {s : SpecT} {rest : List Tx} {r : List ItemT × Nat} (h : putS s rest = some r) (x : List Tx) : putS s (rest ++ x) = some r := by
  unfold putS at h ⊢
  split at h
  · rename_i hn
    rw [if_pos (by rw [List.length_append]; omega), List.take_append_of_le_length hn]
    exact h
  · cases h
theorem longS_some {ss : List SpecT} {w : Tx} {rest : List Tx} {is : List ItemT} {n : Nat} (h : longS ss w rest = some (is, n)) : is.length = 1 ∧ n ≤ rest.length ∧ tv is ≤ n + 1 := by
  unfold longS at h
  split at h
  · cases h
  · split at h
    · split at h
      · simp only [Option.some.injEq, Prod.mk.injEq] at h
        obtain ⟨rfl, rfl⟩ := h
        exact ⟨rfl, Nat.zero_le _, by simp [tv]⟩
      · cases h
    · obtain ⟨h1, h2, h3⟩ := putS_some h
      exact ⟨h1, h2, by omega⟩
theorem longS_more {ss : List SpecT} {w : Tx} {rest : List Tx} {r : List ItemT × Nat} (h : longS ss w rest = some r) (x : List Tx) : longS ss w (rest ++ x) = some r := by
  unfold longS at h ⊢
  split at h
  · cases h
  · rename_i s hs
    split at h
    · rename_i hc; rw [if_pos hc]; exact h
    · rename_i hc; rw [if_neg hc]; exact putS_more h x
theorem shortS_some {ss : List SpecT} : ∀ {w : Tx} {rest : List Tx} {is : List ItemT} {n : Nat}, shortS ss w rest = some (is, n) → is.length ≤ w.length ∧ n ≤ rest.length ∧ tv is ≤ n + w.length
  | [], rest, is, n, h => by
    unfold shortS at h
    simp only [Option.some.injEq, Prod.mk.injEq] at h
    obtain ⟨rfl, rfl⟩ := h
    simp [tv]
  | c :: w, rest, is, n, h => by
    unfold shortS at h
    split at h
    · cases h
    · rename_i s hs
      split at h
      · cases h
      · split at h
        · simp only [Option.some.injEq, Prod.mk.injEq] at h
          obtain ⟨rfl, rfl⟩ := h
          simp [tv]
        · split at h
          · cases h
          · rename_i i n1 hp
            split at h
            · cases h
            · rename_i is2 m h2
              simp only [Option.some.injEq, Prod.mk.injEq] at h
              obtain ⟨rfl, rfl⟩ := h
              obtain ⟨p1, p2, p3⟩ := putS_some hp
              obtain ⟨q1, q2, q3⟩ := shortS_some h2
              rw [List.length_drop] at q2
              rw [tv_append, List.length_append, List.length_cons]
              omega
theorem shortS_more {ss : List SpecT} (x : List Tx) : ∀ {w : Tx} {rest : List Tx} {r : List ItemT × Nat}, shortS ss w rest = some r → shortS ss w (rest ++ x) = some r
  | [], rest, r, h => by unfold shortS at h ⊢; exact h
  | c :: w, rest, r, h => by
    unfold shortS at h ⊢
    split at h
    · cases h
    · rename_i s hs
      split at h
      · cases h
      · rename_i h1
        rw [if_neg h1]
        split at h
        · rename_i h2; rw [if_pos h2]; exact h
        · rename_i h2
          rw [if_neg h2]
          split at h
          · cases h
          · rename_i i n1 hp
            rw [putS_more hp x]
            simp only
            obtain ⟨p1, p2, p3⟩ := putS_some hp
            split at h
            · cases h
            · rename_i is2 m h2
              rw [List.drop_append_of_le_length p2, shortS_more x h2]
              exact h
theorem wordS_some {ss : List SpecT} {w : Tx} {rest : List Tx} {is : List ItemT} {n : Nat} (h : wordS ss w rest = some (is, n)) : is.length ≤ w.length + 1 ∧ n ≤ rest.length ∧ tv is ≤ n + w.length + 1 := by
  unfold wordS at h
  split at h
  · obtain ⟨h1, h2, h3⟩ := longS_some h
    exact ⟨by omega, h2, by omega⟩
  · split at h
    · obtain ⟨h1, h2, h3⟩ := shortS_some h
      rw [List.length_drop] at h1 h3
      exact ⟨by omega, h2, by omega⟩
    · simp only [Option.some.injEq, Prod.mk.injEq] at h
      obtain ⟨rfl, rfl⟩ := h
      refine ⟨by simp, Nat.zero_le _, ?_⟩
      rw [tv_cons, tv_nil]; simp [opdT]
theorem wordS_more {ss : List SpecT} {w : Tx} {rest : List Tx} {r : List ItemT × Nat} (h : wordS ss w rest = some r) (x : List Tx) : wordS ss w (rest ++ x) = some r := by
  unfold wordS at h ⊢
  split at h
  · rename_i h1; rw [if_pos h1]; exact longS_more h x
  · rename_i h1
    rw [if_neg h1]
    split at h
    · rename_i h2; rw [if_pos h2]; exact shortS_more x h
    · rename_i h2; rw [if_neg h2]; exact h

theorem wt_cons (a : Tx) (b : List Tx) : wt (a :: b) = a.length + 1 + wt b := by simp [wt]
theorem wt_dropS (ws : List Tx) (n : Nat) (h : n ≤ ws.length) : wt (ws.drop n) + n ≤ wt ws := by
  have h1 := wt_append (ws.take n) (ws.drop n)
  rw [List.take_append_drop] at h1
  have h2 : ∀ l : List Tx, l.length ≤ wt l := by
    intro l
    induction l with
    | nil => simp
    | cons a l ih => rw [wt_cons, List.length_cons]; omega
  have h3 := h2 (ws.take n)
  rw [List.length_take] at h3
  omega
theorem opd_facts : ∀ ws : List Tx, (ws.map opdT).length = ws.length ∧ tv (ws.map opdT) = ws.length ∧ valuesS (ws.map opdT) [] = ws
  | [] => by simp [tv, valuesS]
  | w :: ws => by
    obtain ⟨h1, h2, h3⟩ := opd_facts ws
    refine ⟨by simp, ?_, ?_⟩
    · rw [List.map_cons, tv_cons, h2, List.length_cons]; simp [opdT]; omega
    · rw [List.map_cons]
      unfold valuesS at h3 ⊢
      rw [List.filter_cons, if_pos (by rfl), List.flatMap_cons, h3]
      rfl
theorem len_le_wt : ∀ l : List Tx, l.length ≤ wt l
  | [] => by simp
  | a :: l => by have := len_le_wt l; rw [wt_cons, List.length_cons]; omega
theorem goS_inl {ss : List SpecT} : ∀ (f : Nat) (ws : List Tx) (k : Nat) (acc l : List ItemT), goS ss f ws k acc = .inl l → l.length ≤ acc.length + wt ws ∧ tv l ≤ tv acc + wt ws
  | 0, ws, k, acc, l, h => by unfold goS at h; cases h; omega
  | f + 1, [], k, acc, l, h => by unfold goS at h; cases h; omega
  | f + 1, w :: ws, k, acc, l, h => by
    unfold goS at h
    rw [wt_cons]
    split at h
    · cases h
      obtain ⟨h1, h2, _⟩ := opd_facts ws
      have := len_le_wt ws
      rw [List.length_append, tv_append, h1, h2]
      omega
    · split at h
      · cases h
      · rename_i is n hw
        obtain ⟨p1, p2, p3⟩ := wordS_some hw
        obtain ⟨q1, q2⟩ := goS_inl f _ _ _ _ h
        have := wt_dropS ws n p2
        rw [List.length_append] at q1
        rw [tv_append] at q2
        omega
theorem goS_fuel {ss : List SpecT} : ∀ (f g : Nat) (ws : List Tx) (k : Nat) (acc : List ItemT), ws.length ≤ f → ws.length ≤ g → goS ss f ws k acc = goS ss g ws k acc
  | 0, 0, _, _, _, _, _ => rfl
  | 0, g + 1, ws, k, acc, h, _ => by
    obtain rfl : ws = [] := List.eq_nil_of_length_eq_zero (by omega)
    rfl
  | f + 1, 0, ws, k, acc, _, h => by
    obtain rfl : ws = [] := List.eq_nil_of_length_eq_zero (by omega)
    rfl
  | f + 1, g + 1, [], _, _, _, _ => rfl
  | f + 1, g + 1, w :: ws, k, acc, hf, hg => by
    unfold goS
    split
    · rfl
    · split
      · rfl
      · exact goS_fuel f g _ _ _ (by rw [List.length_drop]; simp only [List.length_cons] at hf; omega) (by rw [List.length_drop]; simp only [List.length_cons] at hg; omega)
/-- One word more: the state behind it. -/
theorem goS_word {ss : List SpecT} {ws : List Tx} {k : Nat} {acc : List ItemT} {w : Tx} {rest : List Tx} (h : ws = w :: rest) (hd : (w == [45, 45]) = false) :
    goS ss ws.length ws k acc = match wordS ss w rest with
      | none => .inr k
      | some (is, n) => goS ss (rest.drop n).length (rest.drop n) (k + 1 + n) (acc ++ is) := by
  subst h
  rw [List.length_cons]
  conv => lhs; unfold goS
  rw [hd]
  simp only [Bool.false_eq_true, if_false]
  split
  · rfl
  · exact goS_fuel _ _ _ _ _ (by rw [List.length_drop]; omega) (Nat.le_refl _)
theorem goS_dash {ss : List SpecT} {k : Nat} {acc : List ItemT} {w : Tx} {rest : List Tx} (hd : (w == [45, 45]) = true) :
    goS ss (w :: rest).length (w :: rest) k acc = .inl (acc ++ rest.map opdT) := by
  rw [List.length_cons]
  conv => lhs; unfold goS
  rw [if_pos hd]
/-- Behind '--' all are operands. -/
theorem goS_rest {ss : List SpecT} (rest : List Tx) : ∀ (f : Nat) (ws : List Tx) (k : Nat) (acc l : List ItemT), ws.length ≤ f → (∀ w ∈ ws, w ≠ [45, 45]) → goS ss f ws k acc = .inl l →
    goS ss (f + 1 + rest.length) (ws ++ [45, 45] :: rest) k acc = .inl (l ++ rest.map opdT)
  | f, [], k, acc, l, _, _, h => by
    have hl : l = acc := by cases f <;> (unfold goS at h; cases h; rfl)
    subst hl
    rw [List.nil_append, show f + 1 + rest.length = (f + rest.length) + 1 by omega]
    conv => lhs; unfold goS
    rw [if_pos (by rfl)]
  | 0, w :: ws, k, acc, l, hf, _, _ => by simp at hf
  | f + 1, w :: ws, k, acc, l, hf, hn, h => by
    rw [List.cons_append, show f + 1 + 1 + rest.length = (f + 1 + rest.length) + 1 by omega]
    unfold goS at h ⊢
    have hw : ¬ (w == [45, 45]) = true := by simpa using hn w (by simp)
    rw [if_neg hw] at h ⊢
    split at h
    · cases h
    · rename_i is n hws
      rw [wordS_more hws]
      simp only
      obtain ⟨_, p2, _⟩ := wordS_some hws
      rw [List.drop_append_of_le_length p2]
      exact goS_rest rest f _ _ _ _ (by rw [List.length_drop]; simp only [List.length_cons] at hf; omega) (fun x hx => hn x (List.mem_cons_of_mem _ (List.mem_of_mem_drop hx))) h
theorem parseS_rest {ss : List SpecT} {ws : List Tx} {l : List ItemT} (rest : List Tx) (hn : ∀ w ∈ ws, w ≠ [45, 45]) (h : parseS ss ws = .inl l) : parseS ss (ws ++ [45, 45] :: rest) = .inl (l ++ rest.map opdT) := by
  unfold parseS at h ⊢
  have := goS_rest rest ws.length ws 0 [] l (Nat.le_refl _) hn h
  rwa [show (ws ++ [45, 45] :: rest).length = ws.length + 1 + rest.length by simp; omega]
theorem valuesS_append (a b : List ItemT) (long : Tx) : valuesS (a ++ b) long = valuesS a long ++ valuesS b long := by simp [valuesS]
end Go.Proofs.Ytmjggjccmbiheaa
