/- Where an option stands makes no difference, in plain words. -/
import Derived.Test.YtmjggjccmbiheaaStowPlain
namespace Go.Proofs.Ytmjggjccmbiheaa
open Go.RowKit Go.Proofs Go.Sort

def shiftR (pre : List ItemT) (d : Nat) : Sum (List ItemT) Nat → Sum (List ItemT) Nat
  | .inl l => .inl (pre ++ l)
  | .inr j => .inr (d + j)
theorem goS_shift {ss : List SpecT} (pre : List ItemT) (d : Nat) : ∀ (f : Nat) (ws : List Tx) (k : Nat) (acc : List ItemT), goS ss f ws (d + k) (pre ++ acc) = shiftR pre d (goS ss f ws k acc)
  | 0, _, _, _ => rfl
  | _ + 1, [], _, _ => rfl
  | f + 1, w :: ws, k, acc => by
    unfold goS
    split
    · simp [shiftR]
    · cases wordS ss w ws with
      | none => rfl
      | some r =>
        obtain ⟨is, n⟩ := r
        simp only
        rw [List.append_assoc, show d + k + 1 + n = d + (k + 1 + n) by omega]
        exact goS_shift pre d f _ _ _

/-- An option that takes no value and is neither a kind nor an operand. -/
def flagI (x : ItemT) : Prop := x.vals = [] ∧ x.long ≠ [] ∧ ∀ k, kindOf x.long k = k
/-- A word that is a flag. -/
def flagW (how : Tx) (x : ItemT) : Prop := flagI x ∧ how ≠ [45, 45] ∧ ∀ rest, wordS stowL how rest = some ([x], 0)
theorem parse_flag {how : Tx} {x : ItemT} (h : flagW how x) (ws : List Tx) : parseS stowL (how :: ws) = shiftR [x] 1 (parseS stowL ws) := by
  unfold parseS
  rw [goS_word (rest := ws) rfl (by simpa using h.2.1), h.2.2]
  simp only [List.drop_zero, List.nil_append]
  have := goS_shift (ss := stowL) [x] 1 ws.length ws 0 []
  rw [List.append_nil] at this
  exact this
theorem foldD_flag {x : ItemT} (h : flagI x) (st : Int × List DealT) : stepD st x = st := by
  unfold stepD
  rw [h.2.2, if_neg (by simpa using h.2.1)]
theorem deals_flag {x : ItemT} (h : flagI x) (a b : List ItemT) : dealsT (a ++ x :: b) = dealsT (a ++ b) := by
  unfold dealsT foldD
  rw [List.foldl_append, List.foldl_cons, foldD_flag h, List.foldl_append]
theorem vals_flag {x : ItemT} (h : flagI x) (a b : List ItemT) (long : Tx) : valuesS (a ++ x :: b) long = valuesS (a ++ b) long := by
  rw [valuesS_append, valuesS_append]
  congr 1
  have : valuesS (x :: b) long = valuesS [x] long ++ valuesS b long := valuesS_append [x] b long
  rw [this]
  have h2 : valuesS [x] long = [] := by
    unfold valuesS
    rw [List.filter_cons]
    split <;> simp [h.1]
  rw [h2]; rfl
theorem has_flag (x : ItemT) (a b : List ItemT) (long : Tx) : hasS (a ++ x :: b) long = hasS (x :: (a ++ b)) long := by
  unfold hasS
  congr 1
  simp only [List.any_append, List.any_cons]
  cases a.any (fun x => x.long == long) <;> cases (x.long == long) <;> simp
theorem cmd_flag {x : ItemT} (h : flagI x) (a b : List ItemT) : cmdT (a ++ x :: b) = cmdT (x :: (a ++ b)) := by
  have h1 := deals_flag h a b
  have h2 := deals_flag h [] (a ++ b)
  have h3 := vals_flag h a b
  have h4 := vals_flag h [] (a ++ b)
  have h5 := has_flag x a b
  rw [List.nil_append, List.nil_append] at h2
  simp only [List.nil_append] at h4
  unfold cmdT lastS
  simp only [h3, h4, h5, h1, h2]

/-- A word that is an operand. -/
def plainW (w : Tx) : Bool := !(w == [45, 45]) && !(decide (1 < w.length) && w.head? == some 45)
theorem plain_word {w : Tx} (h : plainW w = true) (ss : List SpecT) (rest : List Tx) : wordS ss w rest = some ([opdT w], 0) := by
  unfold plainW at h
  simp only [Bool.and_eq_true, Bool.not_eq_true'] at h
  unfold wordS
  rw [h.2]
  have hp : Lib.hasPrefix w [45, 45] = false := by
    cases hh : Lib.hasPrefix w [45, 45]
    · rfl
    · unfold Lib.hasPrefix at hh
      obtain ⟨t, rfl⟩ := List.isPrefixOf_iff_prefix.1 hh
      have := h.2
      simp at this
  rw [hp]
  rfl
theorem plain_run {ss : List SpecT} : ∀ (a : List Tx) (f : Nat) (r : List Tx) (k : Nat) (acc : List ItemT), (∀ w ∈ a, plainW w = true) → goS ss (a.length + f) (a ++ r) k acc = goS ss f r (k + a.length) (acc ++ a.map opdT)
  | [], f, r, k, acc, _ => by simp
  | w :: a, f, r, k, acc, h => by
    have hw := h w (by simp)
    have hne : (w == [45, 45]) = false := by unfold plainW at hw; simp only [Bool.and_eq_true, Bool.not_eq_true'] at hw; exact hw.1
    rw [List.cons_append, show (w :: a).length + f = (a.length + f) + 1 by rw [List.length_cons]; omega]
    conv => lhs; unfold goS
    rw [hne, plain_word hw]
    simp only [Bool.false_eq_true, if_false, List.drop_zero]
    rw [plain_run a f r _ _ (fun x hx => h x (List.mem_cons_of_mem _ hx)), List.append_assoc, List.length_cons]
    congr 1
    omega
theorem parse_plain {ss : List SpecT} {ws : List Tx} (h : ∀ w ∈ ws, plainW w = true) : parseS ss ws = .inl (ws.map opdT) := by
  unfold parseS
  have := plain_run (ss := ss) ws 0 [] 0 [] h
  rw [List.append_nil, Nat.add_zero] at this
  rw [this]; rfl
theorem parse_mid {how : Tx} {x : ItemT} (hf : flagW how x) {a b : List Tx} (ha : ∀ w ∈ a, plainW w = true) (hb : ∀ w ∈ b, plainW w = true) : parseS stowL (a ++ how :: b) = .inl (a.map opdT ++ x :: b.map opdT) := by
  unfold parseS
  rw [show (a ++ how :: b).length = a.length + (how :: b).length by simp, plain_run a _ _ _ _ ha, goS_word (rest := b) rfl (by simpa using hf.2.1), hf.2.2]
  simp only [List.drop_zero]
  have := plain_run (ss := stowL) b 0 [] (0 + a.length + 1 + 0) ([] ++ a.map opdT ++ [x]) hb
  rw [List.append_nil, Nat.add_zero] at this
  rw [this]
  unfold goS
  simp

def simW : Tx := [45, 45, 115, 105, 109, 117, 108, 97, 116, 101]
def adoptW : Tx := [45, 45, 97, 100, 111, 112, 116]
def dotsW : Tx := [45, 45, 100, 111, 116, 102, 105, 108, 101, 115]
def nofoldW : Tx := [45, 45, 110, 111, 45, 102, 111, 108, 100, 105, 110, 103]
def quietW : Tx := [45, 113]
theorem kind_other {l : Tx} (h1 : l ≠ stowT) (h2 : l ≠ deleteT) (h3 : l ≠ restowT) (k : Int) : kindOf l k = k := by
  unfold kindOf
  rw [if_neg (by simpa using h1), if_neg (by simpa using h2), if_neg (by simpa using h3)]
theorem flag_sim : flagW simW ⟨simT, []⟩ := ⟨⟨rfl, by decide, kind_other (by decide) (by decide) (by decide)⟩, by decide, fun _ => rfl⟩
theorem flag_adopt : flagW adoptW ⟨adoptT, []⟩ := ⟨⟨rfl, by decide, kind_other (by decide) (by decide) (by decide)⟩, by decide, fun _ => rfl⟩
theorem flag_dots : flagW dotsW ⟨dotsT, []⟩ := ⟨⟨rfl, by decide, kind_other (by decide) (by decide) (by decide)⟩, by decide, fun _ => rfl⟩
theorem flag_nofold : flagW nofoldW ⟨nofoldT, []⟩ := ⟨⟨rfl, by decide, kind_other (by decide) (by decide) (by decide)⟩, by decide, fun _ => rfl⟩
theorem flag_quiet : flagW quietW ⟨quietT, []⟩ := ⟨⟨rfl, by decide, kind_other (by decide) (by decide) (by decide)⟩, by decide, fun _ => rfl⟩

/-- At the front: the deals are the same. -/
theorem stow_front {how : Tx} {x : ItemT} (hf : flagW how x) {ws : List Tx} {c : CmdT} (h : stowS ws = .inl c) : ∃ l, stowS (how :: ws) = .inl (cmdT (x :: l)) ∧ parseS stowL ws = .inl l ∧ (cmdT (x :: l)).deals = c.deals := by
  unfold stowS at h ⊢
  rw [parse_flag hf]
  cases hp : parseS stowL ws with
  | inr k => rw [hp] at h; cases h
  | inl l =>
    rw [hp] at h
    simp only at h
    split at h
    · cases h
    · rename_i hd
      cases h
      have h2 := deals_flag hf.1 [] l
      simp only [List.nil_append] at h2
      refine ⟨l, ?_, rfl, h2⟩
      show (if (dealsT (x :: l)).isEmpty then _ else _) = _
      rw [h2, if_neg hd]
      rfl
/-- In the middle of operands: all is the same. -/
theorem stow_mid {how : Tx} {x : ItemT} (hf : flagW how x) {a b : List Tx} {c : CmdT} (ha : ∀ w ∈ a ++ b, plainW w = true) (h : stowS (how :: (a ++ b)) = .inl c) : stowS (a ++ how :: b) = .inl c := by
  have h1 : ∀ w ∈ a, plainW w = true := fun w hw => ha w (List.mem_append_left _ hw)
  have h2 : ∀ w ∈ b, plainW w = true := fun w hw => ha w (List.mem_append_right _ hw)
  unfold stowS at h ⊢
  rw [parse_mid hf h1 h2]
  rw [parse_flag hf, parse_plain ha] at h
  simp only [shiftR, List.map_append, List.singleton_append] at h ⊢
  rw [cmd_flag hf.1]
  have h3 := deals_flag hf.1 (a.map opdT) (b.map opdT)
  have h4 := deals_flag hf.1 [] (a.map opdT ++ b.map opdT)
  simp only [List.nil_append] at h4
  rw [h4] at h
  rw [h3]
  split at h
  · cases h
  · rename_i hd
    rw [if_neg hd]
    exact h
end Go.Proofs.Ytmjggjccmbiheaa
