/- What stow's words say in plain words. -/
import Derived.Test.YtmjggjccmbiheaaArgsLives
import Derived.Test.YtmjggjccmbiheaaStowDir
namespace Go.Proofs.Ytmjggjccmbiheaa
open Go.RowKit Go.Proofs Go.Sort

def targetT : Tx := [116, 97, 114, 103, 101, 116]
def stowT : Tx := [115, 116, 111, 119]
def deleteT : Tx := [100, 101, 108, 101, 116, 101]
def restowT : Tx := [114, 101, 115, 116, 111, 119]
def quietT : Tx := [113, 117, 105, 101, 116]
def adoptT : Tx := [97, 100, 111, 112, 116]
def nofoldT : Tx := [110, 111, 45, 102, 111, 108, 100, 105, 110, 103]
def dotsT : Tx := [100, 111, 116, 102, 105, 108, 101, 115]
def ignoreT : Tx := [105, 103, 110, 111, 114, 101]
def deferT : Tx := [100, 101, 102, 101, 114]
def overT : Tx := [111, 118, 101, 114, 114, 105, 100, 101]
def stowL : List SpecT := [⟨dirT, 100, 1⟩, ⟨targetT, 116, 1⟩, ⟨stowT, 83, 0⟩, ⟨deleteT, 68, 0⟩, ⟨restowT, 82, 0⟩, ⟨simT, 110, 0⟩, ⟨quietT, 113, 0⟩, ⟨adoptT, 0, 0⟩, ⟨nofoldT, 0, 0⟩, ⟨dotsT, 0, 0⟩, ⟨ignoreT, 0, 1⟩, ⟨deferT, 0, 1⟩, ⟨overT, 0, 1⟩]

/-- An item that specs can make. -/
def okI (ss : List SpecT) (x : ItemT) : Prop := (x.long = [] ∧ x.vals.length = 1) ∨ ∃ s ∈ ss, x.long = s.long ∧ s.long ≠ [] ∧ x.vals.length = nOf s
theorem findS_ok {ss : List SpecT} {p : SpecT → Bool} {s : SpecT} (h : findS ss p = some s) : s ∈ ss ∧ s.long ≠ [] := by
  unfold findS at h
  have h1 := List.find?_some h
  simp only [Bool.and_eq_true, Bool.not_eq_true', beq_eq_false_iff_ne] at h1
  exact ⟨List.mem_of_find?_eq_some h, h1.1⟩
theorem putS_ok {ss : List SpecT} {s : SpecT} (hs : s ∈ ss) (hl : s.long ≠ []) {rest : List Tx} {is : List ItemT} {n : Nat} (h : putS s rest = some (is, n)) : ∀ x ∈ is, okI ss x := by
  unfold putS at h
  split at h
  · rename_i hn
    simp only [Option.some.injEq, Prod.mk.injEq] at h
    obtain ⟨rfl, rfl⟩ := h
    intro x hx
    rw [List.mem_singleton.1 hx]
    exact .inr ⟨s, hs, rfl, hl, by simp; omega⟩
  · cases h
theorem nOf_one {s : SpecT} (h : (s.needs == 1) = true) : nOf s = 1 := by
  have : s.needs = 1 := by simpa using h
  unfold nOf; omega
theorem longS_ok {ss : List SpecT} {w : Tx} {rest : List Tx} {is : List ItemT} {n : Nat} (h : longS ss w rest = some (is, n)) : ∀ x ∈ is, okI ss x := by
  unfold longS at h
  split at h
  · cases h
  · rename_i s hs
    obtain ⟨h1, h2⟩ := findS_ok hs
    split at h
    · split at h
      · rename_i hn
        simp only [Option.some.injEq, Prod.mk.injEq] at h
        obtain ⟨rfl, rfl⟩ := h
        intro x hx
        rw [List.mem_singleton.1 hx]
        exact .inr ⟨s, h1, rfl, h2, by rw [nOf_one hn]; rfl⟩
      · cases h
    · exact putS_ok h1 h2 h
theorem shortS_ok {ss : List SpecT} : ∀ {w : Tx} {rest : List Tx} {is : List ItemT} {n : Nat}, shortS ss w rest = some (is, n) → ∀ x ∈ is, okI ss x
  | [], rest, is, n, h => by
    unfold shortS at h
    simp only [Option.some.injEq, Prod.mk.injEq] at h
    obtain ⟨rfl, rfl⟩ := h
    simp
  | c :: w, rest, is, n, h => by
    unfold shortS at h
    split at h
    · cases h
    · rename_i s hs
      obtain ⟨h1, h2⟩ := findS_ok hs
      split at h
      · cases h
      · split at h
        · rename_i hn
          simp only [Bool.and_eq_true] at hn
          simp only [Option.some.injEq, Prod.mk.injEq] at h
          obtain ⟨rfl, rfl⟩ := h
          intro x hx
          rw [List.mem_singleton.1 hx]
          exact .inr ⟨s, h1, rfl, h2, by rw [nOf_one hn.1]; rfl⟩
        · split at h
          · cases h
          · rename_i i n1 hp
            split at h
            · cases h
            · rename_i is2 m h3
              simp only [Option.some.injEq, Prod.mk.injEq] at h
              obtain ⟨rfl, rfl⟩ := h
              intro x hx
              rcases List.mem_append.1 hx with hx | hx
              · exact putS_ok h1 h2 hp x hx
              · exact shortS_ok h3 x hx
theorem wordS_ok {ss : List SpecT} {w : Tx} {rest : List Tx} {is : List ItemT} {n : Nat} (h : wordS ss w rest = some (is, n)) : ∀ x ∈ is, okI ss x := by
  unfold wordS at h
  split at h
  · exact longS_ok h
  · split at h
    · exact shortS_ok h
    · simp only [Option.some.injEq, Prod.mk.injEq] at h
      obtain ⟨rfl, rfl⟩ := h
      intro x hx
      rw [List.mem_singleton.1 hx]
      exact .inl ⟨rfl, rfl⟩
theorem goS_ok {ss : List SpecT} : ∀ (f : Nat) (ws : List Tx) (k : Nat) (acc l : List ItemT), (∀ x ∈ acc, okI ss x) → goS ss f ws k acc = .inl l → ∀ x ∈ l, okI ss x
  | 0, ws, k, acc, l, ha, h => by unfold goS at h; cases h; exact ha
  | f + 1, [], k, acc, l, ha, h => by unfold goS at h; cases h; exact ha
  | f + 1, w :: ws, k, acc, l, ha, h => by
    unfold goS at h
    split at h
    · cases h
      intro x hx
      rcases List.mem_append.1 hx with hx | hx
      · exact ha x hx
      · obtain ⟨y, _, rfl⟩ := List.mem_map.1 hx
        exact .inl ⟨rfl, rfl⟩
    · split at h
      · cases h
      · rename_i is n hw
        refine goS_ok f _ _ _ _ (fun x hx => ?_) h
        rcases List.mem_append.1 hx with hx | hx
        · exact ha x hx
        · exact wordS_ok hw x hx
theorem parseS_ok {ss : List SpecT} {ws : List Tx} {l : List ItemT} (h : parseS ss ws = .inl l) : ∀ x ∈ l, okI ss x := goS_ok _ _ _ _ _ (by simp) h

def kindOf (l : Tx) (k : Int) : Int := if l == stowT then 1 else if l == deleteT then 2 else if l == restowT then 3 else k
abbrev DealT := Int × Tx
def stepD (st : Int × List DealT) (x : ItemT) : Int × List DealT := (kindOf x.long st.1, if x.long == [] then st.2 ++ [(kindOf x.long st.1, x.vals.headD [])] else st.2)
def foldD (l : List ItemT) : Int × List DealT := l.foldl stepD (1, [])
def dealsT (l : List ItemT) : List DealT := (foldD l).2
theorem foldD_snoc (l : List ItemT) (x : ItemT) : foldD (l ++ [x]) = stepD (foldD l) x := by unfold foldD; rw [List.foldl_append]; rfl
theorem foldD_len (l : List ItemT) : (foldD l).2.length ≤ l.length := by
  have h : ∀ (l : List ItemT) (st : Int × List DealT), (l.foldl stepD st).2.length ≤ st.2.length + l.length := by
    intro l
    induction l with
    | nil => intro st; simp
    | cons x l ih =>
      intro st
      have := ih (stepD st x)
      have h2 : (stepD st x).2.length ≤ st.2.length + 1 := by unfold stepD; simp only; split <;> simp
      rw [List.foldl_cons, List.length_cons]; omega
  simpa [foldD] using h l (1, [])
def lastS (l : List ItemT) (long other : Tx) : Tx := match (valuesS l long).getLast? with
  | none => other
  | some v => cleanS v

structure CmdT where
  dir : Tx
  target : Tx
  fold : Bool
  dots : Bool
  adopt : Bool
  ign : List Tx
  defr : List Tx
  over : List Tx
  deals : List DealT
  sim : Bool
  quiet : Bool
def cmdT (l : List ItemT) : CmdT :=
  { dir := lastS l dirT [47], target := lastS l targetT (dirS (lastS l dirT [47])), fold := !hasS l nofoldT, dots := hasS l dotsT, adopt := hasS l adoptT,
    ign := valuesS l ignoreT, defr := valuesS l deferT, over := valuesS l overT, deals := dealsT l, sim := hasS l simT, quiet := hasS l quietT }
/-- What stow's words say, or which one is wrong. -/
def stowS (ws : List Tx) : Sum CmdT Nat := match parseS stowL ws with
  | .inr k => .inr k
  | .inl l => if (dealsT l).isEmpty then .inr ws.length else .inl (cmdT l)
end Go.Proofs.Ytmjggjccmbiheaa
