/- Paths in plain words: a text's parts; strings.Cut at a slash. -/
import Derived.Test.YtmjggjccmbiheaaSortRef
namespace Go.Proofs.Ytmjggjccmbiheaa
open Go.RowKit Go.Proofs Go.Sort
attribute [local go_sem] mk_list mk_size mk_data

/-- What stands ahead of the first slash, and behind it. -/
def one (l : Tx) : Tx := l.takeWhile (· != 47)
def after (l : Tx) : Tx := l.drop ((one l).length + 1)
def split : Tx → List Tx
  | [] => [[]]
  | c :: l => if c == 47 then [] :: split l else match split l with
    | h :: t => (c :: h) :: t
    | [] => [[c]]
def okP (p : Tx) : Bool := !(p == []) && !(p == [46])
def partsL (l : Tx) : List Tx := (split l).filter okP
theorem split_ne (l : Tx) : split l ≠ [] := by
  cases l with
  | nil => simp [split]
  | cons c l =>
    unfold split
    split
    · simp
    · split <;> simp
theorem split_step : ∀ l : Tx, split l = one l :: (if l.contains 47 then split (after l) else [])
  | [] => by simp [split, one]
  | c :: l => by
    have ih := split_step l
    by_cases hc : c = 47
    · subst hc
      simp [split, one, after]
    · have h1 : one (c :: l) = c :: one l := by unfold one; rw [List.takeWhile_cons]; simp [hc]
      have h2 : after (c :: l) = after l := by unfold after; rw [h1]; rfl
      have h3 : (c :: l).contains 47 = l.contains 47 := by
        rw [List.contains_cons]
        simp [Ne.symm hc]
      rw [h1, h2, h3]
      show (if c == 47 then [] :: split l else match split l with
        | h :: t => (c :: h) :: t
        | [] => [[c]]) = _
      rw [if_neg (by simpa using hc), ih]
theorem partsL_nil : partsL [] = [] := by decide
theorem takeWhile_all {p : UInt8 → Bool} : ∀ {l : Tx}, (∀ x ∈ l, p x = true) → l.takeWhile p = l
  | [], _ => rfl
  | c :: l, h => by
    rw [List.takeWhile_cons, if_pos (h c (by simp)), takeWhile_all fun x hx => h x (by simp [hx])]
theorem after_nil {l : Tx} (h : l.contains 47 = false) : after l = [] := by
  have h1 : one l = l := by
    unfold one
    apply takeWhile_all
    intro x hx
    rw [bne_iff_ne]
    rintro rfl
    simp [hx] at h
  unfold after
  rw [h1]
  exact List.drop_of_length_le (by omega)
theorem partsL_step (l : Tx) : partsL l = (if okP (one l) then [one l] else []) ++ partsL (after l) := by
  unfold partsL
  rw [split_step l, List.filter_cons]
  cases h : l.contains 47
  · rw [after_nil h]
    have := partsL_nil
    unfold partsL at this
    rw [this]
    simp
  · simp only [if_true]
    split <;> simp
theorem after_lt {l : Tx} (h : l ≠ []) : (after l).length < l.length := by
  unfold after
  rw [List.length_drop]
  have : 0 < l.length := List.length_pos_iff.2 h
  omega

theorem one_cons {c : UInt8} {l : Tx} (hc : c ≠ 47) : one (c :: l) = c :: one l := by
  unfold one
  rw [List.takeWhile_cons, if_pos (by simpa using hc)]
theorem one_at : ∀ (l : Tx), l.contains 47 = true → Lib.indexByte l 47 = ((one l).length : Int) ∧ (one l).length < l.length
  | [], h => by simp at h
  | c :: l, h => by
    by_cases hc : c = 47
    · subst hc; simp [one, Lib.indexByte]
    · have h3 : l.contains 47 = true := by
        rw [List.contains_cons] at h
        simpa [Ne.symm hc] using h
      obtain ⟨h1, h2⟩ := one_at l h3
      have hb : (c == 47) = false := by simpa using hc
      have hn : (Lib.indexByte l 47 == -1) = false := by rw [h1, beq_eq_false_iff_ne]; omega
      rw [one_cons hc]
      unfold Lib.indexByte
      rw [hb, hn, h1]
      simp only [Bool.false_eq_true, if_false, List.length_cons]
      omega
theorem one_not : ∀ (l : Tx), l.contains 47 = false → Lib.indexByte l 47 = -1
  | [], _ => rfl
  | c :: l, h => by
    rw [List.contains_cons, Bool.or_eq_false_iff] at h
    have hc : (c == 47) = false := by
      rw [beq_eq_false_iff_ne]; rintro rfl; simp at h
    unfold Lib.indexByte
    rw [hc, one_not l h.2]
    rfl
theorem one_self {l : Tx} (h : l.contains 47 = false) : one l = l := by
  unfold one
  apply takeWhile_all
  intro x hx
  rw [bne_iff_ne]
  rintro rfl
  simp [hx] at h
theorem take_takeWhile (p : UInt8 → Bool) : ∀ l : Tx, l.take (l.takeWhile p).length = l.takeWhile p
  | [] => rfl
  | c :: l => by
    rw [List.takeWhile_cons]
    split
    · rw [List.length_cons, List.take_succ_cons, take_takeWhile p l]
    · rfl
theorem one_take (l : Tx) : l.take (one l).length = one l := take_takeWhile _ l

set_option maxHeartbeats 1000000 in
/-- strings.Cut at a slash. -/
theorem cut_slash (l : Tx) (w : World) (hl : l.length ≤ 140737488355328) :
    Calls Try.prog 159 #[.string (mk l), .string (mk [47])] w fun e w' => e = .returned (.tuple #[.string (mk (one l)), .string (mk (after l)), .bool (l.contains 47)]) ∧ ∃ q, w' = w.drewN q := by
  have hi := Try.stringslite_Index_one (mk l) 47 w
  rw [mk_data] at hi
  have hk : (⟨#[47]⟩ : ByteArray) = mk [47] := rfl
  rw [hk] at hi
  cases h : l.contains 47
  · rw [one_not l h] at hi
    have HO := Lib.hid (And.intro (one_self h) (after_nil h))
    go_enter Try.func159, Try.ntmps159
    go_wp2_with (go_at_call 171; refine hi.mono ?_; rintro e w' ⟨rfl, rfl⟩)
    go_ret3
    exact ⟨by rw [HO.out.1, HO.out.2]; rfl, 0, rfl⟩
  · obtain ⟨h1, h2⟩ := one_at l h
    rw [h1] at hi
    have HA := Lib.hid (show after l = l.drop ((one l).length + 1) from rfl)
    have HT := Lib.hid (one_take l)
    obtain ⟨k, hk⟩ : ∃ k, (one l).length = k := ⟨_, rfl⟩
    rw [hk] at hi h2 HA HT
    obtain ⟨n, hn⟩ : ∃ n, l.length = n := ⟨_, rfl⟩
    have HN := Lib.hid hn
    rw [hn] at h2 hl
    have e1 := mk_extract l 0 k
    have e2 := mk_extract l (k + 1) n
    rw [List.drop_zero, Nat.sub_zero, HT.out] at e1
    rw [List.take_of_length_le (by rw [List.length_drop]; omega), ← HA.out] at e2
    have hs : (mk l).size = n := by rw [mk_size]; exact hn
    have hk1 : ((k : Int) + 1) ≤ (n : Int) := by omega
    have hk2 : (k : Int) ≤ (n : Int) := by omega
    have hk0 : (0 : Int) ≤ (k : Int) := by omega
    clear hk hn
    go_enter Try.func159, Try.ntmps159
    go_wp2_with (go_at_call 171; refine hi.mono ?_; rintro e w' ⟨rfl, rfl⟩)
    go_quiet (fail)
    go_wp2_with fail
    go_ret3
    exact ⟨rfl, _, rfl⟩
theorem strings_Cut_slash (l : Tx) (w : World) (hl : l.length ≤ 140737488355328) :
    Calls Try.prog 132 #[.string (mk l), .string (mk [47])] w fun e w' => e = .returned (.tuple #[.string (mk (one l)), .string (mk (after l)), .bool (l.contains 47)]) ∧ ∃ q, w' = w.drewN q := by
  have hc := cut_slash l w hl
  generalize one l = x at *
  generalize after l = y at *
  generalize l.contains 47 = b at *
  go_enter Try.func132, Try.ntmps132
  go_wp2_with (go_at_call 159; refine hc.mono ?_; rintro e w' ⟨rfl, q, rfl⟩)
  go_ret3
  exact ⟨rfl, q, rfl⟩
end Go.Proofs.Ytmjggjccmbiheaa
