/- The names that stand for others: what dots and its reference compute, function by function; both alike, there and back. -/
import Derived.Test.YtmjggjccmbiheaaBase
import Derived.Lib.Hide
namespace Go.Proofs.Ytmjggjccmbiheaa
open Go.RowKit Go.Proofs
attribute [local go_sem] mk_list mk_size mk_data mk_get

def plainL : List UInt8 → Bool
  | [] => false
  | c :: _ => c != 46
def toL (l : List UInt8) : List UInt8 := if Lib.hasPrefix l [100, 111, 116, 45] && plainL (l.drop 4) then 46 :: l.drop 4 else l
def fromL (l : List UInt8) : List UInt8 := if Lib.hasPrefix l [46] && plainL l.tail then [100, 111, 116, 45] ++ l.tail else l


set_option maxHeartbeats 400000 in
theorem dots_plain (l : List UInt8) (w : World) :
    Calls Try.prog 70 #[.string (mk l)] w fun e w' => e = .returned (.bool (plainL l)) ∧ w = w' := by
  cases l with
  | nil =>
    go_enter Try.func70, Try.ntmps70
    go_wp2
    go_ret
    exact ⟨rfl, rfl⟩
  | cons c l =>
    go_enter Try.func70, Try.ntmps70
    go_wp2
    go_ret
    exact ⟨ret_bool (byte_ne c 46 (by omega)), rfl⟩

set_option maxHeartbeats 400000 in
theorem dots_To (l : List UInt8) (w : World) (ha : l.length ≤ 140737488351300) :
    Calls Try.prog 16 #[.string (mk l)] w fun e w' => e = .returned (.string (mk (toL l))) ∧ w = w' := by
  by_cases h1 : Lib.hasPrefix l [100, 111, 116, 45] = true
  · have h2 : Lib.trimPrefix l [100, 111, 116, 45] = l.drop 4 := by unfold Lib.trimPrefix; rw [if_pos h1]; rfl
    cases h3 : plainL (l.drop 4)
    · go_enter Try.func16, Try.ntmps16
      go_wp2_with (first | (go_at_call 69; refine (Try.strings_CutPrefix _ _ _).mono ?_; rintro e w' ⟨rfl, rfl⟩) | (go_at_call 70; refine (dots_plain (l.drop 4) _).mono ?_; rintro e w' ⟨rfl, rfl⟩))
      go_ret
      exact ⟨ret_str (by unfold toL; rw [h3, Bool.and_false]; rfl), rfl⟩
    · go_enter Try.func16, Try.ntmps16
      go_wp2_with (first | (go_at_call 69; refine (Try.strings_CutPrefix _ _ _).mono ?_; rintro e w' ⟨rfl, rfl⟩) | (go_at_call 70; refine (dots_plain (l.drop 4) _).mono ?_; rintro e w' ⟨rfl, rfl⟩))
      go_ret
      exact ⟨ret_str (by unfold toL; rw [h3, h1]; exact mk_append [46] _), rfl⟩
  · have h1 : Lib.hasPrefix l [100, 111, 116, 45] = false := by simpa using h1
    go_enter Try.func16, Try.ntmps16
    go_wp2_with (first | (go_at_call 69; refine (Try.strings_CutPrefix _ _ _).mono ?_; rintro e w' ⟨rfl, rfl⟩))
    go_ret
    exact ⟨ret_str (by unfold toL; rw [h1, Bool.false_and]; rfl), rfl⟩

set_option maxHeartbeats 400000 in
theorem dots_From (l : List UInt8) (w : World) (ha : l.length ≤ 140737488351300) :
    Calls Try.prog 15 #[.string (mk l)] w fun e w' => e = .returned (.string (mk (fromL l))) ∧ w = w' := by
  by_cases h1 : Lib.hasPrefix l [46] = true
  · have h2 : Lib.trimPrefix l [46] = l.tail := by unfold Lib.trimPrefix; rw [if_pos h1]; exact List.drop_one
    cases h3 : plainL l.tail
    · go_enter Try.func15, Try.ntmps15
      go_wp2_with (first | (go_at_call 69; refine (Try.strings_CutPrefix _ _ _).mono ?_; rintro e w' ⟨rfl, rfl⟩) | (go_at_call 70; refine (dots_plain l.tail _).mono ?_; rintro e w' ⟨rfl, rfl⟩))
      go_ret
      exact ⟨ret_str (by unfold fromL; rw [h3, Bool.and_false]; rfl), rfl⟩
    · go_enter Try.func15, Try.ntmps15
      go_wp2_with (first | (go_at_call 69; refine (Try.strings_CutPrefix _ _ _).mono ?_; rintro e w' ⟨rfl, rfl⟩) | (go_at_call 70; refine (dots_plain l.tail _).mono ?_; rintro e w' ⟨rfl, rfl⟩))
      go_ret
      exact ⟨ret_str (by unfold fromL; rw [h3, h1]; exact mk_append [100, 111, 116, 45] _), rfl⟩
  · have h1 : Lib.hasPrefix l [46] = false := by simpa using h1
    go_enter Try.func15, Try.ntmps15
    go_wp2_with (first | (go_at_call 69; refine (Try.strings_CutPrefix _ _ _).mono ?_; rintro e w' ⟨rfl, rfl⟩))
    go_ret
    exact ⟨ret_str (by unfold fromL; rw [h1, Bool.false_and]; rfl), rfl⟩

/-- A name is told apart from the one for which it stands. -/
theorem dots_Is (l : List UInt8) (w : World) (ha : l.length ≤ 140737488351300) :
    Calls Try.prog 14 #[.string (mk l)] w fun e w' => e = .returned (.bool (toL l != l)) ∧ w = w' := by
  go_enter Try.func14, Try.ntmps14
  go_wp2_with (go_at_call 16; refine (dots_To l _ ha).mono ?_; rintro e w' ⟨rfl, rfl⟩)
  go_ret
  exact ⟨rfl, rfl⟩

theorem to_none {l : List UInt8} (h : ¬ (4 < l.length ∧ l.take 4 = [100, 111, 116, 45] ∧ plainL (l.drop 4) = true)) : toL l = l := by
  unfold toL
  rw [if_neg]
  intro h'
  rw [Bool.and_eq_true] at h'
  obtain ⟨h1, h2⟩ := h'
  apply h
  rw [← Lib.hasPrefix_of_take] at h1
  simp at h1
  refine ⟨?_, h1.2, h2⟩
  apply Decidable.byContradiction
  intro h4
  rw [List.drop_eq_nil_of_le (by omega)] at h2
  simp [plainL] at h2
theorem to_some {l : List UInt8} (h : 4 ≤ l.length) (h1 : l.take 4 = [100, 111, 116, 45]) (h2 : plainL (l.drop 4) = true) : toL l = 46 :: l.drop 4 := by
  unfold toL
  rw [if_pos]
  rw [Bool.and_eq_true]
  refine ⟨?_, h2⟩
  rw [← Lib.hasPrefix_of_take]
  simp [h, h1]
theorem plain_at {l : List UInt8} {n : Nat} (h : n < l.length) : plainL (l.drop n) = (l[n] != 46) := by
  rw [List.drop_eq_getElem_cons h]; rfl

set_option maxHeartbeats 400000 in
theorem ref_To (l : List UInt8) (w : World) (ha : l.length ≤ 140737488351300) :
    Calls Try.prog 17 #[.string (mk l)] w fun e w' => e = .returned (.string (mk (toL l))) ∧ w = w' := by
  by_cases h1 : 4 < l.length
  · have hx : ((mk l).extract 0 4).toList = l.take 4 := by rw [mk_extract, mk_list]; rfl
    by_cases h2 : l.take 4 = [100, 111, 116, 45]
    · have h2b : (l.take 4 == ([100, 111, 116, 45] : List UInt8)) = true := by simp [h2]
      have hp := plain_at h1
      have hb := byte_ne l[4] 46 (by omega)
      have hs : (mk l).extract 4 l.length = mk (l.drop 4) := by rw [mk_extract, List.take_of_length_le (by simp)]
      cases h3 : (l[4] != 46)
      · rw [h3] at hp
        have h4 : ((l[4].toNat : Int) != 46) = false := by rw [← h3]; exact hb
        have hf := Lib.hid (to_none (l := l) (by rw [hp]; simp))
        clear hb h3 hp
        go_enter Try.func17, Try.ntmps17
        go_wp2
        go_ret
        exact ⟨ret_str (by rw [hf.out]), rfl⟩
      · rw [h3] at hp
        have h4 : ((l[4].toNat : Int) != 46) = true := by rw [← h3]; exact hb
        have hf := Lib.hid (to_some (by omega) h2 hp)
        clear hb h3 hp
        go_enter Try.func17, Try.ntmps17
        go_wp2
        go_ret
        exact ⟨ret_str (by rw [hf.out]; exact mk_append [46] _), rfl⟩
    · have h2b : (l.take 4 == ([100, 111, 116, 45] : List UInt8)) = false := by simpa using h2
      have hf := Lib.hid (to_none (l := l) (fun h => h2 h.2.1))
      go_enter Try.func17, Try.ntmps17
      go_wp2
      go_ret
      exact ⟨ret_str (by rw [hf.out]), rfl⟩
  · have hf := Lib.hid (to_none (l := l) (fun h => h1 h.1))
    go_enter Try.func17, Try.ntmps17
    go_wp2
    go_ret
    exact ⟨ret_str (by rw [hf.out]), rfl⟩

theorem from_none {l : List UInt8} (h : ¬ (∃ c d r, l = c :: d :: r ∧ c = 46 ∧ d ≠ 46)) : fromL l = l := by
  unfold fromL
  rw [if_neg]
  intro h'
  rw [Bool.and_eq_true] at h'
  obtain ⟨h1, h2⟩ := h'
  apply h
  match l, h1, h2 with
  | [], _, h2 => simp [plainL] at h2
  | [c], _, h2 => simp [plainL] at h2
  | c :: d :: r, h1, h2 => exact ⟨c, d, r, rfl, by simp [Lib.hasPrefix] at h1; exact h1.symm, by simpa [plainL] using h2⟩
theorem from_some {c d : UInt8} {r : List UInt8} (h1 : c = 46) (h2 : d ≠ 46) : fromL (c :: d :: r) = [100, 111, 116, 45] ++ d :: r := by
  subst h1
  unfold fromL
  rw [if_pos]
  · rfl
  · simp [Lib.hasPrefix, plainL, h2]

theorem two_of {l : List UInt8} (h : 1 < l.length) : ∃ r, l = l[0] :: l[1] :: r := by
  match l, h with
  | c :: d :: r, _ => exact ⟨r, rfl⟩

set_option maxHeartbeats 400000 in
theorem ref_From (l : List UInt8) (w : World) (ha : l.length ≤ 140737488351300) :
    Calls Try.prog 18 #[.string (mk l)] w fun e w' => e = .returned (.string (mk (fromL l))) ∧ w = w' := by
  by_cases h : 1 < l.length
  · obtain ⟨r, e⟩ := two_of h
    have hx : (mk l).extract 1 l.length = mk l.tail := by rw [mk_extract, List.take_of_length_le (by simp), List.drop_one]
    have h0 : ((l[0].toNat : Int) == 46) = (l[0] == 46) := byte_eq _ 46 (by omega)
    have h1 : ((l[1].toNat : Int) != 46) = (l[1] != 46) := byte_ne _ 46 (by omega)
    have hn : ¬ (l[0] = 46 ∧ l[1] ≠ 46) → fromL l = l := fun hh => from_none (by rintro ⟨c, d, t, e', p, q⟩; rw [e] at e'; simp only [List.cons.injEq] at e'; exact hh ⟨by rw [e'.1]; exact p, by rw [e'.2.1]; exact q⟩)
    have hy : l[0] = 46 → l[1] ≠ 46 → fromL l = [100, 111, 116, 45] ++ l.tail := fun p q => by
      generalize hc : l[0] = c at *; generalize hd : l[1] = d at *; rw [e]; exact from_some p q
    have h2 : 0 < l.length := by omega
    clear e
    by_cases hc : l[0] = 46
    · have hcb : (l[0] == 46) = true := by simpa using hc
      by_cases hd : l[1] = 46
      · have hdb : (l[1] != 46) = false := by simpa using hd
        have hf := Lib.hid (hn (fun z => z.2 hd))
        have h0 := beq_iff_eq.1 (h0.trans hcb)
        have h1 := h1.trans hdb
        clear hc hd hcb hdb hn hy
        go_enter Try.func18, Try.ntmps18
        go_wp2
        go_ret
        exact ⟨ret_str (by rw [hf.out]), rfl⟩
      · have hdb : (l[1] != 46) = true := by simpa using hd
        have hf := Lib.hid (hy hc hd)
        have h0 := beq_iff_eq.1 (h0.trans hcb)
        have h1 := h1.trans hdb
        clear hc hd hcb hdb hn hy
        go_enter Try.func18, Try.ntmps18
        go_wp2
        go_ret
        exact ⟨ret_str (by rw [hf.out]; exact mk_append [100, 111, 116, 45] _), rfl⟩
    · have hcb : (l[0] == 46) = false := by simpa using hc
      have hf := Lib.hid (hn (fun z => hc z.1))
      have h0 := h0.trans hcb
      clear hc hcb h1 hn hy
      go_enter Try.func18, Try.ntmps18
      go_wp2
      go_ret
      exact ⟨ret_str (by rw [hf.out]), rfl⟩
  · have hf := Lib.hid (from_none (l := l) (by rintro ⟨c, d, r, rfl, _⟩; simp at h))
    go_enter Try.func18, Try.ntmps18
    go_wp2
    go_ret
    exact ⟨ret_str (by rw [hf.out]), rfl⟩

theorem dots_lives (w : World) : Calls Try.prog 19 #[] w fun e w' => e = .returned (.bool true) ∧ w = w' := by
  have e1 : toL [100, 111, 116, 45, 97] = [46, 97] := by decide
  have e2 : fromL [46, 97] = [100, 111, 116, 45, 97] := by decide
  go_enter Try.func19, Try.ntmps19
  go_wp2_with (first | (go_at_call 16; refine (dots_To [100, 111, 116, 45, 97] _ (by simp)).mono ?_; rintro e w' ⟨rfl, rfl⟩) | (go_at_call 15; refine (dots_From [46, 97] _ (by simp)).mono ?_; rintro e w' ⟨rfl, rfl⟩) | (go_at_call 14; refine (dots_Is [100, 111, 116, 45, 97] _ (by simp)).mono ?_; rintro e w' ⟨rfl, rfl⟩))
  go_ret
  exact ⟨rfl, rfl⟩

/-! The law: there and back. -/
theorem to_back {l : List UInt8} (h : toL l ≠ l) : fromL (toL l) = l := by
  by_cases hh : 4 < l.length ∧ l.take 4 = [100, 111, 116, 45] ∧ plainL (l.drop 4) = true
  · obtain ⟨h1, h2, h3⟩ := hh
    rw [to_some (by omega) h2 h3]
    obtain ⟨d, r, e⟩ : ∃ d r, l.drop 4 = d :: r := by
      rw [List.drop_eq_getElem_cons h1]; exact ⟨_, _, rfl⟩
    rw [e] at h3 ⊢
    rw [from_some rfl (by simpa [plainL] using h3), ← h2, ← e, List.take_append_drop]
  · exact absurd (to_none hh) h
theorem from_back {l : List UInt8} (h : fromL l ≠ l) : toL (fromL l) = l := by
  by_cases hh : ∃ c d r, l = c :: d :: r ∧ c = 46 ∧ d ≠ 46
  · obtain ⟨c, d, r, rfl, rfl, h2⟩ := hh
    rw [from_some rfl h2]
    exact to_some (by simp) rfl (by simpa [plainL] using h2)
  · exact absurd (from_none hh) h
theorem from_le (l : List UInt8) : (fromL l).length ≤ l.length + 3 := by
  unfold fromL
  split
  · rename_i h
    rw [Bool.and_eq_true] at h
    cases l with
    | nil => simp [plainL] at h
    | cons c r => simp
  · omega
theorem to_le (l : List UInt8) : (toL l).length ≤ l.length := by
  by_cases hh : 4 < l.length ∧ l.take 4 = [100, 111, 116, 45] ∧ plainL (l.drop 4) = true
  · rw [to_some (by omega) hh.2.1 hh.2.2]; simp; omega
  · rw [to_none hh]; omega

end Go.Proofs.Ytmjggjccmbiheaa
