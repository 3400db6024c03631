/- ents.at, step by step: where a name stands among rising entries. -/
import Derived.Test.YtmjggjccmbiheabEnts
namespace Go.Proofs.Ytmjggjccmbiheab
open Go.RowKit Go.Proofs Go.Sort
attribute [local go_sem] mk_list mk_size mk_data

def cmpI (x y : Tx) : Int := if x < y then -1 else if y < x then 1 else 0
theorem cmpI_neg (x y : Tx) : decide (cmpI x y < 0) = decide (x < y) := by
  unfold cmpI
  by_cases h : x < y
  · simp [h]
  · by_cases h2 : y < x <;> simp [h, h2]
theorem cmpI_zero (x y : Tx) : (cmpI x y == 0) = (x == y) := by
  unfold cmpI
  by_cases h : x < y
  · have : x ≠ y := by rintro rfl; exact List.lt_irrefl _ h
    simp [h, this]
  · by_cases h2 : y < x
    · have : x ≠ y := by rintro rfl; exact List.lt_irrefl _ h2
      simp [h, h2, this]
    · have : x = y := List.le_antisymm (List.not_lt.1 h2) (List.not_lt.1 h)
      simp [this, List.lt_irrefl]

theorem cmp_isNaN (x : Tx) (w : World) : Calls Try.prog 64 #[.string (mk x)] w fun e w' => e = .returned (.bool false) ∧ w' = w := by
  go_enter Try.func64, Try.ntmps64
  go_wp2
  go_ret
  exact ⟨rfl, rfl⟩
theorem cmp_Compare (x y : Tx) (w : World) : Calls Try.prog 56 #[.string (mk x), .string (mk y)] w fun e w' => e = .returned (.int .i64 (cmpI x y)) ∧ w' = w := by
  have HC := Lib.hid (show cmpI x y = if x < y then -1 else if y < x then 1 else 0 from rfl)
  have e1 := bytesLess_eq x y
  have e2 := bytesLess_eq y x
  by_cases l1 : x < y
  · rw [decide_eq_true l1] at e1
    rw [if_pos l1] at HC
    clear e2
    go_enter Try.func56, Try.ntmps56
    go_wp2_with (go_at_call 64; refine (cmp_isNaN _ _).mono ?_; rintro e w' ⟨rfl, rfl⟩)
    go_ret
    exact ⟨ret_i64 HC.out.symm, rfl⟩
  · rw [decide_eq_false l1] at e1
    rw [if_neg l1] at HC
    by_cases l2 : y < x
    · have e3 : (x == y) = false := by simpa using (show x ≠ y by rintro rfl; exact List.lt_irrefl _ l2)
      clear e2
      rw [if_pos l2] at HC
      go_enter Try.func56, Try.ntmps56
      go_wp2_with (go_at_call 64; refine (cmp_isNaN _ _).mono ?_; rintro e w' ⟨rfl, rfl⟩)
      go_ret
      exact ⟨ret_i64 HC.out.symm, rfl⟩
    · have e3 : (x == y) = true := by simpa using List.le_antisymm (List.not_lt.1 l2) (List.not_lt.1 l1)
      clear e2
      rw [if_neg l2] at HC
      go_enter Try.func56, Try.ntmps56
      go_wp2_with (go_at_call 64; refine (cmp_isNaN _ _).mono ?_; rintro e w' ⟨rfl, rfl⟩)
      go_ret
      exact ⟨ret_i64 HC.out.symm, rfl⟩

theorem at_cmp (x s : Tx) (n : Int) (w : World) : Calls Try.prog 55 #[.agg #[.string (mk x), .int .i64 n], .string (mk s)] w fun e w' => e = .returned (.int .i64 (cmpI x s)) ∧ Below w.heap.size w w' := by
  go_enter Try.func55, Try.ntmps55
  go_wp2_with (go_at_call 56; refine (cmp_Compare _ _ _).mono ?_; rintro e w' ⟨rfl, rfl⟩)
  go_ret
  exact ⟨rfl, (Below.refl _ _).alloc (Nat.le_refl _) _⟩

theorem find_iff {l : List Tx} {s : Tx} (hp : l.Pairwise (· < ·)) {k : Nat} (h : k < l.length) : l[k] < s ↔ k < findI l s := by
  constructor
  · intro hl
    rcases Nat.lt_or_ge k (findI l s) with h1 | h1
    · exact h1
    · have h0 : findI l s < l.length := by omega
      have h3 := find_at h0
      rcases Nat.lt_or_eq_of_le h1 with h2 | h2
      · exact absurd (List.lt_trans (List.pairwise_iff_getElem.1 hp _ _ h0 h h2) hl) h3
      · subst h2; exact absurd hl h3
  · exact fun h1 => find_lt h1 h
theorem rise_pairwise {l : List En} (h : rise l = true) : (l.map (·.1)).Pairwise (· < ·) := by
  rw [rise_iff] at h
  rw [List.pairwise_iff_getElem]
  intro i j hi hj hij
  simp only [List.length_map] at hi hj
  obtain ⟨d, rfl⟩ : ∃ d, j = i + 1 + d := ⟨j - (i + 1), by omega⟩
  induction d with
  | zero => simpa using h i (by omega)
  | succ d ih =>
    have h1 := ih (by omega) (by omega) (by omega)
    have h2 := h (i + 1 + d) (by omega)
    simp only [List.getElem_map] at h1 ⊢
    exact List.lt_trans h1 h2

/-- Where a name stands, and whether it does. -/
def atI (xs : List En) (s : Tx) : Nat := findI (xs.map (·.1)) s
def atB (xs : List En) (s : Tx) : Bool := findB (xs.map (·.1)) s
theorem atI_le (xs : List En) (s : Tx) : atI xs s ≤ xs.length := by
  have := findI_le s (xs.map (·.1)); simpa [atI] using this
theorem at_iff {xs : List En} {s : Tx} (hr : rise xs = true) {k : Nat} (h : k < xs.length) : xs[k].1 < s ↔ k < atI xs s := by
  have := find_iff (s := s) (rise_pairwise hr) (k := k) (by simpa using h)
  simpa [atI] using this
theorem at_in {xs : List En} {s : Tx} (h : atI xs s < xs.length) : (xs[atI xs s].1 == s) = atB xs s := by
  unfold atB findB atI
  unfold atI at h
  rw [Bool.eq_iff_iff]
  simp only [beq_iff_eq, decide_eq_true_eq, List.getElem?_map, List.getElem?_eq_getElem h, Option.map_some, Option.some.injEq]
theorem at_out {xs : List En} {s : Tx} (h : ¬ atI xs s < xs.length) : atB xs s = false := by
  unfold atB findB
  unfold atI at h
  apply decide_eq_false
  rw [List.getElem?_map, List.getElem?_eq_none (by omega)]
  simp

set_option maxRecDepth 100000 in
set_option maxHeartbeats 2000000 in
theorem ents_bsf (a : Option Addr) (c : Nat) (xs : List En) (s : Tx) (w : World) (h : EntsAt w a xs) (hl : xs.length ≤ 1000000000000) (hr : rise xs = true) :
    Calls Try.prog 54 #[.slice a xs.length c, .string (mk s), .func (.func 55) #[] #[]] w fun e w' => e = .returned (.tuple #[.int .i64 (atI xs s), .bool (atB xs s)]) ∧ Below w.heap.size w w' := by
  obtain ⟨n, hn⟩ : ∃ n, xs.length = n := ⟨_, rfl⟩
  have HN := Lib.hid hn
  have HR := Lib.hid hr
  have HH := Lib.hid h
  rw [hn] at hl ⊢
  clear hn hr h
  go_enter Try.func54, Try.ntmps54
  go_wp2_with fail
  go_loopg [9, 10] n (fun g i j wx => ∃ k m : Nat, (k ≤ m ∧ m - k ≤ g) ∧ i = .int .i64 (k : Int) ∧ j = .int .i64 (m : Int) ∧ Hid (k ≤ atI xs s ∧ atI xs s ≤ m ∧ m ≤ n) ∧ Below w.heap.size w wx)
  case atStart => exact ⟨0, n, ⟨Nat.zero_le _, Nat.le_refl _⟩, rfl, rfl, Lib.hid ⟨Nat.zero_le _, by have := HN.out; rw [← this]; exact atI_le xs s, Nat.le_refl _⟩, Below.refl _ _⟩
  case round =>
    obtain ⟨k, m, hk, rfl, rfl, hp, hb⟩ := hrel
    by_cases hkm : m ≤ k
    · obtain rfl : k = m := by omega
      have hke : atI xs s = k := by have := hp.out; omega
      have HB := Lib.hid hb
      by_cases hkn : k < n
      · have hh : k < xs.length := by have := HN.out; omega
        obtain ⟨b1, o1, rfl, l1, e1⟩ := HH.out.cells hh
        have f1 := (hb.cell (p := ⟨b1, o1 + k * 2, none⟩) l1).trans (e1 _ hh).1
        have f2 := (hb.cell (p := ⟨b1, o1 + k * 2 + 1, none⟩) l1).trans (e1 _ hh).2
        obtain ⟨x, hx⟩ : ∃ x, xs[k].1 = x := ⟨_, rfl⟩
        obtain ⟨v, hv⟩ : ∃ v, xs[k].2 = v := ⟨_, rfl⟩
        rw [hx] at f1
        rw [hv] at f2
        have HF := Lib.hid (show (x == s) = atB xs s by rw [← hx]; have := at_in (xs := xs) (s := s) (by rw [hke]; exact hh); simpa [hke] using this)
        have hneg := cmpI_zero x s
        clear hx hv e1 hb l1
        have HK := Lib.hid hke
        clear hke
        go_wp2_with (go_at_call 55; refine (at_cmp _ _ _ _).mono ?_; rintro e w' ⟨rfl, hb'⟩)
        go_ret2
        exact ⟨ret_ib (by rw [HK.out]) HF.out, below_then HB.out HB.out.size hb'⟩
      · have HF := Lib.hid (at_out (xs := xs) (s := s) (by have := HN.out; omega))
        have HK := Lib.hid hke
        clear hke hb
        go_wp2
        go_ret2
        exact ⟨ret_ib (by rw [HK.out]) HF.out.symm, HB.out⟩
    · have hkm : k < m := by omega
      have hmn : m ≤ n := hp.out.2.2
      have hh : (k + m) / 2 < xs.length := by have := HN.out; omega
      obtain ⟨b1, o1, rfl, l1, e1⟩ := HH.out.cells hh
      have hl1 : b1 < w.heap.size := l1
      have f1 := (hb.cell (p := ⟨b1, o1 + (k + m) / 2 * 2, none⟩) hl1).trans (e1 _ hh).1
      have f2 := (hb.cell (p := ⟨b1, o1 + (k + m) / 2 * 2 + 1, none⟩) hl1).trans (e1 _ hh).2
      obtain ⟨x, hx⟩ : ∃ x, xs[(k + m) / 2].1 = x := ⟨_, rfl⟩
      obtain ⟨v, hv⟩ : ∃ v, xs[(k + m) / 2].2 = v := ⟨_, rfl⟩
      rw [hx] at f1
      rw [hv] at f2
      have HX := Lib.hid hx
      have HB := Lib.hid hb
      have hiff := at_iff (s := s) HR.out hh
      rw [hx] at hiff
      have hneg := cmpI_neg x s
      clear hx hv e1 hb l1 hl1
      by_cases hxs : x < s
      · rw [decide_eq_true hxs] at hneg
        have HI := Lib.hid (hiff.1 hxs)
        clear hiff
        go_wp2_with (go_at_call 55; refine (at_cmp _ _ _ _).mono ?_; rintro e w' ⟨rfl, hb'⟩)
        go_roundg (m - ((k + m) / 2 + 1))
        case measure => omega
        case rel => exact ⟨(k + m) / 2 + 1, m, by omega, by rw [show ((k : Int) + (m : Int)) / 2 + 1 = (((k + m) / 2 + 1 : Nat) : Int) by omega], rfl, Lib.hid ⟨HI.out, hp.out.2.1, hmn⟩, below_then HB.out HB.out.size hb'⟩
      · rw [decide_eq_false hxs] at hneg
        have HI := Lib.hid (Nat.le_of_not_lt (fun h => hxs (hiff.2 h)))
        clear hiff
        go_wp2_with (go_at_call 55; refine (at_cmp _ _ _ _).mono ?_; rintro e w' ⟨rfl, hb'⟩)
        go_roundg ((k + m) / 2 - k)
        case measure => omega
        case rel => exact ⟨k, (k + m) / 2, by omega, rfl, by rw [show ((k : Int) + (m : Int)) / 2 = (((k + m) / 2 : Nat) : Int) by omega], Lib.hid ⟨hp.out.1, HI.out, by omega⟩, below_then HB.out HB.out.size hb'⟩

theorem ents_at (a : Option Addr) (c : Nat) (xs : List En) (s : Tx) (w : World) (h : EntsAt w a xs) (hl : xs.length ≤ 1000000000000) (hr : rise xs = true) :
    Calls Try.prog 48 #[.slice a xs.length c, .string (mk s)] w fun e w' => e = .returned (.tuple #[.int .i64 (atI xs s), .bool (atB xs s)]) ∧ Below w.heap.size w w' := by
  have h1 := ents_bsf a c xs s w h hl hr
  obtain ⟨n, hn⟩ : ∃ n, xs.length = n := ⟨_, rfl⟩
  rw [hn] at h1 ⊢
  clear hn h hr hl
  generalize atI xs s = i at *
  generalize atB xs s = b at *
  go_enter Try.func48, Try.ntmps48
  go_wp2_with (go_at_call 54; refine h1.mono ?_; rintro e w' ⟨rfl, hb⟩)
  go_ret2
  exact ⟨rfl, hb⟩
end Go.Proofs.Ytmjggjccmbiheab
