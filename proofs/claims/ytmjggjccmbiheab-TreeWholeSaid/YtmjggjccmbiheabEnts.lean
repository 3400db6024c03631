/- Slices of entries: how they lie; ents.Right and the reference's Right, step by step. -/
import Derived.Test.YtmjggjccmbiheabSorts
import Derived.Test.YtmjggjccmbiheabSortRef
namespace Go.Proofs.Ytmjggjccmbiheab
open Go.RowKit Go.Proofs Go.Sort
attribute [local go_sem] mk_list mk_size mk_data

abbrev En := Tx × Int
/-- The cells behind a slice's address read as these entries. -/
def EntsAt (w : World) (a : Option Addr) (xs : List En) : Prop :=
  xs = [] ∨ ∃ b off, a = some ⟨b, off, none⟩ ∧ b < w.heap.size ∧ ∀ (j : Nat) (h : j < xs.length), w.cell? ⟨b, off + j * 2, none⟩ = some (.string (mk xs[j].1)) ∧ w.cell? ⟨b, off + j * 2 + 1, none⟩ = some (.int .i64 xs[j].2)
theorem EntsAt.below {w w' : World} {a : Option Addr} {xs : List En} (h : EntsAt w a xs) (hb : Below w.heap.size w w') : EntsAt w' a xs := by
  rcases h with h | ⟨b, off, e, hlt, hc⟩
  · exact .inl h
  · exact .inr ⟨b, off, e, Nat.lt_of_lt_of_le hlt hb.size, fun j hj => ⟨(hb.cell (p := ⟨b, off + j * 2, none⟩) hlt).trans (hc j hj).1, (hb.cell (p := ⟨b, off + j * 2 + 1, none⟩) hlt).trans (hc j hj).2⟩⟩
theorem EntsAt.drewN {w : World} {a : Option Addr} {xs : List En} (h : EntsAt w a xs) (n : Nat) : EntsAt (w.drewN n) a xs := h.below (below_drewN (Below.refl _ _) n)
theorem EntsAt.cells {w : World} {a : Option Addr} {xs : List En} (h : EntsAt w a xs) {k : Nat} (hk : k < xs.length) : ∃ b off, a = some ⟨b, off, none⟩ ∧ b < w.heap.size ∧ ∀ (j : Nat) (h : j < xs.length), w.cell? ⟨b, off + j * 2, none⟩ = some (.string (mk xs[j].1)) ∧ w.cell? ⟨b, off + j * 2 + 1, none⟩ = some (.int .i64 xs[j].2) := by
  rcases h with rfl | h
  · simp at hk
  · exact h

def rise : List En → Bool
  | x :: y :: l => decide (x.1 < y.1) && rise (y :: l)
  | _ => true
theorem rise_iff : ∀ l : List En, rise l = true ↔ ∀ (j : Nat) (h : j + 1 < l.length), l[j].1 < l[j+1].1
  | [] => by simp [rise]
  | [x] => by simp [rise]
  | x :: y :: l => by
    rw [rise, Bool.and_eq_true, rise_iff (y :: l)]
    constructor
    · rintro ⟨h1, h2⟩ j h
      cases j with
      | zero => simpa using h1
      | succ j => exact h2 j (by simpa using h)
    · intro h
      refine ⟨by simpa using h 0 (by simp), fun j hj => ?_⟩
      exact h (j + 1) (by simpa using hj)
theorem rise_true {l : List En} {n k : Nat} (hn : l.length = n) (hk : k + 1 ≥ n) (h : ∀ (j : Nat) (_ : j < k) (h' : j + 1 < l.length), l[j].1 < l[j+1].1) : rise l = true :=
  (rise_iff l).2 fun j hj => h j (by omega) hj
theorem rise_false {l : List En} {k : Nat} (hk : k + 1 < l.length) (h : ¬ l[k].1 < l[k+1].1) : rise l = false := by
  cases hr : rise l
  · rfl
  · exact absurd ((rise_iff l).1 hr k hk) h

theorem le_bytes {x y : Tx} (h : (Op.bytesLess y x || y == x) = false) : x < y := by
  rw [Bool.or_eq_false_iff, bytesLess_eq] at h
  have h1 := of_decide_eq_false h.1
  have h2 : y ≠ x := by simpa using h.2
  exact tx_lt_of (List.not_lt.1 h1) (Ne.symm h2)
theorem le_bytes' {x y : Tx} (h : (Op.bytesLess y x || y == x) = true) : ¬ x < y := by
  rw [Bool.or_eq_true, bytesLess_eq] at h
  intro hl
  rcases h with h | h
  · exact List.lt_irrefl _ (List.lt_trans hl (of_decide_eq_true h))
  · have : y = x := by simpa using h
    subst this; exact List.lt_irrefl _ hl

set_option maxHeartbeats 2000000 in
theorem ents_Right (a : Option Addr) (c : Nat) (xs : List En) (w : World) (h : EntsAt w a xs) (hl : xs.length ≤ 1000000000000) :
    Calls Try.prog 53 #[.slice a xs.length c] w fun e w' => e = .returned (.bool (rise xs)) ∧ ∃ q, w' = w.drewN q := by
  obtain ⟨n, hn⟩ : ∃ n, xs.length = n := ⟨_, rfl⟩
  have HN := Lib.hid hn
  rw [hn] at hl ⊢
  clear hn
  go_enter Try.func53, Try.ntmps53
  go_wp2_with fail
  go_loopg [3] n (fun g i wx => ∃ k : Nat, k + g = n ∧ i = .int .i64 ((k : Int) + 1) ∧ Hid (∀ (j : Nat) (_ : j < k) (h' : j + 1 < xs.length), xs[j].1 < xs[j+1].1) ∧ ∃ q, wx = w.drewN q)
  case atStart => exact ⟨0, by omega, rfl, Lib.hid (fun j h => absurd h (Nat.not_lt_zero _)), 0, rfl⟩
  case round =>
    obtain ⟨k, hk, rfl, hp, q, rfl⟩ := hrel
    by_cases hkn : k + 1 < n
    · obtain ⟨g, rfl⟩ : ∃ g, gk = g + 1 := ⟨gk - 1, by omega⟩
      have hk1 : k < xs.length := by have := HN.out; omega
      have hk2 : k + 1 < xs.length := by have := HN.out; omega
      obtain ⟨b1, o1, rfl, l1, e1⟩ := h.cells hk1
      have f1 : (w.drewN q).cell? ⟨b1, o1 + k * 2, none⟩ = some (.string (mk xs[k].1)) := (e1 k hk1).1
      have f2 : (w.drewN q).cell? ⟨b1, o1 + (k + 1) * 2, none⟩ = some (.string (mk xs[k+1].1)) := (e1 (k+1) hk2).1
      obtain ⟨x, hx⟩ : ∃ x, xs[k].1 = x := ⟨_, rfl⟩
      obtain ⟨y, hy⟩ : ∃ y, xs[k+1].1 = y := ⟨_, rfl⟩
      rw [hx] at f1
      rw [hy] at f2
      have HX := Lib.hid (And.intro hx hy)
      obtain ⟨W, hW⟩ : ∃ W, w.drewN q = W := ⟨_, rfl⟩
      rw [hW] at f1 f2 ⊢
      have HW := Lib.hid hW
      have hk0 : (0 : Int) ≤ (k : Int) := by omega
      have hkn' : (k : Int) + 1 < (n : Int) := by omega
      clear hx hy hW e1 h
      cases hb : (Op.bytesLess y x || y == x)
      · have HL := Lib.hid (le_bytes hb)
        go_wp2_with fail
        go_quiet (fail)
        go_wp2_with fail
        go_roundg g
        case measure => omega
        case rel => exact ⟨k + 1, by omega, by go_num, Lib.hid (fun j h h' => by
          by_cases e : j = k
          · subst e; rw [HX.out.1, HX.out.2]; exact HL.out
          · exact hp.out j (by omega) h'), _, by rw [← HW.out]; exact World.drewN_drewN ..⟩
      · have HF := Lib.hid (rise_false hk2 (by rw [HX.out.1, HX.out.2]; exact le_bytes' hb))
        go_wp2_with fail
        go_quiet (fail)
        go_wp2_with fail
        go_ret
        exact ⟨ret_bool (by rw [HF.out]), _, by rw [← HW.out]; exact World.drewN_drewN ..⟩
    · have hf := Lib.hid (show rise xs = true from rise_true HN.out (by omega) hp.out)
      have hlt : ¬ ((k : Int) + 1 < n) := by omega
      go_wp2
      go_ret
      exact ⟨ret_bool (by rw [hf.out]), q, rfl⟩

set_option maxHeartbeats 2000000 in
theorem ref6_Right (a : Option Addr) (c : Nat) (xs : List En) (w : World) (h : EntsAt w a xs) (hl : xs.length ≤ 1000000000000) :
    Calls Try.prog 72 #[.slice a xs.length c] w fun e w' => e = .returned (.bool (rise xs)) ∧ ∃ q, w' = w.drewN q := by
  obtain ⟨n, hn⟩ : ∃ n, xs.length = n := ⟨_, rfl⟩
  have HN := Lib.hid hn
  rw [hn] at hl ⊢
  clear hn
  go_enter Try.func72, Try.ntmps72
  go_wp2_with fail
  go_loopg [3] n (fun g i wx => ∃ k : Nat, k + g = n ∧ i = .int .i64 (k : Int) ∧ Hid (∀ (j : Nat) (_ : j < k) (h' : j + 1 < xs.length), xs[j].1 < xs[j+1].1) ∧ ∃ q, wx = w.drewN q)
  case atStart => exact ⟨0, by omega, rfl, Lib.hid (fun j h => absurd h (Nat.not_lt_zero _)), 0, rfl⟩
  case round =>
    obtain ⟨k, hk, rfl, hp, q, rfl⟩ := hrel
    by_cases hkn : k + 1 < n
    · obtain ⟨g, rfl⟩ : ∃ g, gk = g + 1 := ⟨gk - 1, by omega⟩
      have hk1 : k < xs.length := by have := HN.out; omega
      have hk2 : k + 1 < xs.length := by have := HN.out; omega
      obtain ⟨b1, o1, rfl, l1, e1⟩ := h.cells hk1
      have f1 : (w.drewN q).cell? ⟨b1, o1 + k * 2, none⟩ = some (.string (mk xs[k].1)) := (e1 k hk1).1
      have f2 : (w.drewN q).cell? ⟨b1, o1 + (k + 1) * 2, none⟩ = some (.string (mk xs[k+1].1)) := (e1 (k+1) hk2).1
      obtain ⟨x, hx⟩ : ∃ x, xs[k].1 = x := ⟨_, rfl⟩
      obtain ⟨y, hy⟩ : ∃ y, xs[k+1].1 = y := ⟨_, rfl⟩
      rw [hx] at f1
      rw [hy] at f2
      have HX := Lib.hid (And.intro hx hy)
      obtain ⟨W, hW⟩ : ∃ W, w.drewN q = W := ⟨_, rfl⟩
      rw [hW] at f1 f2 ⊢
      have HW := Lib.hid hW
      have hk0 : (0 : Int) ≤ (k : Int) := by omega
      have hkn' : (k : Int) + 1 < (n : Int) := by omega
      clear hx hy hW e1 h
      cases hb : Op.bytesLess x y
      · have HF := Lib.hid (rise_false hk2 (by rw [HX.out.1, HX.out.2]; exact of_decide_eq_false ((bytesLess_eq x y).symm.trans hb)))
        go_wp2_with fail
        go_quiet (fail)
        go_wp2_with fail
        go_ret
        exact ⟨ret_bool (by rw [HF.out]), _, by rw [← HW.out]; exact World.drewN_drewN ..⟩
      · have HL := Lib.hid (of_decide_eq_true ((bytesLess_eq x y).symm.trans hb))
        go_wp2_with fail
        go_quiet (fail)
        go_wp2_with fail
        go_roundg g
        case measure => omega
        case rel => exact ⟨k + 1, by omega, by go_num, Lib.hid (fun j h h' => by
          by_cases e : j = k
          · subst e; rw [HX.out.1, HX.out.2]; exact HL.out
          · exact hp.out j (by omega) h'), _, by rw [← HW.out]; exact World.drewN_drewN ..⟩
    · have hf := Lib.hid (show rise xs = true from rise_true HN.out (by omega) hp.out)
      have hlt : ¬ ((k : Int) + 1 < n) := by omega
      go_wp2
      go_ret
      exact ⟨ret_bool (by rw [hf.out]), q, rfl⟩

/-- The entries, or none. -/
def allE (xs : List En) : List En := if rise xs then xs else []
theorem allE_le (xs : List En) : (allE xs).length ≤ xs.length := by unfold allE; split <;> simp
theorem rise_allE (xs : List En) : rise (allE xs) = true := by
  unfold allE
  split
  · assumption
  · rfl

theorem ents_all (a : Option Addr) (c : Nat) (xs : List En) (w : World) (h : EntsAt w a xs) (hl : xs.length ≤ 1000000000000) :
    Calls Try.prog 47 #[.slice a xs.length c] w fun e w' => ∃ a' c', e = .returned (.slice a' (allE xs).length c') ∧ EntsAt w' a' (allE xs) ∧ ∃ q, w' = w.drewN q := by
  have hR := ents_Right a c xs w h hl
  have HS := Lib.hid (show allE xs = if rise xs then xs else [] from rfl)
  have HH := Lib.hid h
  obtain ⟨n, hn⟩ : ∃ n, xs.length = n := ⟨_, rfl⟩
  have HN := Lib.hid hn
  rw [hn] at hR ⊢
  clear hn h
  cases hr : rise xs
  · rw [hr] at hR HS
    have he : allE xs = [] := HS.out
    rw [he]
    go_enter Try.func47, Try.ntmps47
    go_wp2_with (go_at_call 53; refine hR.mono ?_; rintro e w' ⟨rfl, q, rfl⟩)
    go_ret
    exact ⟨none, 0, rfl, .inl rfl, q, rfl⟩
  · rw [hr] at hR HS
    have he : allE xs = xs := HS.out
    rw [he]
    go_enter Try.func47, Try.ntmps47
    go_wp2_with (go_at_call 53; refine hR.mono ?_; rintro e w' ⟨rfl, q, rfl⟩)
    go_ret
    exact ⟨a, c, by rw [HN.out]; rfl, HH.out.drewN q, q, rfl⟩

theorem ref6_all (a : Option Addr) (c : Nat) (xs : List En) (w : World) (h : EntsAt w a xs) (hl : xs.length ≤ 1000000000000) :
    Calls Try.prog 66 #[.slice a xs.length c] w fun e w' => ∃ a' c', e = .returned (.slice a' (allE xs).length c') ∧ EntsAt w' a' (allE xs) ∧ ∃ q, w' = w.drewN q := by
  have hR := ref6_Right a c xs w h hl
  have HS := Lib.hid (show allE xs = if rise xs then xs else [] from rfl)
  have HH := Lib.hid h
  obtain ⟨n, hn⟩ : ∃ n, xs.length = n := ⟨_, rfl⟩
  have HN := Lib.hid hn
  rw [hn] at hR ⊢
  clear hn h
  cases hr : rise xs
  · rw [hr] at hR HS
    have he : allE xs = [] := HS.out
    rw [he]
    go_enter Try.func66, Try.ntmps66
    go_wp2_with (go_at_call 72; refine hR.mono ?_; rintro e w' ⟨rfl, q, rfl⟩)
    go_ret
    exact ⟨none, 0, rfl, .inl rfl, q, rfl⟩
  · rw [hr] at hR HS
    have he : allE xs = xs := HS.out
    rw [he]
    go_enter Try.func66, Try.ntmps66
    go_wp2_with (go_at_call 72; refine hR.mono ?_; rintro e w' ⟨rfl, q, rfl⟩)
    go_ret
    exact ⟨a, c, by rw [HN.out]; rfl, HH.out.drewN q, q, rfl⟩
end Go.Proofs.Ytmjggjccmbiheab
