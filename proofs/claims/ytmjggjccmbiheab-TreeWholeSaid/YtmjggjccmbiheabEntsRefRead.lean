/- The reference's Next and Same over entries, step by step. -/
import Derived.Test.YtmjggjccmbiheabEntsRead
namespace Go.Proofs.Ytmjggjccmbiheab
open Go.RowKit Go.Proofs Go.Sort
attribute [local go_sem] mk_list mk_size mk_data

theorem gt_ways (x s : Tx) : (Op.bytesLess x s = true ∧ ¬ s < x) ∨ (Op.bytesLess x s = false ∧ (x == s) = true ∧ ¬ s < x) ∨ (Op.bytesLess x s = false ∧ (x == s) = false ∧ s < x) := by
  rw [bytesLess_eq]
  by_cases h : x < s
  · exact .inl ⟨decide_eq_true h, fun h2 => List.lt_irrefl _ (List.lt_trans h h2)⟩
  · rw [decide_eq_false h]
    by_cases h2 : x = s
    · subst h2; exact .inr (.inl ⟨rfl, by simp, h⟩)
    · exact .inr (.inr ⟨rfl, by simpa using h2, tx_lt_of (List.not_lt.1 h) (Ne.symm h2)⟩)

theorem ents_take_both {n k : Nat} {xs ys : List En} {x y : En} (hn : xs.length = n ∧ ys.length = n) (hk : k < n) (hp : xs.take k = ys.take k) (hx : xs[k]'(by omega) = x ∧ ys[k]'(by omega) = y) (hxy : x = y) : xs.take (k + 1) = ys.take (k + 1) := by
  rw [List.take_succ_eq_append_getElem (by omega), List.take_succ_eq_append_getElem (by omega), hp, hx.1, hx.2, hxy]

set_option maxHeartbeats 2000000 in
theorem same6 (a1 a2 : Option Addr) (c1 c2 : Nat) (xs ys : List En) (w : World) (h1 : EntsAt w a1 xs) (h2 : EntsAt w a2 ys) (n1 : xs.length ≤ 1000000000000) :
    Calls Try.prog 38 #[.slice a1 xs.length c1, .slice a2 ys.length c2] w fun e w' => e = .returned (.bool (decide (xs = ys))) ∧ ∃ q, w' = w.drewN q := by
  by_cases hl : xs.length = ys.length
  · obtain ⟨n, hn⟩ : ∃ n, xs.length = n := ⟨_, rfl⟩
    have hn2 : ys.length = n := by omega
    have HN := Lib.hid (And.intro hn hn2)
    rw [hn, hn2]
    rw [hn] at n1
    clear hn hn2 hl
    go_enter Try.func38, Try.ntmps38
    go_wp2_with fail
    go_loopg [5] n (fun g i wx => ∃ k : Nat, k + g = n ∧ i = .int .i64 k ∧ Hid (xs.take k = ys.take k) ∧ ∃ q, wx = w.drewN q)
    case atStart => exact ⟨0, by omega, rfl, Lib.hid rfl, 0, rfl⟩
    case round =>
      obtain ⟨k, hk, rfl, hp, q, rfl⟩ := hrel
      cases gk with
      | zero =>
        obtain rfl : k = n := by omega
        have hf := Lib.hid (show decide (xs = ys) = true from decide_eq_true (by have := hp.out; rwa [List.take_of_length_le (by have := HN.out; omega), List.take_of_length_le (by have := HN.out; omega)] at this))
        go_wp2
        go_ret
        exact ⟨ret_bool (by rw [hf.out]), q, rfl⟩
      | succ g =>
        have hk1 : k < xs.length := by have := HN.out; omega
        have hk2 : k < ys.length := by have := HN.out; omega
        obtain ⟨b1, o1, rfl, l1, e1⟩ := h1.cells hk1
        obtain ⟨b2, o2, rfl, l2, e2⟩ := h2.cells hk2
        have f1 : (w.drewN q).cell? ⟨b1, o1 + k * 2, none⟩ = some (.string (mk xs[k].1)) := (e1 k hk1).1
        have f1' : (w.drewN q).cell? ⟨b1, o1 + k * 2 + 1, none⟩ = some (.int .i64 xs[k].2) := (e1 k hk1).2
        have f2 : (w.drewN q).cell? ⟨b2, o2 + k * 2, none⟩ = some (.string (mk ys[k].1)) := (e2 k hk2).1
        have f2' : (w.drewN q).cell? ⟨b2, o2 + k * 2 + 1, none⟩ = some (.int .i64 ys[k].2) := (e2 k hk2).2
        obtain ⟨x, hx⟩ : ∃ x, xs[k].1 = x := ⟨_, rfl⟩
        obtain ⟨u, hu⟩ : ∃ u, xs[k].2 = u := ⟨_, rfl⟩
        obtain ⟨y, hy⟩ : ∃ y, ys[k].1 = y := ⟨_, rfl⟩
        obtain ⟨v, hv⟩ : ∃ v, ys[k].2 = v := ⟨_, rfl⟩
        rw [hx] at f1
        rw [hy] at f2
        rw [hu] at f1'
        rw [hv] at f2'
        have HX := Lib.hid (show xs[k] = (x, u) ∧ ys[k] = (y, v) by rw [← hx, ← hu, ← hy, ← hv]; exact ⟨rfl, rfl⟩)
        obtain ⟨W, hW⟩ : ∃ W, w.drewN q = W := ⟨_, rfl⟩
        rw [hW] at f1 f2 f1' f2' ⊢
        have HW := Lib.hid hW
        have hkn : (k : Int) < (n : Int) := by omega
        have hk0 : (0 : Int) ≤ (k : Int) := by omega
        clear hx hy hu hv hW e1 e2 h1 h2
        have HF : Hid ((x == y) = false ∨ (u == v) = false → decide (xs = ys) = false) := Lib.hid fun hh => decide_eq_false (by
            rintro rfl
            have := HX.out
            have h3 := this.1.symm.trans this.2
            cases h3
            simp at hh)
        cases hxy : (x == y)
        · have hf := Lib.hid (HF.out (.inl hxy))
          clear HF
          go_wp2_with fail
          go_quiet (fail)
          go_wp2_with fail
          go_ret
          exact ⟨ret_bool (by rw [hf.out]), _, by rw [← HW.out]; exact World.drewN_drewN ..⟩
        · cases huv : (u == v)
          · have hf := Lib.hid (HF.out (.inr huv))
            clear HF
            go_wp2_with fail
            go_quiet (fail)
            go_wp2_with fail
            go_ret
            exact ⟨ret_bool (by rw [hf.out]), _, by rw [← HW.out]; exact World.drewN_drewN ..⟩
          · clear HF
            go_wp2_with fail
            go_quiet (fail)
            go_wp2_with fail
            go_roundg g
            case measure => omega
            case rel => exact ⟨k + 1, by omega, by go_num, Lib.hid (ents_take_both HN.out (by omega) hp.out HX.out (by rw [eq_of_beq hxy, eq_of_beq huv])), _, by rw [← HW.out]; exact World.drewN_drewN ..⟩
  · have hf := Lib.hid (show decide (xs = ys) = false from decide_eq_false (by rintro rfl; exact hl rfl))
    have hl' : (xs.length == ys.length) = false := by simpa using hl
    have hl2 : ((xs.length : Int) != (ys.length : Int)) = true := by rw [bne_iff_ne]; omega
    go_enter Try.func38, Try.ntmps38
    go_wp2
    go_ret
    exact ⟨ret_bool (by rw [hf.out]), 0, rfl⟩
end Go.Proofs.Ytmjggjccmbiheab
