/- How names rise: name.Find, and the reference's Sort and Find, step by step; what they come to, in plain words. -/
import Derived.Test.YtmjggjccmbiheaaStrs
namespace Go.Proofs.Ytmjggjccmbiheaa
open Go.RowKit Go.Proofs Go.Sort
attribute [local go_sem] mk_list mk_size mk_data

theorem ret_ib {a b : Int} {c d : Bool} (h1 : a = b) (h2 : c = d) : Ending.returned (.tuple #[.int .i64 a, .bool c]) = .returned (.tuple #[.int .i64 b, .bool d]) := by rw [h1, h2]

/-- How many ahead are less. -/
def findI : List (List UInt8) → List UInt8 → Nat
  | [], _ => 0
  | x :: xs, s => if x < s then findI xs s + 1 else 0
def findB (xs : List (List UInt8)) (s : List UInt8) : Bool := decide (xs[findI xs s]? = some s)

theorem find_is : ∀ {xs : List (List UInt8)} {s : List UInt8} {k : Nat} (hk : k ≤ xs.length) (_ : ∀ (j : Nat) (h : j < k), xs[j]'(by omega) < s) (_ : ∀ h : k < xs.length, ¬ xs[k] < s), findI xs s = k
  | [], s, k, hk, _, _ => by simp at hk; simp [findI, hk]
  | x :: xs, s, 0, _, _, h2 => by
    have := h2 (by simp)
    unfold findI
    rw [if_neg (by simpa using this)]
  | x :: xs, s, k + 1, hk, h1, h2 => by
    have h0 := h1 0 (by omega)
    unfold findI
    rw [if_pos (by simpa using h0), find_is (xs := xs) (k := k) (by simpa using hk) (fun j h => by have := h1 (j + 1) (by omega); simpa using this) (fun h => by have := h2 (by simpa using h); simpa using this)]
theorem findI_le (s : List UInt8) : ∀ xs : List (List UInt8), findI xs s ≤ xs.length
  | [] => Nat.le_refl 0
  | x :: xs => by
    unfold findI
    have := findI_le s xs
    split <;> simp <;> omega
theorem find_lt {s : List UInt8} : ∀ {xs : List (List UInt8)} {j : Nat} (_ : j < findI xs s) (h' : j < xs.length), xs[j] < s
  | [], _, _, h' => by simp at h'
  | x :: xs, j, h, h' => by
    unfold findI at h
    split at h
    · cases j with
      | zero => simpa
      | succ j => simpa using find_lt (xs := xs) (j := j) (by omega) (by simpa using h')
    · omega
theorem find_at {s : List UInt8} : ∀ {xs : List (List UInt8)} (h : findI xs s < xs.length), ¬ xs[findI xs s] < s
  | [], h => by simp at h
  | x :: xs, h => by
    unfold findI at h ⊢
    split at h
    · rename_i hx
      have := find_at (xs := xs) (by simpa using h)
      simp only [hx, if_true, List.getElem_cons_succ]
      exact this
    · rename_i hx
      simp [hx]

set_option maxHeartbeats 1000000 in
theorem name_Find (a : Option Addr) (c : Nat) (xs : List (List UInt8)) (s : List UInt8) (w : World) (h : StrsAt w a xs) (hn : xs.length ≤ 1000000000000) (hp : xs.Pairwise (· < ·)) :
    Calls Try.prog 37 #[.slice a xs.length c, .string (mk s)] w fun e w' => e = .returned (.tuple #[.int .i64 (findI xs s), .bool (findB xs s)]) ∧ ∃ q, w' = w.drewN q := by
  have hbs : Calls Try.prog 86 #[.slice a xs.length c, .string (mk s)] w fun e w' => e = .returned (.tuple #[.int .i64 (findI xs s), .bool (findB xs s)]) ∧ ∃ q, w' = w.drewN q := by
    rcases h with rfl | ⟨b, off, rfl, hlt, hc⟩
    · exact (Any2.slices_BinarySearch_string_empty Try.laysBS a c (mk s) w).mono fun e w' ⟨h1, h2⟩ => ⟨h1, 0, h2⟩
    · refine (Any2.slices_BinarySearch_string Try.laysBS b off xs.length c (fun j => mk (xs.getD j s)) (mk s) w (by omega) (fun j hj => by rw [hc j hj]; simp [List.getD_eq_getElem?_getD, List.getElem?_eq_getElem hj])).mono ?_
      rintro e w' ⟨rfl, q, rfl⟩
      have hk : Lib.bsGo (fun t => Op.bytesLess (mk (xs.getD t s)).toList (mk s).toList) xs.length 0 xs.length = findI xs s := by
        have hg : ∀ t (h : t < xs.length), xs.getD t s = xs[t] := fun t h => by simp [List.getD_eq_getElem?_getD, List.getElem?_eq_getElem h]
        have hle := findI_le s xs
        refine Lib.bsGo_spec _ (findI xs s) (fun t ht => ?_) (fun t ht => ?_) _ _ _ (by omega) (Nat.zero_le _) hle
        · rw [mk_list, mk_list, bytesLess_eq, hg t (by omega)]
          exact decide_eq_true (find_lt ht (by omega))
        · rw [mk_list, mk_list, bytesLess_eq]
          apply decide_eq_false
          by_cases h : t < xs.length
          · rw [hg t h]
            intro hlt
            have h0 : findI xs s < xs.length := by omega
            have h1 := find_at h0
            rcases Nat.lt_or_eq_of_le ht with h2 | h2
            · exact h1 (List.lt_trans (List.pairwise_iff_getElem.1 hp _ _ h0 h h2) hlt)
            · subst h2; exact h1 hlt
          · rw [List.getD_eq_getElem?_getD, List.getElem?_eq_none (by omega)]
            exact List.lt_irrefl s
      rw [hk]
      refine ⟨ret_ib rfl ?_, q, rfl⟩
      unfold findB
      rw [decide_eq_decide]
      have hle := findI_le s xs
      by_cases h : findI xs s < xs.length
      · rw [List.getElem?_eq_getElem h, List.getD_eq_getElem?_getD, List.getElem?_eq_getElem h]
        simp only [h, true_and, Option.getD_some, Option.some.injEq]
        exact ⟨fun e => mk_inj e, fun e => by rw [e]⟩
      · rw [List.getElem?_eq_none (by omega)]
        simp [h]
  generalize findI xs s = i at *
  generalize findB xs s = b at *
  go_enter Try.func37, Try.ntmps37
  go_wp2_with (go_at_call 86; refine hbs.mono ?_; rintro e w' ⟨rfl, q, rfl⟩)
  go_ret2
  exact ⟨rfl, q, rfl⟩

set_option maxHeartbeats 1000000 in
theorem ref_Find (a : Option Addr) (c : Nat) (xs : List (List UInt8)) (s : List UInt8) (w : World) (h : StrsAt w a xs) (hn : xs.length ≤ 1000000000000) :
    Calls Try.prog 38 #[.slice a xs.length c, .string (mk s)] w fun e w' => e = .returned (.tuple #[.int .i64 (findI xs s), .bool (findB xs s)]) ∧ ∃ q, w' = w.drewN q := by
  obtain ⟨n, hnx⟩ : ∃ n, xs.length = n := ⟨_, rfl⟩
  have HN := Lib.hid hnx
  rw [hnx] at hn ⊢
  clear hnx
  go_enter Try.func38, Try.ntmps38
  go_wp2_with fail
  go_loopg [6] n (fun g i wx => ∃ k : Nat, k + g = n ∧ i = .int .i64 k ∧ Hid (∀ (j : Nat) (h : j < k) (h' : j < xs.length), xs[j] < s) ∧ wx = w)
  case atStart => exact ⟨0, by omega, rfl, Lib.hid (fun j h => absurd h (Nat.not_lt_zero _)), rfl⟩
  case round =>
    obtain ⟨k, hk, rfl, hp, rfl⟩ := hrel
    cases gk with
    | zero =>
      obtain rfl : k = n := by omega
      have HF := Lib.hid (show findI xs s = k ∧ findB xs s = false from by
        have e1 : findI xs s = k := find_is (by have := HN.out; omega) (fun j h => hp.out j h (by have := HN.out; omega)) (fun h => absurd h (by have := HN.out; omega))
        refine ⟨e1, ?_⟩
        unfold findB
        rw [e1, List.getElem?_eq_none (by have := HN.out; omega)]
        rfl)
      go_wp2
      go_ret2
      exact ⟨ret_ib (by rw [HF.out.1]) (by rw [HF.out.2]), 0, rfl⟩
    | succ g =>
      have hk1 : k < xs.length := by have := HN.out; omega
      obtain ⟨b1, o1, rfl, l1, e1⟩ := h.cells hk1
      have f1 := e1 k hk1
      obtain ⟨x, hx⟩ : ∃ x, xs[k] = x := ⟨_, rfl⟩
      rw [hx] at f1
      have HX := Lib.hid hx
      have hkn : (k : Int) < (n : Int) := by omega
      have hk0 : (0 : Int) ≤ (k : Int) := by omega
      have hlt := bytesLess_eq x s
      clear hx e1 h
      cases hb : Op.bytesLess x s
      · rw [hb] at hlt
        have HF := Lib.hid (show findI xs s = k ∧ findB xs s = (x == s) from by
          have e1 : findI xs s = k := find_is (by omega) (fun j h => hp.out j h (by omega)) (fun h => by rw [HX.out]; exact of_decide_eq_false hlt.symm)
          refine ⟨e1, ?_⟩
          unfold findB
          rw [e1, List.getElem?_eq_getElem hk1, HX.out]
          rw [Bool.eq_iff_iff]
          simp)
        clear hlt
        go_wp2_with fail
        go_quiet (fail)
        go_wp2_with fail
        go_ret2
        exact ⟨ret_ib (by rw [HF.out.1]) (by rw [HF.out.2]), _, rfl⟩
      · rw [hb] at hlt
        have HL := Lib.hid (of_decide_eq_true hlt.symm)
        clear hlt
        go_wp2_with fail
        go_roundg g
        case measure => omega
        case rel => exact ⟨k + 1, by omega, by go_num, Lib.hid (fun j h h' => by
          by_cases e : j = k
          · subst e; rw [HX.out]; exact HL.out
          · exact hp.out j (by omega) h'), rfl⟩
end Go.Proofs.Ytmjggjccmbiheaa
