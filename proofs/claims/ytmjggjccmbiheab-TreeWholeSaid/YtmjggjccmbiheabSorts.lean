/- How names rise: name.Find, and the reference's Sort and Find, step by step; what they come to, in plain words. -/
import Derived.Test.YtmjggjccmbiheabStrs
namespace Go.Proofs.Ytmjggjccmbiheab
open Go.RowKit Go.Proofs Go.Sort
attribute [local go_sem] mk_list mk_size mk_data

theorem ret_ib {a b : Int} {c d : Bool} (h1 : a = b) (h2 : c = d) : Ending.returned (.tuple #[.int .i64 a, .bool c]) = .returned (.tuple #[.int .i64 b, .bool d]) := by rw [h1, h2]

/-- How many ahead are less. -/
def findI : List (List UInt8) → List UInt8 → Nat
  | [], _ => 0
  | x :: xs, s => if x < s then findI xs s + 1 else 0
def findB (xs : List (List UInt8)) (s : List UInt8) : Bool := decide (xs[findI xs s]? = some s)

theorem find_is : ∀ {xs : List (List UInt8)} {s : List UInt8} {k : Nat} (hk : k ≤ xs.length) (_ : ∀ (j : Nat) (h : j < k), xs[j]'(by omega) < s) (_ : ∀ h : k < xs.length, ¬ xs[k] < s), findI xs s = k
  | [], s, k, hk, _, _ => by simp at hk; simp [findI, hk]
  | x :: xs, s, 0, _, _, h2 => by
    have := h2 (by simp)
    unfold findI
    rw [if_neg (by simpa using this)]
  | x :: xs, s, k + 1, hk, h1, h2 => by
    have h0 := h1 0 (by omega)
    unfold findI
    rw [if_pos (by simpa using h0), find_is (xs := xs) (k := k) (by simpa using hk) (fun j h => by have := h1 (j + 1) (by omega); simpa using this) (fun h => by have := h2 (by simpa using h); simpa using this)]
theorem findI_le (s : List UInt8) : ∀ xs : List (List UInt8), findI xs s ≤ xs.length
  | [] => Nat.le_refl 0
  | x :: xs => by
    unfold findI
    have := findI_le s xs
    split <;> simp <;> omega
theorem find_lt {s : List UInt8} : ∀ {xs : List (List UInt8)} {j : Nat} (_ : j < findI xs s) (h' : j < xs.length), xs[j] < s
  | [], _, _, h' => by simp at h'
  | x :: xs, j, h, h' => by
    unfold findI at h
    split at h
    · cases j with
      | zero => simpa
      | succ j => simpa using find_lt (xs := xs) (j := j) (by omega) (by simpa using h')
    · omega
theorem find_at {s : List UInt8} : ∀ {xs : List (List UInt8)} (h : findI xs s < xs.length), ¬ xs[findI xs s] < s
  | [], h => by simp at h
  | x :: xs, h => by
    unfold findI at h ⊢
    split at h
    · rename_i hx
      have := find_at (xs := xs) (by simpa using h)
      simp only [hx, if_true, List.getElem_cons_succ]
      exact this
    · rename_i hx
      simp [hx]

end Go.Proofs.Ytmjggjccmbiheab
