/- The reference's Sort, step by step; its answer is the sorted list, each text once. -/
import Derived.Sort.Walk0
import Derived.Test.YtmjggjccmbiheabSorts
namespace Go.Proofs.Ytmjggjccmbiheab
open Go.RowKit Go.Proofs Go.Sort

abbrev Tx := List UInt8
theorem tx_lt_of {x y : Tx} (h : x ≤ y) (hn : x ≠ y) : x < y := by
  rcases Decidable.em (x < y) with h1 | h1
  · exact h1
  · exact absurd (List.le_antisymm h (List.not_lt.1 h1)) hn

theorem own_shape {w : World} {base : Nat} {e : TypeId} {size n : Nat} {v : Value} {xs : List Value} (h : w.ownsRow base e size v n xs) : ∃ A c, v = .slice A n c := by
  rcases h.2 with ⟨rfl, rfl⟩ | ⟨g, cap, cur, rfl, _⟩
  · exact ⟨none, 0, rfl⟩
  · exact ⟨_, cap, rfl⟩
theorem info9 : (Try.prog.info? 9).map (fun i => (i.zero, i.size, i.bytes)) = some (some (.string ⟨#[]⟩), 1, 16) := by kernel_rfl
section
attribute [local go_sem] mk_list mk_size mk_data
end
end Go.Proofs.Ytmjggjccmbiheab

