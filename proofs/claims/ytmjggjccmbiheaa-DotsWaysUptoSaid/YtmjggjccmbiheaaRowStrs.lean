/- A slice of texts that came in, opened for a law's row. -/
import Derived.Test.YtmjggjccmbiheaaStrs
import Derived.ProofKit
import Derived.SliceStrings
import Derived.OpenShut
import Derived.SizedLaws
namespace Go.Proofs.Ytmjggjccmbiheaa
open Go.RowKit Go.Proofs Go.ChangeShapes Go.WideShapes

theorem open_strs {H : Type} {enc : TypeId × Value → H} {W : World} {a : Option Addr} {len cap : Nat} {d : DataW H} {ps : List MemPlace}
    (h : DataW.Trod enc Try.prog W 0 (fun _ => true) true 29 (.slice a len cap) d ps) :
    ∃ l : List (List UInt8), l.length = len ∧ StrsAt W a l ∧ len ≤ 9223372036854775807 ∧ len ≤ cap := by
  obtain ⟨fuel, hf⟩ := h
  rcases open_strings Try.underlying29 Try.underlying9 (by kernel_rfl) hf with ⟨hcs, _⟩ | ⟨x, n, c, ss, hcs, _, hl, hm, hlen, _, hcell, _⟩
  · simp [Value.cells] at hcs
    obtain ⟨rfl, rfl, rfl⟩ := hcs
    exact ⟨[], rfl, .inl rfl, by omega, by omega⟩
  · simp [Value.cells] at hcs
    obtain ⟨rfl, rfl, rfl⟩ := hcs
    unfold maxLen at hm
    simp only [if_true] at hlen
    refine ⟨(ss.take len).map (·.data.toList), by simp; omega, ?_, by omega, hl⟩
    by_cases h0 : len = 0
    · subst h0; exact .inl (by simp)
    · obtain ⟨b, off, spot⟩ := x
      have hspot : spot = none := by simpa [Addr.add] using World.cell?_spot (hcell 0 (by omega))
      subst hspot
      refine .inr ⟨b, off, rfl, ?_, fun j hj => ?_⟩
      · exact World.block_lt_of_cell? _ _ (hcell 0 (by omega))
      · have hj' : j < len := by simp at hj; omega
        have := hcell j (by omega)
        rw [← Go.WideShapes.add_plain, this]
        simp [List.getD_eq_getElem?_getD, List.getElem?_eq_getElem (show j < ss.length by omega), mk_of]
end Go.Proofs.Ytmjggjccmbiheaa
