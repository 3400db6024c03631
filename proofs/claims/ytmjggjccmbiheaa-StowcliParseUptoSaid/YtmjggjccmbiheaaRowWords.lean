/- A slice of texts that came in, opened for a law's row: its weight. -/
import Derived.Test.YtmjggjccmbiheaaRowSpecs
namespace Go.Proofs.Ytmjggjccmbiheaa
open Go.RowKit Go.Proofs Go.ChangeShapes Go.WideShapes Go.ChangeAt Go.Deep Go.Lib Go.Joins

theorem strs_wt {H : Type} : ∀ ss : List ByteArray, Rows.uptoBulkAll (strs (H := H) ss) = wt (ss.map (·.data.toList))
  | [] => rfl
  | s :: ss => by
    have ih := strs_wt (H := H) ss
    rw [List.map_cons, wt_cons, ← ih]
    show Rows.uptoBulk (.lit (.string s.data.toList)) + Rows.uptoBulkAll (strs (H := H) ss) = _
    rw [bulks.string_eq]
theorem open_strs_wt {H : Type} {enc : TypeId × Value → H} {W : World} {a : Option Addr} {len cap : Nat} {d : DataW H} {ps : List MemPlace}
    (h : DataW.Trod enc Try.prog W 0 (fun _ => true) true 29 (.slice a len cap) d ps) :
    ∃ l : List (List UInt8), l.length = len ∧ StrsAt W a l ∧ wt l ≤ Rows.uptoBulk d ∧ len ≤ cap := by
  obtain ⟨fuel, hf⟩ := h
  rcases open_strings Try.underlying29 Try.underlying9 (by kernel_rfl) hf with ⟨hcs, _⟩ | ⟨x, n, c, ss, hcs, _, hl, hm, hlen, hx, hcell, _⟩
  · simp [Value.cells] at hcs
    obtain ⟨rfl, rfl, rfl⟩ := hcs
    exact ⟨[], rfl, .inl rfl, by simp [wt], Nat.le_refl _⟩
  · simp [Value.cells] at hcs
    obtain ⟨rfl, rfl, rfl⟩ := hcs
    simp only [if_true] at hlen
    simp only [Prod.mk.injEq] at hx
    obtain ⟨rfl, _⟩ := hx
    have hb1 := bulks.slice_elems (H := H) (strs (ss.take len)) (strs (ss.drop len))
    rw [strs_wt] at hb1
    refine ⟨(ss.take len).map (·.data.toList), by simp; omega, ?_, by omega, hl⟩
    by_cases h0 : len = 0
    · subst h0; exact .inl (by simp)
    · obtain ⟨b, off, spot⟩ := x
      have hspot : spot = none := by simpa [Addr.add] using World.cell?_spot (hcell 0 (by omega))
      subst hspot
      refine .inr ⟨b, off, rfl, ?_, fun j hj => ?_⟩
      · exact World.block_lt_of_cell? _ _ (hcell 0 (by omega))
      · have hj' : j < len := by simp at hj; omega
        have := hcell j (by omega)
        rw [← Go.WideShapes.add_plain, this]
        simp [List.getD_eq_getElem?_getD, List.getElem?_eq_getElem (show j < ss.length by omega), mk_of]
end Go.Proofs.Ytmjggjccmbiheaa
