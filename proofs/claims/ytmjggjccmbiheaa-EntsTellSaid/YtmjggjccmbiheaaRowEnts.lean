/- A slice of entries, and an entry by value, that came in, opened for a law's row. -/
import Derived.Test.YtmjggjccmbiheaaEnts
import Derived.ProofKit
import Derived.Deep.Slices
import Derived.Deep.Strs
import Derived.OpenShut
import Derived.SizedLaws
import Derived.Lib.SmallJoins
namespace Go.Proofs.Ytmjggjccmbiheaa
open Go.RowKit Go.Proofs Go.ChangeShapes Go.WideShapes Go.ChangeAt Go.Deep Go.Lib Go.Joins

theorem cells38 : Try.prog.cellsOf 38 = 2 := by kernel_rfl
theorem cells9 : Try.prog.cellsOf 9 = 1 := by kernel_rfl
theorem cells3 : Try.prog.cellsOf 3 = 1 := by kernel_rfl

set_option maxRecDepth 100000 in
theorem open_ents {H : Type} {enc : TypeId × Value → H} {W : World} {a : Option Addr} {len cap : Nat} {d : DataW H} {ps : List MemPlace}
    (h : DataW.Trod enc Try.prog W 0 (fun _ => true) true 36 (.slice a len cap) d ps) :
    ∃ l : List En, l.length = len ∧ EntsAt W a l ∧ len ≤ 9223372036854775807 ∧ len ≤ cap := by
  obtain ⟨fuel, hf⟩ := h
  rcases open_slice Try.underlying36 hf with ⟨hcs, _⟩ | ⟨x, n, c, m, k, D, Pl, hcs, hb, hl, hm, hmm, _, hx⟩
  · simp [Value.cells] at hcs
    obtain ⟨rfl, rfl, rfl⟩ := hcs
    exact ⟨[], rfl, .inl rfl, by omega, by omega⟩
  · simp [Value.cells] at hcs
    obtain ⟨rfl, rfl, rfl⟩ := hcs
    have hlm : len ≤ m := by rw [hmm]; split <;> omega
    have each : ∀ i, i < m → ∃ q : En, W.cell? (x.add (i * 2)) = some (.string (mk q.1)) ∧ W.cell? (x.add (i * 2 + 1)) = some (.int .i64 q.2) := by
      intro i hi
      obtain ⟨cs', h1, h2⟩ := hx i hi
      rw [cells38] at h1
      obtain ⟨_, hlen, hcell⟩ := World.cells?_some h1
      obtain ⟨y0, y1, k', hxy, _, u0, u1⟩ := trod_struct2 Try.underlying38 h2
      match cs', hlen with
      | [v0, v1], _ =>
        simp only [cells9, cells3, List.drop, List.take] at u0 u1
        obtain ⟨s, e0, d0, _⟩ := DataW.trod_string Try.underlying9 u0
        obtain ⟨q, e1, d1, _⟩ := DataW.trod_int Try.underlying3 u1
        simp only [List.cons.injEq, and_true] at e0 e1
        subst e0; subst e1
        have c0 := hcell 0 (by omega)
        have c1 := hcell 1 (by omega)
        rw [add_add] at c0 c1
        exact ⟨(s.data.toList, q), by rw [mk_of]; simpa using c0, by simpa using c1⟩
    obtain ⟨q, hq⟩ := choose_lt each
    unfold maxLen at hm
    refine ⟨(List.range len).map q, by simp, ?_, by omega, hl⟩
    by_cases h0 : len = 0
    · subst h0; exact .inl rfl
    · obtain ⟨b, off, spot⟩ := x
      have hspot : spot = none := by simpa [Addr.add] using World.cell?_spot (hq 0 (by omega)).1
      subst hspot
      refine .inr ⟨b, off, rfl, ?_, fun j hj => ?_⟩
      · exact World.block_lt_of_cell? _ _ (hq 0 (by omega)).1
      · have hj' : j < len := by simpa using hj
        have := hq j (by omega)
        rw [add_plain, add_plain] at this
        simpa [Nat.add_assoc] using this

set_option maxRecDepth 100000 in
theorem open_ent {H : Type} {enc : TypeId × Value → H} {W : World} {v : Value} {d : DataW H} {ps : List MemPlace} (hv : Value.okWide Try.prog W .any 0 38 v) (h : DataW.Trod enc Try.prog W 0 (fun _ => true) true 38 v d ps) :
    ∃ (s : Tx) (n : Int), v = .agg #[.string (mk s), .int .i64 n] := by
  obtain ⟨v0, v1, y0, y1, k, rfl, _, _, h0, h1⟩ := open_agg2 Try.underlying38 (by kernel_rfl) cells38 hv h
  obtain ⟨s, e0, _, _⟩ := DataW.trod_string Try.underlying9 h0
  obtain ⟨q, e1, _, _⟩ := DataW.trod_int Try.underlying3 h1
  simp only [List.cons.injEq, and_true] at e0 e1
  subst e0; subst e1
  exact ⟨s.data.toList, q, by rw [mk_of]⟩
end Go.Proofs.Ytmjggjccmbiheaa
