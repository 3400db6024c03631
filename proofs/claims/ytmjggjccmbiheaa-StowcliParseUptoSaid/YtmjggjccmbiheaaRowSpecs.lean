/- A slice of specs, and a slice of texts with its bounds, that came in, opened for a law's row. -/
import Derived.Test.YtmjggjccmbiheaaArgsMem
import Derived.Test.YtmjggjccmbiheaaBulk
import Derived.ProofKit
import Derived.Deep.Slices
import Derived.Deep.Strs
import Derived.OpenShut
import Derived.SizedLaws
import Derived.Lib.SmallJoins
namespace Go.Proofs.Ytmjggjccmbiheaa
open Go.RowKit Go.Proofs Go.ChangeShapes Go.WideShapes Go.ChangeAt Go.Deep Go.Lib Go.Joins

theorem cells68 : Try.prog.cellsOf 68 = 3 := by kernel_rfl
theorem cellsT9 : Try.prog.cellsOf 9 = 1 := by kernel_rfl
theorem cellsT5 : Try.prog.cellsOf 5 = 1 := by kernel_rfl
theorem cellsT3 : Try.prog.cellsOf 3 = 1 := by kernel_rfl

set_option maxRecDepth 100000 in
theorem open_specs {H : Type} {enc : TypeId × Value → H} {W : World} {a : Option Addr} {len cap : Nat} {d : DataW H} {ps : List MemPlace}
    (h : DataW.Trod enc Try.prog W 0 (fun _ => true) true 28 (.slice a len cap) d ps) :
    ∃ l : List SpecT, l.length = len ∧ SpecsAt W a l ∧ len ≤ 9223372036854775807 := by
  obtain ⟨fuel, hf⟩ := h
  rcases open_slice Try.underlying28 hf with ⟨hcs, _⟩ | ⟨x, n, c, m, k, D, Pl, hcs, hb, hl, hm, hmm, _, hx⟩
  · simp [Value.cells] at hcs
    obtain ⟨rfl, rfl, rfl⟩ := hcs
    exact ⟨[], rfl, .inl rfl, by omega⟩
  · simp [Value.cells] at hcs
    obtain ⟨rfl, rfl, rfl⟩ := hcs
    have hlm : len ≤ m := by rw [hmm]; split <;> omega
    have each : ∀ i, i < m → ∃ q : SpecT, W.cell? (x.add (i * 3)) = some (.string (mk q.long)) ∧ W.cell? (x.add (i * 3 + 1)) = some (.int .u8 q.short.toNat) ∧ W.cell? (x.add (i * 3 + 2)) = some (.int .i64 q.needs) := by
      intro i hi
      obtain ⟨cs', h1, h2⟩ := hx i hi
      rw [cells68] at h1
      obtain ⟨_, hlen, hcell⟩ := World.cells?_some h1
      obtain ⟨y0, y1, y2, k', hxy, _, u0, u1, u2⟩ := trod_struct3 Try.underlying68 h2
      match cs', hlen with
      | [v0, v1, v2], _ =>
        simp only [cellsT9, cellsT5, cellsT3, List.drop, List.take] at u0 u1 u2
        obtain ⟨s, e0, d0, _⟩ := DataW.trod_string Try.underlying9 u0
        obtain ⟨q, e1, d1, wf⟩ := DataW.trod_int Try.underlying5 u1
        obtain ⟨r, e2, d2, _⟩ := DataW.trod_int Try.underlying3 u2
        simp only [List.cons.injEq, and_true] at e0 e1 e2
        subst e0; subst e1; subst e2
        have c0 := hcell 0 (by omega)
        have c1 := hcell 1 (by omega)
        have c2 := hcell 2 (by omega)
        rw [add_add] at c0 c1 c2
        have hq : 0 ≤ q ∧ q < 256 := by simp [Lit.wf, IntKind.min, IntKind.max, IntKind.signed, IntKind.bits] at wf; omega
        refine ⟨⟨s.data.toList, UInt8.ofNat q.toNat, r⟩, by rw [mk_of]; simpa using c0, ?_, by simpa using c2⟩
        have e : (((UInt8.ofNat q.toNat).toNat : Nat) : Int) = q := by rw [UInt8.toNat_ofNat']; omega
        simp only
        rw [e]
        simpa using c1
    obtain ⟨q, hq⟩ := choose_lt each
    unfold maxLen at hm
    refine ⟨(List.range len).map q, by simp, ?_, by omega⟩
    by_cases h0 : len = 0
    · subst h0; exact .inl rfl
    · obtain ⟨b, off, spot⟩ := x
      have hspot : spot = none := by simpa [Addr.add] using World.cell?_spot (hq 0 (by omega)).1
      subst hspot
      refine .inr ⟨b, off, rfl, ?_, fun j hj i v hv => ?_⟩
      · exact World.block_lt_of_cell? _ _ (hq 0 (by omega)).1
      · have hj' : j < len := by simpa using hj
        obtain ⟨g0, g1, g2⟩ := hq j (by omega)
        rw [add_plain] at g0 g1 g2
        have e : ((List.range len).map q)[j] = q j := by simp
        rw [e] at hv
        match i, hv with
        | 0, hv => simp only [specC, List.getElem?_cons_zero, Option.some.injEq] at hv; subst hv; simpa using g0
        | 1, hv => simp only [specC, List.getElem?_cons_succ, List.getElem?_cons_zero, Option.some.injEq] at hv; subst hv; simpa [Nat.add_assoc] using g1
        | 2, hv => simp only [specC, List.getElem?_cons_succ, List.getElem?_cons_zero, Option.some.injEq] at hv; subst hv; simpa [Nat.add_assoc] using g2
        | i + 3, hv => simp [specC] at hv

theorem open_strs_cap {H : Type} {enc : TypeId × Value → H} {W : World} {a : Option Addr} {len cap : Nat} {d : DataW H} {ps : List MemPlace}
    (h : DataW.Trod enc Try.prog W 0 (fun _ => true) true 29 (.slice a len cap) d ps) :
    ∃ l : List (List UInt8), l.length = len ∧ StrsAt W a l ∧ len ≤ Rows.uptoBulk d ∧ (∀ x ∈ l, x.length ≤ Rows.uptoBulk d) ∧ len ≤ cap := by
  obtain ⟨fuel, hf⟩ := h
  rcases open_strings Try.underlying29 Try.underlying9 (by kernel_rfl) hf with ⟨hcs, _⟩ | ⟨x, n, c, ss, hcs, _, hl, hm, hlen, hx, hcell, _⟩
  · simp [Value.cells] at hcs
    obtain ⟨rfl, rfl, rfl⟩ := hcs
    exact ⟨[], rfl, .inl rfl, Nat.zero_le _, by simp, Nat.le_refl _⟩
  · simp [Value.cells] at hcs
    obtain ⟨rfl, rfl, rfl⟩ := hcs
    simp only [if_true] at hlen
    simp only [Prod.mk.injEq] at hx
    obtain ⟨rfl, _⟩ := hx
    have hb1 := bulks.slice_elems (H := H) (strs (ss.take len)) (strs (ss.drop len))
    have hb2 := bulks.length_le (H := H) (strs (ss.take len))
    refine ⟨(ss.take len).map (·.data.toList), by simp; omega, ?_, ?_, ?_, hl⟩
    · by_cases h0 : len = 0
      · subst h0; exact .inl (by simp)
      · obtain ⟨b, off, spot⟩ := x
        have hspot : spot = none := by simpa [Addr.add] using World.cell?_spot (hcell 0 (by omega))
        subst hspot
        refine .inr ⟨b, off, rfl, ?_, fun j hj => ?_⟩
        · exact World.block_lt_of_cell? _ _ (hcell 0 (by omega))
        · have hj' : j < len := by simp at hj; omega
          have := hcell j (by omega)
          rw [← Go.WideShapes.add_plain, this]
          simp [List.getD_eq_getElem?_getD, List.getElem?_eq_getElem (show j < ss.length by omega), mk_of]
    · have hb3 : (strs (H := H) (ss.take len)).length = len := by simp [strs]; omega
      omega
    · intro y hy
      obtain ⟨z, hz, rfl⟩ := List.mem_map.1 hy
      have hm2 : (DataW.lit (.string z.data.toList) : DataW H) ∈ strs (ss.take len) := List.mem_map.2 ⟨z, hz, rfl⟩
      have h3 := bulks.part_le hm2
      rw [bulks.string_eq] at h3
      omega
end Go.Proofs.Ytmjggjccmbiheaa
