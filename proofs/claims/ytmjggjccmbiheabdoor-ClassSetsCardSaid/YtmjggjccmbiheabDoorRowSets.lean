/- Two sets and two bytes that came in, opened for a law's row. -/
import Derived.Test.YtmjggjccmbiheabDoorPlain
import Derived.ProofKit
import Derived.Deep.Slices
import Derived.Deep.Strs
import Derived.OpenShut
import Derived.SizedLaws
import Derived.Lib.SmallJoins
namespace Go.Proofs.YtmjggjccmbiheabDoor
open Go.RowKit Go.Proofs Go.ChangeShapes Go.WideShapes Go.ChangeAt Go.Deep Go.Lib Go.Joins

theorem cells23 : Tryd.prog.cellsOf 23 = 4 := by kernel_rfl
theorem cellsT9 : Tryd.prog.cellsOf 9 = 1 := by kernel_rfl
theorem cellsT5 : Tryd.prog.cellsOf 5 = 1 := by kernel_rfl
theorem list4 {α : Type} {l : List α} (h : l.length = 4) : ∃ c0 c1 c2 c3, l = [c0, c1, c2, c3] := by
  match l, h with
  | [c0, c1, c2, c3], _ => exact ⟨c0, c1, c2, c3, rfl⟩
set_option maxRecDepth 100000 in
theorem open_sets {H : Type} {enc : TypeId × Value → H} {W : World} {v : Value} {d : DataW H} {ps : List MemPlace} (hv : Value.okWide Tryd.prog W .any 0 23 v) (h : DataW.Trod enc Tryd.prog W 0 (fun _ => true) true 23 v d ps) (hz : ∀ n ∈ d.weights Tryd.prog 23, n ≤ reachBytes) :
    ∃ (a b : Tx) (c e : Nat), v = .agg #[.string (mk a), .string (mk b), .int .u8 c, .int .u8 e] ∧ c < 256 ∧ e < 256 ∧ a.length ≤ reachBytes ∧ b.length ≤ reachBytes := by
  obtain ⟨cs, rfl, hsz⟩ := okWide_struct Tryd.underlying23 hv
  obtain ⟨l⟩ := cs
  rw [cells23, List.size_toArray] at hsz
  obtain ⟨v0, v1, v2, v3, rfl⟩ := list4 hsz
  obtain ⟨fuel, hf⟩ := h
  obtain ⟨xs, n, _, hx, _, hlen, hf⟩ := DataW.trod_struct Tryd.underlying23 hf
  obtain ⟨y0, y1, y2, y3, rfl⟩ := list4 hlen
  have u0 : DataW.trod enc Tryd.prog W 0 (fun _ => true) true n 9 [v0] = some y0 := by simpa [Value.cells, cellsT9] using hf 0 _ rfl
  have u1 : DataW.trod enc Tryd.prog W 0 (fun _ => true) true n 9 [v1] = some y1 := by simpa [Value.cells, cellsT9] using hf 1 _ rfl
  have u2 : DataW.trod enc Tryd.prog W 0 (fun _ => true) true n 5 [v2] = some y2 := by simpa [Value.cells, cellsT5] using hf 2 _ rfl
  have u3 : DataW.trod enc Tryd.prog W 0 (fun _ => true) true n 5 [v3] = some y3 := by simpa [Value.cells, cellsT5] using hf 3 _ rfl
  obtain ⟨q0, e0, d0, _⟩ := DataW.trod_string Tryd.underlying9 u0
  obtain ⟨q1, e1, d1, _⟩ := DataW.trod_string Tryd.underlying9 u1
  obtain ⟨q2, e2, d2, w2⟩ := DataW.trod_int Tryd.underlying5 u2
  obtain ⟨q3, e3, d3, w3⟩ := DataW.trod_int Tryd.underlying5 u3
  simp only [List.cons.injEq, and_true] at e0 e1 e2 e3
  subst e0 e1 e2 e3
  have hD : d = .agg [y0.1, y1.1, y2.1, y3.1] := congrArg Prod.fst hx
  rw [hD] at hz
  have hz0 : q0.data.toList.length ≤ reachBytes := hz _ (by
    simp only [DataW.weights, Tryd.underlying23]
    refine DataW.weights_mem_each (j := 0) (t := 9) rfl (List.getElem?_cons_zero ..) _ ?_
    rw [d0]
    simp [DataW.weights])
  have hz1 : q1.data.toList.length ≤ reachBytes := hz _ (by
    simp only [DataW.weights, Tryd.underlying23]
    refine DataW.weights_mem_each (j := 1) (t := 9) rfl (List.getElem?_cons_succ ..) _ ?_
    rw [d1]
    simp [DataW.weights])
  have b2 : 0 ≤ q2 ∧ q2 < 256 := by
    have : 0 ≤ q2 ∧ q2 ≤ 255 := by simpa [Lit.wf, IntKind.min, IntKind.max, IntKind.signed, IntKind.bits] using w2
    omega
  have b3 : 0 ≤ q3 ∧ q3 < 256 := by
    have : 0 ≤ q3 ∧ q3 ≤ 255 := by simpa [Lit.wf, IntKind.min, IntKind.max, IntKind.signed, IntKind.bits] using w3
    omega
  obtain ⟨m2, rfl⟩ := Int.eq_ofNat_of_zero_le b2.1
  obtain ⟨m3, rfl⟩ := Int.eq_ofNat_of_zero_le b3.1
  exact ⟨q0.data.toList, q1.data.toList, m2, m3, by simp only [mk_of], by omega, by omega, hz0, hz1⟩
end Go.Proofs.YtmjggjccmbiheabDoor
