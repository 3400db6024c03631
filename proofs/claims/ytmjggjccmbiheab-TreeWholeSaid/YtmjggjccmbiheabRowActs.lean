/- An act by value that came in, opened for a law's row. -/
import Derived.Test.YtmjggjccmbiheabEnts
import Derived.ProofKit
import Derived.Deep.Slices
import Derived.Deep.Strs
import Derived.OpenShut
import Derived.SizedLaws
import Derived.Lib.SmallJoins
namespace Go.Proofs.Ytmjggjccmbiheab
open Go.RowKit Go.Proofs Go.ChangeShapes Go.WideShapes Go.ChangeAt Go.Deep Go.Lib Go.Joins

theorem cells34 : Try.prog.cellsOf 34 = 7 := by kernel_rfl
theorem list7 {α : Type} {l : List α} (h : l.length = 7) : ∃ c0 c1 c2 c3 c4 c5 c6, l = [c0, c1, c2, c3, c4, c5, c6] := by
  match l, h with
  | [c0, c1, c2, c3, c4, c5, c6], _ => exact ⟨c0, c1, c2, c3, c4, c5, c6, rfl⟩
structure ActT where
  dO : Int
  dir : Int
  to_ : Int
  name : Tx
  as_ : Tx
  kind : Int
  data : Tx
def actC (x : ActT) : List Value := [.int .i64 x.dO, .int .i64 x.dir, .int .i64 x.to_, .string (mk x.name), .string (mk x.as_), .int .i64 x.kind, .string (mk x.data)]

set_option maxRecDepth 100000 in
theorem open_agg7 {H : Type} {enc : TypeId × Value → H} {W : World} {t : TypeId} {f0 f1 f2 f3 f4 f5 f6 : Field} {v : Value} {d : DataW H} {p : List MemPlace} (hs : Try.prog.underlying t = some (.struct #[f0, f1, f2, f3, f4, f5, f6])) (hone : oneCellFields Try.prog #[f0, f1, f2, f3, f4, f5, f6] = true) (hC : Try.prog.cellsOf t = 7)
    (hv : Value.okWide Try.prog W .any 0 t v) (h : DataW.Trod enc Try.prog W 0 (fun _ => true) true t v d p) :
    ∃ (v0 v1 v2 v3 v4 v5 v6 : Value) (y0 y1 y2 y3 y4 y5 y6 : DataW H × List MemPlace) (n : Nat), v = .agg #[v0, v1, v2, v3, v4, v5, v6] ∧ DataW.trod enc Try.prog W 0 (fun _ => true) true n f0.type [v0] = some y0 ∧ DataW.trod enc Try.prog W 0 (fun _ => true) true n f1.type [v1] = some y1 ∧ DataW.trod enc Try.prog W 0 (fun _ => true) true n f2.type [v2] = some y2 ∧ DataW.trod enc Try.prog W 0 (fun _ => true) true n f3.type [v3] = some y3 ∧ DataW.trod enc Try.prog W 0 (fun _ => true) true n f4.type [v4] = some y4 ∧ DataW.trod enc Try.prog W 0 (fun _ => true) true n f5.type [v5] = some y5 ∧ DataW.trod enc Try.prog W 0 (fun _ => true) true n f6.type [v6] = some y6 := by
  obtain ⟨cs, rfl, hsz⟩ := okWide_struct hs hv
  obtain ⟨l⟩ := cs
  rw [hC, List.size_toArray] at hsz
  obtain ⟨c0, c1, c2, c3, c4, c5, c6, rfl⟩ := list7 hsz
  obtain ⟨fuel, hf⟩ := h
  obtain ⟨xs, n, _, _, _, hlen, hf⟩ := DataW.trod_struct hs hf
  obtain ⟨y0, y1, y2, y3, y4, y5, y6, rfl⟩ := list7 hlen
  obtain ⟨o0, k0⟩ := hone_of hone 0 f0 rfl
  obtain ⟨o1, k1⟩ := hone_of hone 1 f1 rfl
  obtain ⟨o2, k2⟩ := hone_of hone 2 f2 rfl
  obtain ⟨o3, k3⟩ := hone_of hone 3 f3 rfl
  obtain ⟨o4, k4⟩ := hone_of hone 4 f4 rfl
  obtain ⟨o5, k5⟩ := hone_of hone 5 f5 rfl
  obtain ⟨o6, k6⟩ := hone_of hone 6 f6 rfl
  exact ⟨c0, c1, c2, c3, c4, c5, c6, y0, y1, y2, y3, y4, y5, y6, n, rfl, by simpa [Value.cells, o0, k0] using hf 0 f0 rfl, by simpa [Value.cells, o1, k1] using hf 1 f1 rfl, by simpa [Value.cells, o2, k2] using hf 2 f2 rfl, by simpa [Value.cells, o3, k3] using hf 3 f3 rfl, by simpa [Value.cells, o4, k4] using hf 4 f4 rfl, by simpa [Value.cells, o5, k5] using hf 5 f5 rfl, by simpa [Value.cells, o6, k6] using hf 6 f6 rfl⟩
set_option maxRecDepth 100000 in
theorem open_act {H : Type} {enc : TypeId × Value → H} {W : World} {v : Value} {d : DataW H} {ps : List MemPlace} (hv : Value.okWide Try.prog W .any 0 34 v) (h : DataW.Trod enc Try.prog W 0 (fun _ => true) true 34 v d ps) :
    ∃ x : ActT, v = .agg (actC x).toArray := by
  obtain ⟨v0, v1, v2, v3, v4, v5, v6, y0, y1, y2, y3, y4, y5, y6, n, rfl, h0, h1, h2, h3, h4, h5, h6⟩ := open_agg7 Try.underlying34 (by kernel_rfl) cells34 hv h
  obtain ⟨q0, e0, _, _⟩ := DataW.trod_int Try.underlying3 h0
  obtain ⟨q1, e1, _, _⟩ := DataW.trod_int Try.underlying3 h1
  obtain ⟨q2, e2, _, _⟩ := DataW.trod_int Try.underlying3 h2
  obtain ⟨q3, e3, _, _⟩ := DataW.trod_string Try.underlying9 h3
  obtain ⟨q4, e4, _, _⟩ := DataW.trod_string Try.underlying9 h4
  obtain ⟨q5, e5, _, _⟩ := DataW.trod_int Try.underlying3 h5
  obtain ⟨q6, e6, _, _⟩ := DataW.trod_string Try.underlying9 h6
  simp only [List.cons.injEq, and_true] at e0 e1 e2 e3 e4 e5 e6
  subst e0 e1 e2 e3 e4 e5 e6
  exact ⟨⟨q0, q1, q2, q3.data.toList, q4.data.toList, q5, q6.data.toList⟩, by unfold actC; simp only [mk_of]⟩
end Go.Proofs.Ytmjggjccmbiheab
