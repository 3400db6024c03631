/- A slice of acts that came in, opened for a law's row. -/
import Derived.Test.YtmjggjccmbiheabRowActs
import Derived.Test.YtmjggjccmbiheabTreeMap
namespace Go.Proofs.Ytmjggjccmbiheab
open Go Go.RowKit Go.Proofs Go.ChangeShapes Go.WideShapes Go.ChangeAt Go.Deep Go.Lib Go.Joins

def ActsAt (W : World) (A : Option Addr) (L : List ActT) : Prop :=
  L = [] ∨ ∃ b off, A = some ⟨b, off, none⟩ ∧ b < W.heap.size ∧ ∀ (j : Nat) (h : j < L.length) (i : Nat) (v : Value), (actC L[j])[i]? = some v → W.cell? ⟨b, off + j * 7 + i, none⟩ = some v
/-- Whole numbers that fit, texts that a machine holds. -/
structure ActOk (x : ActT) : Prop where
  dO : wfI x.dO
  dir : wfI x.dir
  to_ : wfI x.to_
  name : x.name.length ≤ 140737488351300
  as_ : x.as_.length ≤ 140737488351300
  kind : wfI x.kind
  data : x.data.length ≤ 140737488351300
theorem cellsT9 : Try.prog.cellsOf 9 = 1 := by kernel_rfl
theorem cellsT3 : Try.prog.cellsOf 3 = 1 := by kernel_rfl
theorem weightsAll_mem {H : Type} {P : Program} {e : TypeId} : ∀ {l : List (DataW H)} {d : DataW H}, d ∈ l → ∀ n ∈ d.weights P e, n ∈ DataW.weightsAll P e l
  | a :: l, d, hd, n, hn => by
    simp only [DataW.weightsAll, List.mem_append]
    rcases List.mem_cons.1 hd with h | h
    · subst h; exact .inl hn
    · exact .inr (weightsAll_mem h n hn)
theorem trod_struct7 {H : Type} {enc : TypeId × Value → H} {P : Program} {w : World} {base : Nat} {spare : Nat → Bool} {held : Bool} {t : TypeId} {f0 f1 f2 f3 f4 f5 f6 : Field} {fuel : Nat} {cs : List Value} {x : DataW H × List MemPlace} (ht : P.underlying t = some (.struct #[f0, f1, f2, f3, f4, f5, f6])) (h : DataW.trod enc P w base spare held fuel t cs = some x) :
    ∃ (y0 y1 y2 y3 y4 y5 y6 : DataW H × List MemPlace) (n : Nat), x.1 = .agg [y0.1, y1.1, y2.1, y3.1, y4.1, y5.1, y6.1] ∧ DataW.trod enc P w base spare held n f0.type ((cs.drop f0.offset).take (P.cellsOf f0.type)) = some y0 ∧ DataW.trod enc P w base spare held n f1.type ((cs.drop f1.offset).take (P.cellsOf f1.type)) = some y1 ∧ DataW.trod enc P w base spare held n f2.type ((cs.drop f2.offset).take (P.cellsOf f2.type)) = some y2 ∧
      DataW.trod enc P w base spare held n f3.type ((cs.drop f3.offset).take (P.cellsOf f3.type)) = some y3 ∧ DataW.trod enc P w base spare held n f4.type ((cs.drop f4.offset).take (P.cellsOf f4.type)) = some y4 ∧ DataW.trod enc P w base spare held n f5.type ((cs.drop f5.offset).take (P.cellsOf f5.type)) = some y5 ∧ DataW.trod enc P w base spare held n f6.type ((cs.drop f6.offset).take (P.cellsOf f6.type)) = some y6 := by
  obtain ⟨xs, n, _, rfl, _, hlen, hf⟩ := DataW.trod_struct ht h
  obtain ⟨y0, y1, y2, y3, y4, y5, y6, rfl⟩ := list7 hlen
  exact ⟨y0, y1, y2, y3, y4, y5, y6, n, rfl, by simpa using hf 0 f0 rfl, by simpa using hf 1 f1 rfl, by simpa using hf 2 f2 rfl, by simpa using hf 3 f3 rfl, by simpa using hf 4 f4 rfl, by simpa using hf 5 f5 rfl, by simpa using hf 6 f6 rfl⟩
set_option maxRecDepth 100000 in
theorem open_acts {H : Type} {enc : TypeId × Value → H} {W : World} {a : Option Addr} {len cap : Nat} {d : DataW H} {ps : List MemPlace}
    (h : DataW.Trod enc Try.prog W 0 (fun _ => true) true 22 (.slice a len cap) d ps) (hz : ∀ n ∈ d.weights Try.prog 22, n ≤ reachBytes) :
    ∃ l : List ActT, l.length = len ∧ ActsAt W a l ∧ len ≤ 9223372036854775807 ∧ ∀ x ∈ l, ActOk x := by
  obtain ⟨fuel, hf⟩ := h
  rcases open_slice Try.underlying22 hf with ⟨hcs, _⟩ | ⟨x, n, c, m, k, D, Pl, hcs, hb, hl, hm, hmm, hxx, hx⟩
  · simp [Value.cells] at hcs
    obtain ⟨rfl, rfl, rfl⟩ := hcs
    exact ⟨[], rfl, .inl rfl, by omega, by simp⟩
  · simp [Value.cells] at hcs
    obtain ⟨rfl, rfl, rfl⟩ := hcs
    have hlm : len ≤ m := by rw [hmm]; split <;> omega
    have hd : d = .slice ((List.range len).map D) ((List.range (m - len)).map fun j => D (len + j)) := congrArg Prod.fst hxx
    have hin : ∀ i, i < len → ∀ n ∈ (D i).weights Try.prog 34, n ≤ reachBytes := by
      intro i hi n hn
      refine hz n ?_
      rw [hd]
      simp only [DataW.weights, Try.underlying22, List.mem_cons, List.mem_append]
      exact .inr (.inl (weightsAll_mem (List.mem_map.2 ⟨i, List.mem_range.2 hi, rfl⟩) n hn))
    have each : ∀ i, i < len → ∃ q : ActT, (∀ (j : Nat) (v : Value), (actC q)[j]? = some v → W.cell? (x.add (i * 7 + j)) = some v) ∧ ActOk q := by
      intro i hi
      obtain ⟨cs', h1, h2⟩ := hx i (by omega)
      have hw := hin i hi
      rw [cells34] at h1
      obtain ⟨_, hlen, hcell⟩ := World.cells?_some h1
      obtain ⟨y0, y1, y2, y3, y4, y5, y6, n2, hxs, u0, u1, u2, u3, u4, u5, u6⟩ := trod_struct7 Try.underlying34 h2
      obtain ⟨v0, v1, v2, v3, v4, v5, v6, rfl⟩ := list7 hlen
      simp only [cellsT9, cellsT3, List.drop, List.take] at u0 u1 u2 u3 u4 u5 u6
      obtain ⟨q0, e0, d0, w0⟩ := DataW.trod_int Try.underlying3 u0
      obtain ⟨q1, e1, d1, w1⟩ := DataW.trod_int Try.underlying3 u1
      obtain ⟨q2, e2, d2, w2⟩ := DataW.trod_int Try.underlying3 u2
      obtain ⟨q3, e3, d3, _⟩ := DataW.trod_string Try.underlying9 u3
      obtain ⟨q4, e4, d4, _⟩ := DataW.trod_string Try.underlying9 u4
      obtain ⟨q5, e5, d5, w5⟩ := DataW.trod_int Try.underlying3 u5
      obtain ⟨q6, e6, d6, _⟩ := DataW.trod_string Try.underlying9 u6
      simp only [List.cons.injEq, and_true] at e0 e1 e2 e3 e4 e5 e6
      subst e0 e1 e2 e3 e4 e5 e6
      have hD : D i = .agg [y0.1, y1.1, y2.1, y3.1, y4.1, y5.1, y6.1] := hxs
      rw [hD] at hw
      have hz3 : q3.data.toList.length ≤ reachBytes := hw _ (by
        simp only [DataW.weights, Try.underlying34]
        refine DataW.weights_mem_each (j := 3) (t := 9) rfl (List.getElem?_cons_succ ..) _ ?_
        rw [d3]
        simp [DataW.weights])
      have hz4 : q4.data.toList.length ≤ reachBytes := hw _ (by
        simp only [DataW.weights, Try.underlying34]
        refine DataW.weights_mem_each (j := 4) (t := 9) rfl (List.getElem?_cons_succ ..) _ ?_
        rw [d4]
        simp [DataW.weights])
      have hz6 : q6.data.toList.length ≤ reachBytes := hw _ (by
        simp only [DataW.weights, Try.underlying34]
        refine DataW.weights_mem_each (j := 6) (t := 9) rfl (List.getElem?_cons_succ ..) _ ?_
        rw [d6]
        simp [DataW.weights])
      have hre : reachBytes ≤ 140737488351300 := by decide
      refine ⟨⟨q0, q1, q2, q3.data.toList, q4.data.toList, q5, q6.data.toList⟩, ?_, ⟨w0, w1, w2, Nat.le_trans hz3 hre, Nat.le_trans hz4 hre, w5, Nat.le_trans hz6 hre⟩⟩
      intro j v hj
      have c0 := hcell 0 (by omega)
      have c1 := hcell 1 (by omega)
      have c2 := hcell 2 (by omega)
      have c3 := hcell 3 (by omega)
      have c4 := hcell 4 (by omega)
      have c5 := hcell 5 (by omega)
      have c6 := hcell 6 (by omega)
      rw [add_add] at c0 c1 c2 c3 c4 c5 c6
      unfold actC at hj
      simp only [mk_of] at hj
      match j, hj with
      | 0, hj => simp only [List.getElem?_cons_zero, Option.some.injEq] at hj; subst hj; simpa using c0
      | 1, hj => simp only [List.getElem?_cons_zero, List.getElem?_cons_succ, Option.some.injEq] at hj; subst hj; simpa using c1
      | 2, hj => simp only [List.getElem?_cons_zero, List.getElem?_cons_succ, Option.some.injEq] at hj; subst hj; simpa using c2
      | 3, hj => simp only [List.getElem?_cons_zero, List.getElem?_cons_succ, Option.some.injEq] at hj; subst hj; simpa using c3
      | 4, hj => simp only [List.getElem?_cons_zero, List.getElem?_cons_succ, Option.some.injEq] at hj; subst hj; simpa using c4
      | 5, hj => simp only [List.getElem?_cons_zero, List.getElem?_cons_succ, Option.some.injEq] at hj; subst hj; simpa using c5
      | 6, hj => simp only [List.getElem?_cons_zero, List.getElem?_cons_succ, Option.some.injEq] at hj; subst hj; simpa using c6
      | j + 7, hj => simp at hj
    haveI : Inhabited ActT := ⟨⟨0, 0, 0, [], [], 0, []⟩⟩
    obtain ⟨q, hq⟩ := choose_lt each
    unfold maxLen at hm
    refine ⟨(List.range len).map q, by simp, ?_, by omega, ?_⟩
    · by_cases h0 : len = 0
      · subst h0; exact .inl rfl
      · have hc0 := (hq 0 (by omega)).1 0 _ rfl
        obtain ⟨b, off, spot⟩ := x
        have hspot : spot = none := by simpa [Addr.add] using World.cell?_spot hc0
        subst hspot
        refine .inr ⟨b, off, rfl, ?_, fun j hj i v hv => ?_⟩
        · exact World.block_lt_of_cell? _ _ hc0
        · have hj' : j < len := by simpa using hj
          have e : ((List.range len).map q)[j] = q j := by simp
          rw [e] at hv
          have g0 := (hq j hj').1 i v hv
          rw [add_plain] at g0
          simpa [Nat.add_assoc] using g0
    · intro y hy
      obtain ⟨i, hi, rfl⟩ := List.mem_map.1 hy
      exact (hq i (List.mem_range.1 hi)).2
end Go.Proofs.Ytmjggjccmbiheab
