/- A tree's map of nodes: what stands at a number. -/
import Derived.Test.YtmjggjccmbiheabEntsPlain
import Derived.Maps.Own
import Derived.Maps.OwnOps
import Derived.Maps.OwnSet
namespace Go.Proofs.Ytmjggjccmbiheab
open Go Go.RowKit Go.Proofs Go.Sort Go.Maps Go.WideMaps

/-- What a node is, in plain words. -/
structure PNode where
  kind : Int
  up : Int
  data : Tx
  ents : List En
/-- A node as it lies in the map. -/
structure RawN where
  p : PNode
  A : Option Addr
  c : Nat
def rawV (r : RawN) : Value := .agg #[.int .i64 r.p.kind, .int .i64 r.p.up, .string (mk r.p.data), .slice r.A r.p.ents.length r.c]
def zeroN : RawN := ⟨⟨0, 0, [], []⟩, none, 0⟩
def nodeV (o : Option RawN) : Value := rawV (o.getD zeroN)
theorem zeroT (w : World) : (zeroValue 51).run Try.prog w = .ok (rawV zeroN) w := by kernel_rfl
theorem law3 : Keyed Try.prog 3 := int_keyed Try.underlying3
def heldR (v : Value) : Option (DataW Value × List MemPlace) := some (.held v, [])
abbrev wfI (k : Int) : Prop := (Lit.int .i64 k).wf = true
def upd {α : Type} (f : Int → Option α) (k : Int) (v : Option α) : Int → Option α := fun n => if n = k then v else f n
theorem upd_same {α : Type} (f : Int → Option α) (k : Int) (v : Option α) : upd f k v k = v := by simp [upd]
theorem upd_other {α : Type} (f : Int → Option α) {k n : Int} (v : Option α) (h : n ≠ k) : upd f k v n = f n := by simp [upd, h]

/-- The map's datum says what f says. -/
def AtM (f : Int → Option RawN) (D : DataW Value) : Prop := ∀ k, wfI k → ∀ d, D.atKey (.int .i64 k) d = match f k with
  | some r => .held (rawV r)
  | none => d
/-- Block b is a map of cnt nodes that says what f says. -/
def MapAt (W : World) (b cnt : Nat) (f : Int → Option RawN) : Prop := ∃ D, W.ownsMap Try.prog 3 heldR b cnt D ∧ AtM f D ∧ Maps.size D = cnt
theorem tight {W : World} {b n : Nat} {D : DataW Value} (h : W.ownsMap Try.prog 3 heldR b n D) : W.ownsMap Try.prog 3 heldR b (Maps.size D) D := by
  obtain ⟨es, clock, h1, h2, h3, h4⟩ := h
  refine ⟨es, clock, h1, h2, ?_, h4⟩
  subst h4
  have := length_sorted (es.toList.map (WideElems.rg Try.prog 3 heldR))
  simp only [Maps.size]
  rw [this]
  simp
theorem key3 {k : Int} (h : wfI k) : keyOf Try.prog 3 (.int .i64 k) = some (.int .i64 k) := keyOf_int_mk Try.underlying3 h
theorem AtM.has {f : Int → Option RawN} {D : DataW Value} (h : AtM f D) {k : Int} (hk : wfI k) : Maps.has D (.int .i64 k) = (f k).isSome := by
  cases hf : f k with
  | none => exact has_false_of_atKey (fun z => by rw [h k hk, hf])
  | some r => exact has_true_of_atKey (y := .held (rawV r)) (fun z => by rw [h k hk, hf])
section
variable {W : World} {b cnt : Nat} {f : Int → Option RawN} {k : Int}
theorem MapAt.look (h : MapAt W b cnt f) (hk : wfI k) : (Instr.lookup 52 (.map (some b)) (.int .i64 k) false).run Try.prog W = .ok (nodeV (f k)) W := by
  obtain ⟨D, h1, h2, _⟩ := h
  obtain ⟨v, ps, hrun, hv⟩ := h1.lookup law3 Try.underlying52 (zeroT W) (zd := .held (rawV zeroN)) (zp := []) rfl (key3 hk)
  rw [h2 k hk] at hv
  rw [hrun]
  unfold nodeV
  cases hf : f k with
  | none => rw [hf] at hv; simp [heldR] at hv; rw [hv.1]; rfl
  | some r => rw [hf] at hv; simp [heldR] at hv; rw [hv.1]; rfl
theorem MapAt.lookOk (h : MapAt W b cnt f) (hk : wfI k) : (Instr.lookup 52 (.map (some b)) (.int .i64 k) true).run Try.prog W = .ok (.tuple #[nodeV (f k), .bool (f k).isSome]) W := by
  obtain ⟨D, h1, h2, _⟩ := h
  obtain ⟨v, ps, hrun, hv⟩ := h1.look_ok law3 Try.underlying52 (zeroT W) (zd := .held (rawV zeroN)) (zp := []) rfl (key3 hk)
  rw [h2 k hk] at hv
  rw [hrun, h2.has hk]
  unfold nodeV
  cases hf : f k with
  | none => rw [hf] at hv; simp [heldR] at hv; rw [hv.1]; rfl
  | some r => rw [hf] at hv; simp [heldR] at hv; rw [hv.1]; rfl
theorem MapAt.len (h : MapAt W b cnt f) (ty : TypeId) : (Builtin.len_ #[52] ty #[.map (some b)]).run Try.prog W = .ok (.int .i64 cnt) W := by
  obtain ⟨D, h1, _, h3⟩ := h
  rw [h1.len Try.underlying52 ty, h3]
theorem AtM.put {D : DataW Value} (h : AtM f D) (hD : IsMap D) (r : RawN) (hk : wfI k) : AtM (upd f k (some r)) (D.put (.int .i64 k) (.held (rawV r))) := by
  intro n hn d
  by_cases e : n = k
  · subst e
    rw [atKey_put_same hD (law3.key (key3 hn)), upd_same]
  · rw [atKey_put_other (fun he => e (by simpa using he)), upd_other _ _ e]
    exact h n hn d
theorem AtM.del {D : DataW Value} (h : AtM f D) : AtM (upd f k none) (D.del (.int .i64 k)) := by
  intro n hn d
  by_cases e : n = k
  · subst e
    rw [atKey_del_same, upd_same]
  · rw [atKey_del_other (fun he => e (by simpa using he)), upd_other _ _ e]
    exact h n hn d
/-- m[k] = v. -/
theorem MapAt.put (h : MapAt W b cnt f) (hk : wfI k) (hc : cnt ≤ 1000000) (r : RawN) : ∃ w', (Instr.mapUpdate 52 (.map (some b)) (.int .i64 k) (rawV r)).run Try.prog W = .ok () w' ∧ MapAt w' b (if (f k).isSome then cnt else cnt + 1) (upd f k (some r)) ∧ W.grownBy w' (some b) := by
  obtain ⟨D, h1, h2, h3⟩ := h
  obtain ⟨w', hrun, r1, r2⟩ := h1.update law3 Try.underlying52 (by simp only [maxLen]; omega) (key3 hk) (d := .held (rawV r)) (ps := []) rfl
  have e := size_put (D := D) (k := .int .i64 k) (h1.tidy law3) (.held (rawV r))
  rw [h2.has hk, h3] at e
  refine ⟨w', hrun, ⟨_, ?_, h2.put h1.isMap r hk, e⟩, r2⟩
  rw [← e]
  exact tight r1
/-- An entry of a map's literal. -/
theorem MapAt.insert (h : MapAt W b cnt f) (hk : wfI k) (hc : cnt ≤ 1000000) (hf : f k = none) (r : RawN) : ∃ w', (Instr.mapUpdate 52 (.map (some b)) (.int .i64 k) (rawV r)).run Try.prog W = .ok () w' ∧ MapAt w' b (cnt + 1) (upd f k (some r)) ∧ W.grownBy w' (some b) := by
  obtain ⟨w', h1, h2, h3⟩ := h.put hk hc r
  rw [hf] at h2
  exact ⟨w', h1, h2, h3⟩
/-- delete(m, k). -/
theorem MapAt.drop (h : MapAt W b cnt f) (hk : wfI k) (ty : TypeId) : ∃ w', (Builtin.delete_ #[52, 3] ty #[.map (some b), .int .i64 k]).run Try.prog W = .ok (.tuple #[]) w' ∧ MapAt w' b (if (f k).isSome then cnt - 1 else cnt) (upd f k none) ∧ W.grownBy w' (some b) := by
  obtain ⟨D, h1, h2, h3⟩ := h
  obtain ⟨w', hrun, r1, r2⟩ := h1.drop law3 Try.underlying52 (key3 hk) ty
  have e := size_del (D := D) (k := .int .i64 k) (h1.tidy law3)
  rw [h2.has hk, h3] at e
  have e2 : Maps.size (D.del (.int .i64 k)) = if (f k).isSome then cnt - 1 else cnt := by
    cases hs : (f k).isSome
    · rw [hs] at e; simpa using e
    · rw [hs] at e; simp at e; simp; omega
  refine ⟨w', hrun, ⟨_, ?_, h2.del, e2⟩, r2.grown⟩
  rw [← e2]
  exact tight r1
theorem MapAt.below {W' : World} (h : MapAt W b cnt f) (hb : Below W.heap.size W W') : MapAt W' b cnt f := by
  obtain ⟨D, ⟨es, clock, h1, h2⟩, h3⟩ := h
  exact ⟨D, ⟨es, clock, (hb.block b (Array.getElem?_eq_some_iff.1 h1).1).trans h1, h2⟩, h3⟩
theorem MapAt.lt (h : MapAt W b cnt f) : b < W.heap.size := by
  obtain ⟨D, h1, _⟩ := h
  exact h1.lt
theorem MapAt.of_block {W' : World} (h : MapAt W b cnt f) (hb : W'.heap[b]? = W.heap[b]?) : MapAt W' b cnt f := by
  obtain ⟨D, ⟨es, clock, h1, h2⟩, h3⟩ := h
  exact ⟨D, ⟨es, clock, hb.trans h1, h2⟩, h3⟩
/-- A map has no cells. -/
theorem MapAt.noCell (h : MapAt W b cnt f) (i : Nat) (v : Value) : W.cell? ⟨b, i, none⟩ ≠ some v := by
  obtain ⟨D, ⟨es, clock, h1, _⟩, _⟩ := h
  unfold World.cell?
  rw [h1]
  simp
theorem MapAt.made (W : World) : MapAt (W.alloc (.map #[] 0)) W.heap.size 0 (fun _ => none) := ⟨.map [], World.ownsMap_made W _ _ _, fun _ _ _ => rfl, rfl⟩
end
end Go.Proofs.Ytmjggjccmbiheab
