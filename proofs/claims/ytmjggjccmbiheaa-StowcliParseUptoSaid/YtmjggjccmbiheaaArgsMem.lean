/- How args' reader lies in memory: its specs, its words, the row of items that it grows. -/
import Derived.Test.YtmjggjccmbiheaaArgsPlain
import Derived.Test.YtmjggjccmbiheaaSink
import Derived.Deep.AppendLies
namespace Go.Proofs.Ytmjggjccmbiheaa
open Go Go.RowKit Go.Proofs Go.Sort

def specC (s : SpecT) : List Value := [.string (mk s.long), .int .u8 s.short.toNat, .int .i64 s.needs]
def specV (s : SpecT) : Value := .agg (specC s).toArray
def SpecsAt (W : World) (a : Option Addr) (ss : List SpecT) : Prop :=
  ss = [] ∨ ∃ b off, a = some ⟨b, off, none⟩ ∧ b < W.heap.size ∧ ∀ (j : Nat) (h : j < ss.length) (i : Nat) (v : Value), (specC ss[j])[i]? = some v → W.cell? ⟨b, off + j * 3 + i, none⟩ = some v
theorem SpecsAt.below {w w' : World} {a : Option Addr} {ss : List SpecT} (h : SpecsAt w a ss) (hb : Below w.heap.size w w') : SpecsAt w' a ss := by
  rcases h with h | ⟨b, off, e, hlt, hc⟩
  · exact .inl h
  · exact .inr ⟨b, off, e, Nat.lt_of_lt_of_le hlt hb.size, fun j hj i v hv => (hb.cell (p := ⟨b, off + j * 3 + i, none⟩) hlt).trans (hc j hj i v hv)⟩

/-- An item as it lies: where its values are. -/
structure RawI where
  it : ItemT
  A : Option Addr
  c : Nat
def rawC (x : RawI) : List Value := [.string (mk x.it.long), .slice x.A x.it.vals.length x.c]
theorem rawC_len : ∀ l : List RawI, (l.flatMap rawC).length = l.length * 2
  | [] => rfl
  | x :: l => by rw [List.flatMap_cons, List.length_append, rawC_len l, List.length_cons]; simp [rawC]; omega
/-- Texts that lie in a block that is neither R nor this row. -/
def SafeAt (W : World) (R : Nat) (row : Option Nat) (A : Option Addr) (xs : List Tx) : Prop :=
  xs = [] ∨ ∃ b off, A = some ⟨b, off, none⟩ ∧ b < W.heap.size ∧ b ≠ R ∧ some b ≠ row ∧ ∀ (j : Nat) (h : j < xs.length), W.cell? ⟨b, off + j, none⟩ = some (.string (mk xs[j]))
theorem SafeAt.strs {W : World} {R : Nat} {row : Option Nat} {A : Option Addr} {xs : List Tx} (h : SafeAt W R row A xs) : StrsAt W A xs := by
  rcases h with h | ⟨b, off, h1, h2, _, _, h5⟩
  · exact .inl h
  · exact .inr ⟨b, off, h1, h2, h5⟩

/-- What was there is as it was, but for block R and this row. -/
structure Keep (R : Nat) (row : Option Nat) (W W' : World) : Prop where
  os : W'.os = W.os
  tape : W'.tape = W.tape
  output : W'.output = W.output
  size : W.heap.size ≤ W'.heap.size
  block : ∀ k, k < W.heap.size → k ≠ R → some k ≠ row → W'.heap[k]? = W.heap[k]?
theorem Keep.refl (R : Nat) (row : Option Nat) (W : World) : Keep R row W W := ⟨rfl, rfl, rfl, Nat.le_refl _, fun _ _ _ _ => rfl⟩
theorem Keep.grown {R : Nat} {row : Option Nat} {W W' : World} (h : W.grownBy W' row) : Keep R row W W' := ⟨h.os, h.tape, h.output, h.size, fun k hk _ hr => h.block k hk hr⟩
theorem Keep.below {R : Nat} {row : Option Nat} {W W' : World} (h : Below W.heap.size W W') : Keep R row W W' := ⟨h.os, h.tape, h.output, h.size, fun k hk _ _ => h.block k hk⟩
theorem Keep.setR {R : Nat} {row : Option Nat} (W : World) (o : Nat) (u : Value) : Keep R row W (W.setCell ⟨R, o, none⟩ u) :=
  ⟨rfl, rfl, rfl, by simp, fun k _ hR _ => by simp [World.setCell, Array.getElem?_modify, Ne.symm hR]⟩
theorem Keep.trans {R : Nat} {row row' : Option Nat} {a b c : World} (h : Keep R row a b) (k : Keep R row' b c) (hr : row' = row ∨ ∃ g, row' = some g ∧ a.heap.size ≤ g) : Keep R row a c :=
  ⟨k.os.trans h.os, k.tape.trans h.tape, k.output.trans h.output, Nat.le_trans h.size k.size, fun j hj hR hrow => by
    refine (k.block j (Nat.lt_of_lt_of_le hj h.size) hR ?_).trans (h.block j hj hR hrow)
    rcases hr with rfl | ⟨g, rfl, hg⟩
    · exact hrow
    · intro e; cases e; omega⟩
theorem Keep.under {R B : Nat} {row : Option Nat} {w W W' : World} (hb : Below B w W) (h : Keep R row W W') (hR : B ≤ R) (hrow : ∀ g, row = some g → B ≤ g) (hB : B ≤ W.heap.size) : Below B w W' :=
  ⟨h.os.trans hb.os, h.tape.trans hb.tape, h.output.trans hb.output, Nat.le_trans hb.size h.size, fun j hj => (h.block j (by omega) (by omega) (by intro e; have := hrow j e.symm; omega)).trans (hb.block j hj)⟩
theorem Keep.cell {R : Nat} {row : Option Nat} {W W' : World} (h : Keep R row W W') {b o : Nat} (hb : b < W.heap.size) (hR : b ≠ R) (hrow : some b ≠ row) : W'.cell? ⟨b, o, none⟩ = W.cell? ⟨b, o, none⟩ :=
  World.cell?_of_block (a := ⟨b, o, none⟩) (h.block b hb hR hrow)
theorem SafeAt.keep {W W' : World} {R : Nat} {row row' : Option Nat} {A : Option Addr} {xs : List Tx} (h : SafeAt W R row A xs) (k : Keep R row W W') (hr : row' = row ∨ ∃ g, row' = some g ∧ W.heap.size ≤ g) : SafeAt W' R row' A xs := by
  rcases h with h | ⟨b, off, h1, h2, h3, h4, h5⟩
  · exact .inl h
  · refine .inr ⟨b, off, h1, Nat.lt_of_lt_of_le h2 k.size, h3, ?_, fun j hj => (k.cell h2 h3 h4).trans (h5 j hj)⟩
    rcases hr with rfl | ⟨g, rfl, hg⟩
    · exact h4
    · intro e; cases e; omega

/-- The row of items. -/
def OutAt (W : World) (base R : Nat) (v : Value) (items : List ItemT) : Prop :=
  ∃ raws : List RawI, raws.map (·.it) = items ∧ W.ownsRow base 108 2 v items.length (raws.flatMap rawC) ∧ v.ownBlock ≠ some R ∧ ∀ x ∈ raws, SafeAt W R v.ownBlock x.A x.it.vals
theorem OutAt.nil (W : World) (base R : Nat) : OutAt W base R (.slice none 0 0) [] := ⟨[], rfl, World.ownsRow_nil _ _ _ _, by simp [Value.ownBlock], by simp⟩
theorem OutAt.own {W : World} {base R : Nat} {v : Value} {items : List ItemT} (h : OutAt W base R v items) : ∀ g, v.ownBlock = some g → base ≤ g ∧ g < W.heap.size := by
  obtain ⟨raws, _, h2, _, _⟩ := h
  exact h2.lt
theorem OutAt.keep {W W' : World} {base R : Nat} {v : Value} {items : List ItemT} (h : OutAt W base R v items) (k : Keep R none W W') : OutAt W' base R v items := by
  obtain ⟨raws, h1, h2, h3, h4⟩ := h
  refine ⟨raws, h1, ⟨h2.1, ?_⟩, h3, fun x hx => ?_⟩
  · rcases h2.2 with h0 | ⟨g, cap, cur, hv, hb, hg, r⟩
    · exact .inl h0
    · refine .inr ⟨g, cap, cur, hv, hb, ?_, r⟩
      rw [k.block g (Array.getElem?_eq_some_iff.1 hg).1 (by rintro rfl; rw [hv] at h3; exact h3 rfl) (by simp)]
      exact hg
  · exact (h4 x hx).keep ⟨k.os, k.tape, k.output, k.size, fun j hj hR _ => k.block j hj hR (by simp)⟩ (.inl rfl)

/-- The reader. -/
structure RSt (W : World) (base R : Nat) (sv wv : Value) (k : Nat) (v : Value) (items : List ItemT) : Prop where
  blk : W.heap[R]? = some (.cells #[sv, wv, .int .i64 k, v] 87 (0, 0))
  out : OutAt W base R v items
  hb : base ≤ R
theorem RSt.lt {W : World} {base R : Nat} {sv wv : Value} {k : Nat} {v : Value} {items : List ItemT} (h : RSt W base R sv wv k v items) : R < W.heap.size := (Array.getElem?_eq_some_iff.1 h.blk).1
theorem RSt.cells {W : World} {base R : Nat} {sv wv : Value} {k : Nat} {v : Value} {items : List ItemT} (h : RSt W base R sv wv k v items) :
    W.cell? ⟨R, 0, none⟩ = some sv ∧ W.cell? ⟨R, 1, none⟩ = some wv ∧ W.cell? ⟨R, 2, none⟩ = some (.int .i64 k) ∧ W.cell? ⟨R, 3, none⟩ = some v ∧ W.frozen? ⟨R, 2, none⟩ = false ∧ W.frozen? ⟨R, 3, none⟩ = false := by
  have hb := h.blk
  refine ⟨?_, ?_, ?_, ?_, ?_, ?_⟩ <;> simp [World.cell?, World.frozen?, hb]
theorem RSt.kept {W W' : World} {base R : Nat} {sv wv : Value} {k : Nat} {v : Value} {items : List ItemT} (h : RSt W base R sv wv k v items) (hb : Below W.heap.size W W') : RSt W' base R sv wv k v items :=
  ⟨(hb.block R h.lt).trans h.blk, h.out.keep (Keep.below hb), h.hb⟩
theorem heap_setCell_at {W : World} {R : Nat} {cs : Array Value} {t : TypeId} {fr : Nat × Nat} (h : W.heap[R]? = some (.cells cs t fr)) (o : Nat) (u : Value) : (W.setCell ⟨R, o, none⟩ u).heap[R]? = some (.cells (cs.setIfInBounds o u) t fr) := by
  simp [World.setCell, Array.getElem?_modify, h]
theorem RSt.setAt {W : World} {base R : Nat} {sv wv : Value} {k : Nat} {v : Value} {items : List ItemT} (h : RSt W base R sv wv k v items) (k' : Nat) : RSt (W.setCell ⟨R, 2, none⟩ (.int .i64 k')) base R sv wv k' v items :=
  ⟨heap_setCell_at h.blk 2 _, h.out.keep (Keep.setR W 2 _), h.hb⟩
theorem RSt.setOut {W : World} {base R : Nat} {sv wv v0 : Value} {k : Nat} {v : Value} {items : List ItemT} (h : W.heap[R]? = some (.cells #[sv, wv, .int .i64 k, v0] 87 (0, 0))) (ho : OutAt W base R v items) (hb : base ≤ R) : RSt (W.setCell ⟨R, 3, none⟩ v) base R sv wv k v items :=
  ⟨heap_setCell_at h 3 _, ho.keep (Keep.setR W 3 _), hb⟩

theorem info108 : (Try.prog.info? 108).map (fun i => (i.zero, i.size, i.bytes)) = some (some (.agg #[.string ⟨#[]⟩, .slice none 0 0]), 2, 40) := by kernel_rfl

section
variable {ops : Array Oper}
/-- append(r.out, item): the item lies in a block of its own. -/
theorem wp_append_item {W0 W : World} {o : Oper} {a : Act} {K : Act → World → Prop} {Q : Exit → Act → World → Prop} (s x : Operand)
    (ho : o.op = .call { callee := .builtin .append, args := #[s, x], argTypes := #[30, 30] }) (base R : Nat) (v : Value) (items : List ItemT) (hs : a.eval s = v)
    (H0 : OutAt W0 base R v items) (hbl : Below W0.heap.size W0 W) (hbase : base ≤ W0.heap.size) (hl : (items.length + 1) * 40 ≤ 140737488355328)
    (B : Nat) (hx : a.eval x = .slice (some ⟨B, 0, none⟩) 1 1) (it : ItemT) (A : Option Addr) (c : Nat) (fr : Nat × Nat) (hB : W.heap[B]? = some (.cells #[.string (mk it.long), .slice A it.vals.length c] 108 fr))
    (hBR : R < W.heap.size) (hsafe : SafeAt W R v.ownBlock A it.vals)
    (h : ∀ g cap w1, OutAt w1 base R (.slice (some ⟨g, 0, none⟩) (items.length + 1) cap) (items ++ [it]) → W.grownBy w1 v.ownBlock → ((Value.slice (some ⟨g, 0, none⟩) (items.length + 1) cap).ownBlock = v.ownBlock ∨ ∃ g', (Value.slice (some ⟨g, 0, none⟩) (items.length + 1) cap).ownBlock = some g' ∧ W.heap.size ≤ g') → K (a.put o.dst (.slice (some ⟨g, 0, none⟩) (items.length + 1) cap)) w1) : o.wp Try.prog a W K Q := by
  obtain ⟨raws, h1, h2, h3, h4⟩ := H0
  obtain ⟨i0, hi, hzz⟩ := Option.map_eq_some_iff.1 info108
  simp only [Prod.mk.injEq] at hzz
  obtain ⟨hz0, hz1, hz2⟩ := hzz
  have hown := own_below h2 hbl
  have hm1 : items.length + 1 ≤ maxLen := by simp only [maxLen]; omega
  refine wp_append_lies W s x 30 ho base 108 i0 _ 2 40 Try.underlying30 hi hz0 hz1 hz2 rfl (by decide) v items.length _ hs hown ⟨B, 0, none⟩ 1 1 [.string (mk it.long), .slice A it.vals.length c] hx rfl
    (World.news_of_block (cs := #[.string (mk it.long), .slice A it.vals.length c]) hB) (by simp [Value.oneCell']) (by decide) hm1 hl (Nat.le_trans hbase hbl.size) _ rfl ?_
  intro g cap w1 o1 g1 e1 l1
  refine h g cap w1 ⟨raws ++ [⟨it, A, c⟩], by simp [h1], ?_, ?_, ?_⟩ g1 ?_
  · rw [List.length_append, List.flatMap_append]
    exact o1
  · intro e
    have e2 : g = R := by simpa [Value.ownBlock] using e
    subst e2
    rcases e1 with e1 | e1
    · exact h3 e1
    · omega
  · have hrow : (Value.slice (some ⟨g, 0, none⟩) (items.length + 1) cap).ownBlock = v.ownBlock ∨ ∃ g', (Value.slice (some ⟨g, 0, none⟩) (items.length + 1) cap).ownBlock = some g' ∧ W.heap.size ≤ g' := by
      rcases e1 with e1 | e1
      · exact .inl e1.symm
      · exact .inr ⟨g, rfl, by omega⟩
    intro y hy
    rcases List.mem_append.1 hy with hy | hy
    · have hs1 := (h4 y hy).keep (Keep.below hbl) (.inl rfl)
      exact hs1.keep (Keep.grown g1) hrow
    · rw [List.mem_singleton.1 hy]
      exact hsafe.keep (Keep.grown g1) hrow
  · rcases e1 with e1 | e1
    · exact .inl e1.symm
    · exact .inr ⟨g, rfl, by omega⟩
end
end Go.Proofs.Ytmjggjccmbiheaa
