/- The reference's specs of stow; the block in which it writes what stow is to do. -/
import Derived.Test.YtmjggjccmbiheaaRefArgsB
import Derived.Test.YtmjggjccmbiheaaStowRefP
import Derived.Deep.AppendLies
namespace Go.Proofs.Ytmjggjccmbiheaa
open Go Go.RowKit Go.Proofs Go.Sort
attribute [local go_sem] mk_list mk_size mk_data

set_option maxRecDepth 100000 in
set_option maxHeartbeats 2000000 in
theorem ref38_Specs (w : World) : Calls Try.prog 64 #[] w fun e w' => (∃ A c, e = .returned (.slice A stowL.length c) ∧ SpecsAt w' A stowL) ∧ Below w.heap.size w w' := by
  go_enter Try.func64, Try.ntmps64
  go_wp2_with fail
  go_ret
  refine ⟨⟨_, _, rfl, .inr ⟨w.heap.size, 0, rfl, by simp, fun j hj i v hv => ?_⟩⟩, (Below.refl _ _).alloc (Nat.le_refl _) _⟩
  rw [Nat.zero_add, cellA_new]
  have h1 := flat_at specC 3 (fun _ => rfl) stowL j hj i v hv
  rw [List.getElem?_toArray]
  refine Eq.trans (congrArg (fun l : List Value => l[j * 3 + i]?) ?_) h1
  rfl

/-- An item as it lies. -/
theorem RowI.item {W : World} {base : Nat} {v : Value} {items : List ItemT} (h : RowI W base v items) {k : Nat} (hk : k < items.length) : ∃ g c A cv, v = .slice (some ⟨g, 0, none⟩) items.length c ∧ g < W.heap.size ∧ W.cell? ⟨g, k * 2, none⟩ = some (.string (mk items[k].long)) ∧ W.cell? ⟨g, k * 2 + 1, none⟩ = some (.slice A items[k].vals.length cv) ∧ StrsAt W A items[k].vals := by
  obtain ⟨raws, rfl, h2, h4⟩ := h
  rw [List.length_map] at h2 hk ⊢
  rcases h2.2 with ⟨rfl, h0⟩ | ⟨g, cap, cur, rfl, _, hg, _⟩
  · omega
  · obtain ⟨r1, r2⟩ := raws_at raws k hk
    have c1 := h2.cells (g := g) rfl _ _ r1
    have c2 := h2.cells (g := g) rfl _ _ r2
    have had : ∀ i, (⟨g, 0, none⟩ : Addr).add i = ⟨g, i, none⟩ := fun i => by unfold Addr.add; split <;> simp_all
    rw [had] at c1 c2
    refine ⟨g, cap, raws[k].A, raws[k].c, rfl, (Array.getElem?_eq_some_iff.1 hg).1, ?_, ?_, ?_⟩
    · simpa using c1
    · simpa using c2
    · simpa using (h4 _ (List.getElem_mem hk)).strs

/-- The cells of what stow is to do. -/
def cmdC (C : CmdT) (a1 a2 a3 a4 : Value) : Array Value := #[.string (mk C.dir), .string (mk C.target), .bool C.fold, .bool C.dots, .bool C.adopt, a1, a2, a3, a4, .bool C.sim, .bool C.quiet]
abbrev tx (xs : List Tx) : List Value := xs.map fun x => .string (mk x)
/-- Its four rows, each in a block of its own. -/
structure RowsR (W : World) (U : Nat) (C : CmdT) (a1 a2 a3 a4 : Value) : Prop where
  r1 : W.ownsRow U 9 1 a1 C.ign.length (tx C.ign)
  r2 : W.ownsRow U 9 1 a2 C.defr.length (tx C.defr)
  r3 : W.ownsRow U 9 1 a3 C.over.length (tx C.over)
  r4 : W.ownsRow U 98 2 a4 C.deals.length (C.deals.flatMap dealC)
  n12 : ∀ g, a1.ownBlock = some g → a2.ownBlock ≠ some g
  n13 : ∀ g, a1.ownBlock = some g → a3.ownBlock ≠ some g
  n23 : ∀ g, a2.ownBlock = some g → a3.ownBlock ≠ some g
theorem own_keep {W W' : World} {R U : Nat} {row : Option Nat} {e : TypeId} {s n : Nat} {v : Value} {xs : List Value} (h : W.ownsRow U e s v n xs) (k : Keep R row W W') (hR : R < U) (hrow : ∀ g, v.ownBlock = some g → row ≠ some g) : W'.ownsRow U e s v n xs := by
  refine ⟨h.1, ?_⟩
  rcases h.2 with h0 | ⟨g, cap, cur, hv, hb, hg, r⟩
  · exact .inl h0
  · refine .inr ⟨g, cap, cur, hv, hb, ?_, r⟩
    rw [k.block g (Array.getElem?_eq_some_iff.1 hg).1 (by omega) (by rw [hv] at hrow; exact fun e => hrow g rfl e.symm)]
    exact hg
theorem RowsR.keep {W W' : World} {R U : Nat} {C : CmdT} {a1 a2 a3 a4 : Value} (h : RowsR W U C a1 a2 a3 a4) (k : Keep R none W W') (hR : R < U) : RowsR W' U C a1 a2 a3 a4 :=
  ⟨own_keep h.r1 k hR (by simp), own_keep h.r2 k hR (by simp), own_keep h.r3 k hR (by simp), own_keep h.r4 k hR (by simp), h.n12, h.n13, h.n23⟩
theorem RowsR.below {W W' : World} {U : Nat} {C : CmdT} {a1 a2 a3 a4 : Value} (h : RowsR W U C a1 a2 a3 a4) (hb : Below W.heap.size W W') : RowsR W' U C a1 a2 a3 a4 :=
  ⟨own_below h.r1 hb, own_below h.r2 hb, own_below h.r3 hb, own_below h.r4 hb, h.n12, h.n13, h.n23⟩
/-- Rows of two types lie in two blocks. -/
theorem own_apart {W : World} {U U' : Nat} {e e' : TypeId} {s s' n n' : Nat} {v v' : Value} {xs xs' : List Value} (h : W.ownsRow U e s v n xs) (h' : W.ownsRow U' e' s' v' n' xs') (he : e ≠ e') : ∀ g, v.ownBlock = some g → v'.ownBlock ≠ some g := by
  intro g e1 e2
  rcases h.2 with ⟨rfl, _⟩ | ⟨g1, _, _, rfl, _, b1, _⟩
  · simp [Value.ownBlock] at e1
  · rcases h'.2 with ⟨rfl, _⟩ | ⟨g2, _, _, rfl, _, b2, _⟩
    · simp [Value.ownBlock] at e2
    · simp only [Value.ownBlock, Option.some.injEq] at e1 e2
      subst e1 e2
      rw [b1] at b2
      simp only [Option.some.injEq, Obj.cells.injEq] at b2
      exact he b2.2.1
/-- The rows that are not appended to. -/
theorem own_grown {W W' : World} {U : Nat} {row : Option Nat} {e : TypeId} {s n : Nat} {v : Value} {xs : List Value} (h : W.ownsRow U e s v n xs) (g : W.grownBy W' row) (hrow : ∀ k, v.ownBlock = some k → row ≠ some k) : W'.ownsRow U e s v n xs := by
  refine ⟨h.1, ?_⟩
  rcases h.2 with h0 | ⟨k, cap, cur, hv, hb, hg, r⟩
  · exact .inl h0
  · refine .inr ⟨k, cap, cur, hv, hb, ?_, r⟩
    rw [g.block k (Array.getElem?_eq_some_iff.1 hg).1 (by rw [hv] at hrow; exact fun e => hrow k rfl e.symm)]
    exact hg
theorem own_new {W : World} {U : Nat} {e : TypeId} {s n : Nat} {v v1 u : Value} {xs : List Value} (h : W.ownsRow U e s v n xs) (e1 : v1.ownBlock = u.ownBlock ∨ ∃ g, v1.ownBlock = some g ∧ W.heap.size ≤ g) (hne : ∀ g, u.ownBlock = some g → v.ownBlock ≠ some g) : ∀ g, v1.ownBlock = some g → v.ownBlock ≠ some g := by
  intro g h1 h2
  rcases e1 with e1 | ⟨g', e1, e2⟩
  · exact hne g (e1.symm.trans h1) h2
  · have := (h.lt g h2).2
    rw [e1] at h1
    have := Option.some.inj h1
    omega
theorem flip {a b : Value} (h : ∀ g, a.ownBlock = some g → b.ownBlock ≠ some g) : ∀ g, b.ownBlock = some g → a.ownBlock ≠ some g := fun g h1 h2 => h g h2 h1
section
variable {W W' : World} {U : Nat} {C : CmdT} {a1 a2 a3 a4 v : Value} (h : RowsR W U C a1 a2 a3 a4) (x : Tx)
include h
theorem rows_put1 (g : W.grownBy W' a1.ownBlock) (e1 : v.ownBlock = a1.ownBlock ∨ ∃ g, v.ownBlock = some g ∧ W.heap.size ≤ g) (o : W'.ownsRow U 9 1 v (C.ign.length + 1) (tx C.ign ++ [.string (mk x)])) : RowsR W' U { C with ign := C.ign ++ [x] } v a2 a3 a4 :=
  ⟨by simpa [tx] using o, own_grown h.r2 g (flip h.n12), own_grown h.r3 g (flip h.n13), own_grown h.r4 g (own_apart h.r4 h.r1 (by decide)), own_new h.r2 e1 h.n12, own_new h.r3 e1 h.n13, h.n23⟩
theorem rows_put2 (g : W.grownBy W' a2.ownBlock) (e1 : v.ownBlock = a2.ownBlock ∨ ∃ g, v.ownBlock = some g ∧ W.heap.size ≤ g) (o : W'.ownsRow U 9 1 v (C.defr.length + 1) (tx C.defr ++ [.string (mk x)])) : RowsR W' U { C with defr := C.defr ++ [x] } a1 v a3 a4 :=
  ⟨own_grown h.r1 g h.n12, by simpa [tx] using o, own_grown h.r3 g (flip h.n23), own_grown h.r4 g (own_apart h.r4 h.r2 (by decide)), flip (own_new h.r1 e1 (flip h.n12)), h.n13, own_new h.r3 e1 h.n23⟩
theorem rows_put3 (g : W.grownBy W' a3.ownBlock) (e1 : v.ownBlock = a3.ownBlock ∨ ∃ g, v.ownBlock = some g ∧ W.heap.size ≤ g) (o : W'.ownsRow U 9 1 v (C.over.length + 1) (tx C.over ++ [.string (mk x)])) : RowsR W' U { C with over := C.over ++ [x] } a1 a2 v a4 :=
  ⟨own_grown h.r1 g h.n13, own_grown h.r2 g h.n23, by simpa [tx] using o, own_grown h.r4 g (own_apart h.r4 h.r3 (by decide)), h.n12, flip (own_new h.r1 e1 (flip h.n13)), flip (own_new h.r2 e1 (flip h.n23))⟩
theorem rows_put4 (d : DealT) (g : W.grownBy W' a4.ownBlock) (o : W'.ownsRow U 98 2 v (C.deals.length + 1) (C.deals.flatMap dealC ++ dealC d)) : RowsR W' U { C with deals := C.deals ++ [d] } a1 a2 a3 v :=
  ⟨own_grown h.r1 g (own_apart h.r1 h.r4 (by decide)), own_grown h.r2 g (own_apart h.r2 h.r4 (by decide)), own_grown h.r3 g (own_apart h.r3 h.r4 (by decide)), by simpa using o, h.n12, h.n13, h.n23⟩
end

/-- What stow is to do, in block z. -/
def CmdR (W : World) (z : Nat) (C : CmdT) : Prop :=
  ∃ A1 q1 A2 q2 A3 q3 A4 q4, W.heap[z]? = some (.cells (cmdC C (.slice A1 C.ign.length q1) (.slice A2 C.defr.length q2) (.slice A3 C.over.length q3) (.slice A4 C.deals.length q4)) 76) ∧
    RowsR W (z + 1) C (.slice A1 C.ign.length q1) (.slice A2 C.defr.length q2) (.slice A3 C.over.length q3) (.slice A4 C.deals.length q4)
/-- A store into the block that writes no row. -/
theorem cmd_store {W : World} {z : Nat} {C C' : CmdT} {A1 A2 A3 A4 : Option Addr} {q1 q2 q3 q4 : Nat} (i : Nat) (u : Value)
    (h : W.heap[z]? = some (.cells (cmdC C (.slice A1 C.ign.length q1) (.slice A2 C.defr.length q2) (.slice A3 C.over.length q3) (.slice A4 C.deals.length q4)) 76))
    (hr : RowsR W (z + 1) C (.slice A1 C.ign.length q1) (.slice A2 C.defr.length q2) (.slice A3 C.over.length q3) (.slice A4 C.deals.length q4))
    (e : (cmdC C (.slice A1 C.ign.length q1) (.slice A2 C.defr.length q2) (.slice A3 C.over.length q3) (.slice A4 C.deals.length q4)).setIfInBounds i u = cmdC C' (.slice A1 C.ign.length q1) (.slice A2 C.defr.length q2) (.slice A3 C.over.length q3) (.slice A4 C.deals.length q4))
    (e1 : C'.ign = C.ign) (e2 : C'.defr = C.defr) (e3 : C'.over = C.over) (e4 : C'.deals = C.deals) : CmdR (W.setCell ⟨z, i, none⟩ u) z C' := by
  have h1 := heap_setCell_at h i u
  rw [e] at h1
  have h2 := hr.keep (Keep.setR W i u) (Nat.lt_succ_self z)
  refine ⟨A1, q1, A2, q2, A3, q3, A4, q4, ?_, ?_⟩
  · rw [e1, e2, e3, e4]; exact h1
  · rw [e1, e2, e3, e4]
    exact ⟨by rw [e1]; exact h2.r1, by rw [e2]; exact h2.r2, by rw [e3]; exact h2.r3, by rw [e4]; exact h2.r4, h2.n12, h2.n13, h2.n23⟩
theorem CmdR.at {W : World} {z B : Nat} {C : CmdT} (h : CmdR W z C) (hB : B ≤ z + 1) : ∃ A1 q1 A2 q2 A3 q3 A4 q4, W.heap[z]? = some (.cells (cmdC C (.slice A1 C.ign.length q1) (.slice A2 C.defr.length q2) (.slice A3 C.over.length q3) (.slice A4 C.deals.length q4)) 76) ∧
    AboveAt W B A1 C.ign ∧ AboveAt W B A2 C.defr ∧ AboveAt W B A3 C.over ∧ DealsAt W B A4 C.deals := by
  obtain ⟨A1, q1, A2, q2, A3, q3, A4, q4, h1, h2⟩ := h
  have ab : ∀ {A : Option Addr} {n q : Nat} {xs : List Tx}, W.ownsRow (z + 1) 9 1 (.slice A xs.length q) n (tx xs) → AboveAt W B A xs := fun o => by
    obtain ⟨A', c', e, hh⟩ := own_above o
    simp only [Value.slice.injEq] at e
    rw [e.1]
    exact hh.mono hB
  refine ⟨A1, q1, A2, q2, A3, q3, A4, q4, h1, ab h2.r1, ab h2.r2, ab h2.r3, ?_⟩
  obtain ⟨A', c', e, hh, _⟩ := own_deals h2.r4 rfl
  simp only [Value.slice.injEq] at e
  rw [e.1]
  exact hh.mono hB
theorem info98d : (Try.prog.info? 98).map (fun i => (i.zero, i.size, i.bytes)) = some (some (.agg #[.int .i64 0, .string ⟨#[]⟩]), 2, 24) := by kernel_rfl
section
variable {ops : Array Oper} {o : Oper} {a : Act} {K : Act → World → Prop} {Q : Exit → Act → World → Prop} {E : Prop} {W0 W : World}
theorem slice_own {g n cap : Nat} {v : Value} {H : Nat} (e1 : v.ownBlock = some g ∨ g = H) : (Value.slice (some ⟨g, 0, none⟩) n cap).ownBlock = v.ownBlock ∨ ∃ g', (Value.slice (some ⟨g, 0, none⟩) n cap).ownBlock = some g' ∧ H ≤ g' := by
  rcases e1 with e1 | e1
  · exact .inl e1.symm
  · exact .inr ⟨g, rfl, by omega⟩
/-- append(row, text) in a region that draws its order. -/
theorem step_put_tx (U : Nat) (hg : o.guard = none) (s x : Operand) (ho : o.op = .call { callee := .builtin .append, args := #[s, x], argTypes := #[29, 29] }) (v : Value) (xs : List Tx) (hs : a.eval s = v)
    (H0 : W0.ownsRow U 9 1 v xs.length (tx xs)) (hbl : Below W0.heap.size W0 W) (hU : U ≤ W0.heap.size) (B : Nat) (hx : a.eval x = .slice (some ⟨B, 0, none⟩) 1 1) (y : Tx) (te : TypeId) (fr : Nat × Nat) (hB : W.heap[B]? = some (.cells #[.string (mk y)] te fr)) (hl : (xs.length + 1) * 16 ≤ 140737488355328)
    (h : ∀ g cap w1, w1.ownsRow U 9 1 (.slice (some ⟨g, 0, none⟩) (xs.length + 1) cap) (xs.length + 1) (tx xs ++ [.string (mk y)]) → W.grownBy w1 v.ownBlock → ((Value.slice (some ⟨g, 0, none⟩) (xs.length + 1) cap).ownBlock = v.ownBlock ∨ ∃ g', (Value.slice (some ⟨g, 0, none⟩) (xs.length + 1) cap).ownBlock = some g' ∧ W.heap.size ≤ g') → K (a.put o.dst (.slice (some ⟨g, 0, none⟩) (xs.length + 1) cap)) w1) :
    if Region.wanted o (yielded ops a.tmps) = true then Oper.wp Try.prog o a W K Q else E := by
  obtain ⟨i0, hi, hzz⟩ := Option.map_eq_some_iff.1 info9
  simp only [Prod.mk.injEq] at hzz
  obtain ⟨hz0, hz1, hz2⟩ := hzz
  have hm1 : xs.length + 1 ≤ maxLen := by simp only [maxLen]; omega
  refine step_append_lies _ hg s x 29 ho U 9 i0 _ 1 16 Try.underlying29 hi hz0 hz1 hz2 rfl (by decide) v xs.length _ hs (own_below H0 hbl) ⟨B, 0, none⟩ 1 1 [.string (mk y)] hx rfl
    (World.news_of_block (cs := #[.string (mk y)]) hB) (by simp [Value.oneCell']) (by decide) hm1 hl (Nat.le_trans hU hbl.size) _ rfl ?_
  intro g cap w1 o1 g1 e1 _
  exact h g cap w1 o1 g1 (slice_own e1)
/-- append(deals, deal) in a region that draws its order. -/
theorem step_put_deal (U : Nat) (hg : o.guard = none) (s x : Operand) (ho : o.op = .call { callee := .builtin .append, args := #[s, x], argTypes := #[71, 71] }) (v : Value) (xs : List DealT) (hs : a.eval s = v)
    (H0 : W0.ownsRow U 98 2 v xs.length (xs.flatMap dealC)) (hbl : Below W0.heap.size W0 W) (hU : U ≤ W0.heap.size) (B : Nat) (hx : a.eval x = .slice (some ⟨B, 0, none⟩) 1 1) (d : DealT) (te : TypeId) (fr : Nat × Nat) (hB : W.heap[B]? = some (.cells #[.int .i64 d.1, .string (mk d.2)] te fr)) (hl : (xs.length + 1) * 24 ≤ 140737488355328)
    (h : ∀ g cap w1, w1.ownsRow U 98 2 (.slice (some ⟨g, 0, none⟩) (xs.length + 1) cap) (xs.length + 1) (xs.flatMap dealC ++ dealC d) → W.grownBy w1 v.ownBlock → K (a.put o.dst (.slice (some ⟨g, 0, none⟩) (xs.length + 1) cap)) w1) :
    if Region.wanted o (yielded ops a.tmps) = true then Oper.wp Try.prog o a W K Q else E := by
  obtain ⟨i0, hi, hzz⟩ := Option.map_eq_some_iff.1 info98d
  simp only [Prod.mk.injEq] at hzz
  obtain ⟨hz0, hz1, hz2⟩ := hzz
  have hm1 : xs.length + 1 ≤ maxLen := by simp only [maxLen]; omega
  refine step_append_lies _ hg s x 71 ho U 98 i0 _ 2 24 Try.underlying71 hi hz0 hz1 hz2 rfl (by decide) v xs.length _ hs (own_below H0 hbl) ⟨B, 0, none⟩ 1 1 (dealC d) hx rfl
    (World.news_of_block (cs := #[.int .i64 d.1, .string (mk d.2)]) hB) (by simp [Value.oneCell', dealC]) (by decide) hm1 hl (Nat.le_trans hU hbl.size) _ rfl ?_
  intro g cap w1 o1 g1 _ _
  exact h g cap w1 o1 g1
end
theorem d1_below (w : World) (a : Obj) : Below w.heap.size w (w.alloc a).drew := below_drewN ((Below.refl _ _).alloc (Nat.le_refl _) _) 1
theorem d1_new (w : World) (a : Obj) : (w.alloc a).drew.heap[w.heap.size]? = some a := heap_alloc_new w a
/-- What an append to a row from U on leaves below U. -/
theorem grown_low {W0 W w1 : World} {U n : Nat} {e : TypeId} {s : Nat} {v : Value} {xs : List Value} (h : W0.ownsRow U e s v n xs) (hbl : Below W0.heap.size W0 W) (g : W.grownBy w1 v.ownBlock) (hU : U ≤ W0.heap.size) : Below U W0 w1 :=
  (hbl.mono hU).grown g (Nat.le_trans hU hbl.size) (fun k hk => (h.lt k hk).1)
section
variable {W : World} {z : Nat} {C : CmdT} {A1 A2 A3 A4 : Option Addr} {q1 q2 q3 q4 : Nat} (g cap : Nat) (x : Tx) (d : DealT)
    (h : W.heap[z]? = some (.cells (cmdC C (.slice A1 C.ign.length q1) (.slice A2 C.defr.length q2) (.slice A3 C.over.length q3) (.slice A4 C.deals.length q4)) 76))
include h
theorem cmd_put1 (hr : RowsR W (z + 1) { C with ign := C.ign ++ [x] } (.slice (some ⟨g, 0, none⟩) (C.ign.length + 1) cap) (.slice A2 C.defr.length q2) (.slice A3 C.over.length q3) (.slice A4 C.deals.length q4)) : CmdR (W.setCell ⟨z, 5, none⟩ (.slice (some ⟨g, 0, none⟩) (C.ign.length + 1) cap)) z { C with ign := C.ign ++ [x] } := by
  have h1 := heap_setCell_at h 5 (.slice (some ⟨g, 0, none⟩) (C.ign.length + 1) cap)
  have e : (C.ign ++ [x]).length = C.ign.length + 1 := by simp
  refine ⟨some ⟨g, 0, none⟩, cap, A2, q2, A3, q3, A4, q4, ?_, ?_⟩
  · simp only [e]; exact h1
  · simp only [e]; exact hr.keep (Keep.setR W 5 _) (Nat.lt_succ_self z)
theorem cmd_put2 (hr : RowsR W (z + 1) { C with defr := C.defr ++ [x] } (.slice A1 C.ign.length q1) (.slice (some ⟨g, 0, none⟩) (C.defr.length + 1) cap) (.slice A3 C.over.length q3) (.slice A4 C.deals.length q4)) : CmdR (W.setCell ⟨z, 6, none⟩ (.slice (some ⟨g, 0, none⟩) (C.defr.length + 1) cap)) z { C with defr := C.defr ++ [x] } := by
  have h1 := heap_setCell_at h 6 (.slice (some ⟨g, 0, none⟩) (C.defr.length + 1) cap)
  have e : (C.defr ++ [x]).length = C.defr.length + 1 := by simp
  refine ⟨A1, q1, some ⟨g, 0, none⟩, cap, A3, q3, A4, q4, ?_, ?_⟩
  · simp only [e]; exact h1
  · simp only [e]; exact hr.keep (Keep.setR W 6 _) (Nat.lt_succ_self z)
theorem cmd_put3 (hr : RowsR W (z + 1) { C with over := C.over ++ [x] } (.slice A1 C.ign.length q1) (.slice A2 C.defr.length q2) (.slice (some ⟨g, 0, none⟩) (C.over.length + 1) cap) (.slice A4 C.deals.length q4)) : CmdR (W.setCell ⟨z, 7, none⟩ (.slice (some ⟨g, 0, none⟩) (C.over.length + 1) cap)) z { C with over := C.over ++ [x] } := by
  have h1 := heap_setCell_at h 7 (.slice (some ⟨g, 0, none⟩) (C.over.length + 1) cap)
  have e : (C.over ++ [x]).length = C.over.length + 1 := by simp
  refine ⟨A1, q1, A2, q2, some ⟨g, 0, none⟩, cap, A4, q4, ?_, ?_⟩
  · simp only [e]; exact h1
  · simp only [e]; exact hr.keep (Keep.setR W 7 _) (Nat.lt_succ_self z)
theorem cmd_put4 (hr : RowsR W (z + 1) { C with deals := C.deals ++ [d] } (.slice A1 C.ign.length q1) (.slice A2 C.defr.length q2) (.slice A3 C.over.length q3) (.slice (some ⟨g, 0, none⟩) (C.deals.length + 1) cap)) : CmdR (W.setCell ⟨z, 8, none⟩ (.slice (some ⟨g, 0, none⟩) (C.deals.length + 1) cap)) z { C with deals := C.deals ++ [d] } := by
  have h1 := heap_setCell_at h 8 (.slice (some ⟨g, 0, none⟩) (C.deals.length + 1) cap)
  have e : (C.deals ++ [d]).length = C.deals.length + 1 := by simp
  refine ⟨A1, q1, A2, q2, A3, q3, some ⟨g, 0, none⟩, cap, ?_, ?_⟩
  · simp only [e]; exact h1
  · simp only [e]; exact hr.keep (Keep.setR W 8 _) (Nat.lt_succ_self z)
end
end Go.Proofs.Ytmjggjccmbiheaa
