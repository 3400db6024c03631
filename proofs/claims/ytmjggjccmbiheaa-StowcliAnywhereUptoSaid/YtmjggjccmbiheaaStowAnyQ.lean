/- What the walk of the law's call StowcliAnywhere leans on. -/
import Derived.Test.YtmjggjccmbiheaaStowSame
import Derived.Test.YtmjggjccmbiheaaStowAnyP
import Derived.Test.YtmjggjccmbiheaaStowAnyT
namespace Go.Proofs.Ytmjggjccmbiheaa
open Go Go.RowKit Go.Proofs Go.Sort
attribute [local go_sem] mk_list mk_size mk_data

/-- The five flags. -/
def isFlag (how : Tx) : Bool := how == simW || (how == adoptW || (how == dotsW || (how == nofoldW || how == quietW)))
theorem flag_of {how : Tx} (h : isFlag how = true) : ∃ x, flagW how x := by
  unfold isFlag at h
  simp only [Bool.or_eq_true, beq_iff_eq] at h
  rcases h with rfl | rfl | rfl | rfl | rfl
  · exact ⟨_, flag_sim⟩
  · exact ⟨_, flag_adopt⟩
  · exact ⟨_, flag_dots⟩
  · exact ⟨_, flag_nofold⟩
  · exact ⟨_, flag_quiet⟩

theorem stow_bounds {ws : List Tx} {c : CmdT} (h : stowS ws = .inl c) : c.deals.length ≤ wt ws ∧ c.ign.length ≤ wt ws ∧ c.defr.length ≤ wt ws ∧ c.over.length ≤ wt ws := by
  unfold stowS at h
  cases hp : parseS stowL ws with
  | inr k => rw [hp] at h; cases h
  | inl l =>
    rw [hp] at h
    simp only at h
    split at h
    · cases h
    · cases h
      have hi := stow_items hp
      have hv := fun t => valuesS_len t l
      exact ⟨Nat.le_trans (foldD_len l) hi.1, Nat.le_trans (hv _) hi.2.1, Nat.le_trans (hv _) hi.2.1, Nat.le_trans (hv _) hi.2.1⟩
theorem heap_push (w : World) (o : Obj) : (w.alloc o).heap = w.heap.push o := rfl
theorem heap_drew (w : World) : w.drew.heap = w.heap := rfl
theorem strs_take {W : World} {A : Option Addr} {xs : List Tx} (h : StrsAt W A xs) (k : Nat) : StrsAt W A (xs.take k) := by
  rcases h with h | ⟨b, off, h1, h2, h3⟩
  · exact .inl (by simp [h])
  · exact .inr ⟨b, off, h1, h2, fun j hj => by rw [List.getElem_take]; exact h3 j (by rw [List.length_take] at hj; omega)⟩
theorem strs_drop {W : World} {A : Option Addr} {xs : List Tx} (h : StrsAt W A xs) (k : Nat) {c : Nat} (hc : xs.length ≤ c) : StrsAt W (if c = k then A else Option.map (fun x => x.add k) A) (xs.drop k) := by
  split
  · exact .inl (List.drop_eq_nil_of_le (by omega))
  · rcases h with h | ⟨b, off, rfl, h2, h3⟩
    · exact .inl (by simp [h])
    · refine .inr ⟨b, off + k, ?_, h2, fun j hj => ?_⟩
      · simp only [Option.map_some, Option.some.injEq]
        unfold Addr.add; split <;> simp_all
      · rw [List.getElem_drop, ← h3 (k + j) (by rw [List.length_drop] at hj; omega)]
        congr 2; omega
theorem own0_at {W : World} {base g : Nat} (h : W.heap[g]? = some (.cells #[] 9)) (hb : base ≤ g) : W.ownsRow base 9 1 (.slice (some ⟨g, 0, none⟩) 0 0) 0 (([] : List Tx).map fun x => .string (mk x)) :=
  ⟨by simp, .inr ⟨g, 0, #[], rfl, hb, h, Nat.le_refl _, by decide, rfl, rfl⟩⟩
theorem Safe.new2 {base n : Nat} {xs : List Value} {W : World} {v : Value} (o o' : Obj) (h : W.ownsRow base 9 1 v n xs) : Safe (W.heap.size + 1) o ((W.alloc o').alloc o) v := by
  have := Safe.new o (h.alloc o')
  simpa using this
theorem z_cells {W : World} {z : Nat} {cs : Array Value} {t : TypeId} (h : W.heap[z]? = some (.cells cs t)) (i : Nat) : W.cell? ⟨z, i, none⟩ = cs[i]? := by
  unfold World.cell?
  rw [h]
  simp
theorem z_frozen {W : World} {z : Nat} {cs : Array Value} {t : TypeId} (h : W.heap[z]? = some (.cells cs t)) (i : Nat) : W.frozen? ⟨z, i, none⟩ = false := by
  unfold World.frozen?
  rw [h]
  simp
theorem below_set11 {B z : Nat} {w W : World} (h : Below B w W) (hz : B ≤ z) (x0 x1 x2 x3 x4 x5 x6 x7 x8 x9 x10 : Value) : Below B w (((((((((((W.setCell ⟨z, 0, none⟩ x0).setCell ⟨z, 1, none⟩ x1).setCell ⟨z, 2, none⟩ x2).setCell ⟨z, 3, none⟩ x3).setCell ⟨z, 4, none⟩ x4).setCell ⟨z, 5, none⟩ x5).setCell ⟨z, 6, none⟩ x6).setCell ⟨z, 7, none⟩ x7).setCell ⟨z, 8, none⟩ x8).setCell ⟨z, 9, none⟩ x9).setCell ⟨z, 10, none⟩ x10) :=
  (((((((((((h.setCell (p := ⟨z, 0, none⟩) hz _).setCell (p := ⟨z, 1, none⟩) hz _).setCell (p := ⟨z, 2, none⟩) hz _).setCell (p := ⟨z, 3, none⟩) hz _).setCell (p := ⟨z, 4, none⟩) hz _).setCell (p := ⟨z, 5, none⟩) hz _).setCell (p := ⟨z, 6, none⟩) hz _).setCell (p := ⟨z, 7, none⟩) hz _).setCell (p := ⟨z, 8, none⟩) hz _).setCell (p := ⟨z, 9, none⟩) hz _).setCell (p := ⟨z, 10, none⟩) hz _)
theorem Safe.obj {b : Nat} {o : Obj} {W : World} {v : Value} (h : Safe b o W v) : W.heap[b]? = some o := h.1
theorem below_d0 (w : World) : Below w.heap.size w w.drew := below_drewN (Below.refl _ _) 1
theorem below_d1 (w : World) (a : Obj) : Below w.heap.size w (w.alloc a).drew := below_drewN ((Below.refl _ _).alloc (Nat.le_refl _) _) 1
theorem below_d2 (w : World) (a b : Obj) : Below w.heap.size w ((w.alloc a).alloc b).drew := below_drewN (((Below.refl _ _).alloc (Nat.le_refl _) _).alloc (by simp) _) 1
theorem below_d3 (w : World) (a b c : Obj) : Below w.heap.size w (((w.alloc a).alloc b).alloc c).drew := below_drewN ((((Below.refl _ _).alloc (Nat.le_refl _) _).alloc (by simp) _).alloc (by simp; omega) _) 1
theorem below_on {w W : World} (h : Below w.heap.size w W) (o : Obj) : Below w.heap.size w (W.alloc o) := h.alloc h.size o
theorem cell_lt {w : World} {z i : Nat} {v : Value} (h : w.cell? ⟨z, i, none⟩ = some v) : z < w.heap.size := by
  unfold World.cell? at h
  rcases Nat.lt_or_ge z w.heap.size with h1 | h1
  · exact h1
  · rw [Array.getElem?_eq_none h1] at h; simp at h
theorem keep_cells {W V : World} (hb : Below W.heap.size W V) : ∀ b o, b < W.heap.size → V.cell? ⟨b, o, none⟩ = W.cell? ⟨b, o, none⟩ := fun b o h => hb.cell (p := ⟨b, o, none⟩) h
theorem below_here {w W w9 : World} (h : Below w.heap.size w W) (hb9 : Below W.heap.size W w9) : w.heap.size ≤ W.heap.size ∧ Below w.heap.size w w9 := ⟨h.size, below_then h h.size hb9⟩
theorem hp10 (w : World) (a : Obj) : (w.alloc a).drew.heap[w.heap.size]? = some a := heap_alloc_new w a
theorem hp20 (w : World) (a b : Obj) : ((w.alloc a).alloc b).drew.heap[w.heap.size]? = some a := heap_keep (heap_alloc_new w a) b
theorem hp21 (w : World) (a b : Obj) : ((w.alloc a).alloc b).drew.heap[w.heap.size + 1]? = some b := by
  have h := heap_alloc_new (w.alloc a) b
  rw [World.size_alloc] at h
  exact h
theorem hp30 (w : World) (a b c : Obj) : (((w.alloc a).alloc b).alloc c).drew.heap[w.heap.size]? = some a := heap_keep (hp20 w a b) c
theorem hp31 (w : World) (a b c : Obj) : (((w.alloc a).alloc b).alloc c).drew.heap[w.heap.size + 1]? = some b := heap_keep (hp21 w a b) c
theorem hp32 (w : World) (a b c : Obj) : (((w.alloc a).alloc b).alloc c).drew.heap[w.heap.size + 1 + 1]? = some c := by
  have h := heap_alloc_new ((w.alloc a).alloc b) c
  rw [World.size_alloc, World.size_alloc] at h
  exact h
theorem cut_in {p q : Prop} (h : p) (k : p → q) : q := k h
theorem z_cells' {W : World} {z : Nat} (h : W.heap[z]? = some (.cells #[.string ⟨#[]⟩, .string ⟨#[]⟩, .bool false, .bool false, .bool false, .slice none 0 0, .slice none 0 0, .slice none 0 0, .slice none 0 0, .bool false, .bool false] 73)) : W.cell? ⟨z, 0, none⟩ = some (.string ⟨#[]⟩) ∧ W.cell? ⟨z, 1, none⟩ = some (.string ⟨#[]⟩) ∧ W.cell? ⟨z, 2, none⟩ = some (.bool false) ∧ W.cell? ⟨z, 3, none⟩ = some (.bool false) ∧ W.cell? ⟨z, 4, none⟩ = some (.bool false) ∧ W.cell? ⟨z, 5, none⟩ = some (.slice none 0 0) ∧ W.cell? ⟨z, 6, none⟩ = some (.slice none 0 0) ∧ W.cell? ⟨z, 7, none⟩ = some (.slice none 0 0) ∧ W.cell? ⟨z, 8, none⟩ = some (.slice none 0 0) ∧ W.cell? ⟨z, 9, none⟩ = some (.bool false) ∧ W.cell? ⟨z, 10, none⟩ = some (.bool false) := by
  simp only [z_cells h]
  simp
theorem z_frozen' {W : World} {z : Nat} (h : W.heap[z]? = some (.cells #[.string ⟨#[]⟩, .string ⟨#[]⟩, .bool false, .bool false, .bool false, .slice none 0 0, .slice none 0 0, .slice none 0 0, .slice none 0 0, .bool false, .bool false] 73)) : W.frozen? ⟨z, 0, none⟩ = false ∧ W.frozen? ⟨z, 1, none⟩ = false ∧ W.frozen? ⟨z, 2, none⟩ = false ∧ W.frozen? ⟨z, 3, none⟩ = false ∧ W.frozen? ⟨z, 4, none⟩ = false ∧ W.frozen? ⟨z, 5, none⟩ = false ∧ W.frozen? ⟨z, 6, none⟩ = false ∧ W.frozen? ⟨z, 7, none⟩ = false ∧ W.frozen? ⟨z, 8, none⟩ = false ∧ W.frozen? ⟨z, 9, none⟩ = false ∧ W.frozen? ⟨z, 10, none⟩ = false :=
  ⟨z_frozen h 0, z_frozen h 1, z_frozen h 2, z_frozen h 3, z_frozen h 4, z_frozen h 5, z_frozen h 6, z_frozen h 7, z_frozen h 8, z_frozen h 9, z_frozen h 10⟩
theorem head_dash (t : Tx) (hpos : 0 < (mk t).size) (b : Int) (hb : (((mk t)[0]'hpos).toNat : Int) = b) : (t.head? == some 45) = (b == 45) := by
  cases t with
  | nil => simp [mk_size] at hpos
  | cons c l =>
    have hb2 : ((c.toNat : Nat) : Int) = b := hb
    rw [← hb2, show (45 : Int) = ((45 : Nat) : Int) from rfl, byte_eq c 45 (by omega)]
    rfl
/-- What stow is to do, as it lies in a block. -/
def CmdMem (W : World) (z B : Nat) (C : CmdT) : Prop := ∃ F1 q1 F2 q2 F3 q3 F qc, (W.cell? ⟨z, 0, none⟩ = some (.string (mk C.dir)) ∧ W.cell? ⟨z, 1, none⟩ = some (.string (mk C.target)) ∧ W.cell? ⟨z, 2, none⟩ = some (.bool C.fold) ∧ W.cell? ⟨z, 3, none⟩ = some (.bool C.dots) ∧ W.cell? ⟨z, 4, none⟩ = some (.bool C.adopt) ∧ W.cell? ⟨z, 5, none⟩ = some (.slice F1 C.ign.length q1) ∧ W.cell? ⟨z, 6, none⟩ = some (.slice F2 C.defr.length q2) ∧ W.cell? ⟨z, 7, none⟩ = some (.slice F3 C.over.length q3) ∧ W.cell? ⟨z, 8, none⟩ = some (.slice F C.deals.length qc) ∧ W.cell? ⟨z, 9, none⟩ = some (.bool C.sim) ∧ W.cell? ⟨z, 10, none⟩ = some (.bool C.quiet)) ∧ AboveAt W B F1 C.ign ∧ AboveAt W B F2 C.defr ∧ AboveAt W B F3 C.over ∧ DealsAt W B F C.deals
theorem cmd_new {W : World} {U B : Nat} {C : CmdT} {F1 F2 F3 F : Option Addr} {q1 q2 q3 qc : Nat} (y1 : AboveAt W U F1 C.ign) (y2 : AboveAt W U F2 C.defr) (y3 : AboveAt W U F3 C.over) (y4 : DealsAt W U F C.deals) (hB : B ≤ U) :
    CmdMem (W.alloc (.cells #[.string (mk C.dir), .string (mk C.target), .bool C.fold, .bool C.dots, .bool C.adopt, .slice F1 C.ign.length q1, .slice F2 C.defr.length q2, .slice F3 C.over.length q3, .slice F C.deals.length qc, .bool C.sim, .bool C.quiet] 73)) W.heap.size B C := by
  have hal : Below W.heap.size W (W.alloc (.cells #[.string (mk C.dir), .string (mk C.target), .bool C.fold, .bool C.dots, .bool C.adopt, .slice F1 C.ign.length q1, .slice F2 C.defr.length q2, .slice F3 C.over.length q3, .slice F C.deals.length qc, .bool C.sim, .bool C.quiet] 73)) := (Below.refl _ _).alloc (Nat.le_refl _) _
  exact ⟨F1, q1, F2, q2, F3, q3, F, qc, (by simp [World.cell?_alloc_new]), (y1.mono hB).below hal, (y2.mono hB).below hal, (y3.mono hB).below hal, (y4.mono hB).below hal⟩
theorem keep_set (W : World) (z o : Nat) (u : Value) {W0 : World} (h : Keep z none W0 W) : Keep z none W0 (W.setCell ⟨z, o, none⟩ u) := h.trans (Keep.setR W o u) (.inl rfl)
set_option maxHeartbeats 1000000 in
theorem cmd_set {W : World} {z U B : Nat} {C : CmdT} {F1 F2 F3 F : Option Addr} {q1 q2 q3 qc : Nat} (hz : W.heap[z]? = some (.cells #[.string ⟨#[]⟩, .string ⟨#[]⟩, .bool false, .bool false, .bool false, .slice none 0 0, .slice none 0 0, .slice none 0 0, .slice none 0 0, .bool false, .bool false] 73)) (hzU : z < U) (hB : B ≤ U) (y1 : AboveAt W U F1 C.ign) (y2 : AboveAt W U F2 C.defr) (y3 : AboveAt W U F3 C.over) (y4 : DealsAt W U F C.deals) :
    CmdMem (((((((((((W.setCell ⟨z, 0, none⟩ (.string (mk C.dir))).setCell ⟨z, 1, none⟩ (.string (mk C.target))).setCell ⟨z, 2, none⟩ (.bool C.fold)).setCell ⟨z, 3, none⟩ (.bool C.dots)).setCell ⟨z, 4, none⟩ (.bool C.adopt)).setCell ⟨z, 5, none⟩ (.slice F1 C.ign.length q1)).setCell ⟨z, 6, none⟩ (.slice F2 C.defr.length q2)).setCell ⟨z, 7, none⟩ (.slice F3 C.over.length q3)).setCell ⟨z, 8, none⟩ (.slice F C.deals.length qc)).setCell ⟨z, 9, none⟩ (.bool C.sim)).setCell ⟨z, 10, none⟩ (.bool C.quiet)) z B C := by
  obtain ⟨g0, g1, g2, g3, g4, g5, g6, g7, g8, g9, g10⟩ := z_cells' hz
  have hk : Keep z none W (((((((((((W.setCell ⟨z, 0, none⟩ (.string (mk C.dir))).setCell ⟨z, 1, none⟩ (.string (mk C.target))).setCell ⟨z, 2, none⟩ (.bool C.fold)).setCell ⟨z, 3, none⟩ (.bool C.dots)).setCell ⟨z, 4, none⟩ (.bool C.adopt)).setCell ⟨z, 5, none⟩ (.slice F1 C.ign.length q1)).setCell ⟨z, 6, none⟩ (.slice F2 C.defr.length q2)).setCell ⟨z, 7, none⟩ (.slice F3 C.over.length q3)).setCell ⟨z, 8, none⟩ (.slice F C.deals.length qc)).setCell ⟨z, 9, none⟩ (.bool C.sim)).setCell ⟨z, 10, none⟩ (.bool C.quiet)) := by
    iterate 11 refine keep_set _ _ _ _ ?_
    exact Keep.refl z none W
  refine ⟨F1, q1, F2, q2, F3, q3, F, qc, ?_, (y1.keep hzU hk).mono hB, (y2.keep hzU hk).mono hB, (y3.keep hzU hk).mono hB, (y4.keep hzU hk).mono hB⟩
  clear hk y1 y2 y3 y4
  refine ⟨?_, ?_, ?_, ?_, ?_, ?_, ?_, ?_, ?_, ?_, ?_⟩ <;> go_simp
end Go.Proofs.Ytmjggjccmbiheaa
