/- What turns in a tree: a node put, a node struck; enter, step by step. -/
import Derived.Test.YtmjggjccmbiheabTreeRead
import Derived.Deep.RegionHeld3
namespace Go.Proofs.Ytmjggjccmbiheab
open Go Go.RowKit Go.Proofs Go.Sort
attribute [local go_sem] mk_list mk_size mk_data field0 field1 field2 field3

def setM (S : TreeSt) (k : Int) (p : PNode) : TreeSt := { S with M := upd S.M k (some p), cnt := if (S.M k).isSome then S.cnt else S.cnt + 1 }
def delM (S : TreeSt) (k : Int) : TreeSt := { S with M := upd S.M k none, cnt := if (S.M k).isSome then S.cnt - 1 else S.cnt }
def enterS (S : TreeSt) (d : Int) (l : List En) : TreeSt := setM S d { pn (S.M d) with ents := l }

/-- Entries lie neither in the tree's own block nor in its map. -/
theorem EntsAt.turn {W W' : World} {t b : Nat} {S : TreeSt} {A : Option Addr} {xs : List En} (h : EntsAt W A xs) (ht : TreeAt W t b S) (k : Keep t b W W') : EntsAt W' A xs := by
  rcases h with h | ⟨g, off, e, hlt, hc⟩
  · exact .inl h
  · cases xs with
    | nil => exact .inl rfl
    | cons x xs =>
      obtain ⟨f, h1, h2, _⟩ := ht
      have c0 := (hc 0 (by simp)).1
      have hb : g ≠ b := by rintro rfl; exact h2.noCell _ _ c0
      have htn : g ≠ t := by
        rintro rfl
        rw [blk_cell h1] at c0
        match off, c0 with
        | 0, c0 => simp at c0
        | 1, c0 => simp at c0
        | off + 2, c0 => simp at c0
      exact .inr ⟨g, off, e, Nat.lt_of_lt_of_le hlt k.size, fun j hj => ⟨(k.cell hlt htn hb).trans (hc j hj).1, (k.cell hlt htn hb).trans (hc j hj).2⟩⟩
theorem map_upd (f : Int → Option RawN) (g : Int → Option PNode) (h : ∀ k, (f k).map (·.p) = g k) (k : Int) (r : Option RawN) : ∀ n, (upd f k r n).map (·.p) = upd g k (r.map (·.p)) n := by
  intro n
  by_cases e : n = k
  · subst e; rw [upd_same, upd_same]
  · rw [upd_other _ _ e, upd_other _ _ e]; exact h n
theorem TreeAt.some_iff {f : Int → Option RawN} {S : TreeSt} (h : ∀ k, (f k).map (·.p) = S.M k) (k : Int) : (f k).isSome = (S.M k).isSome := by
  rw [← h k]; cases f k <;> rfl
/-- nodes[k] = p. -/
theorem TreeAt.put {W : World} {t b : Nat} {S : TreeSt} (h : TreeAt W t b S) {k : Int} (hk : wfI k) (hc : S.cnt ≤ 1000000) (p : PNode) (A : Option Addr) (c : Nat) (he : EntsAt W A p.ents) :
    ∃ w', (Instr.mapUpdate 52 (.map (some b)) (.int .i64 k) (.agg #[.int .i64 p.kind, .int .i64 p.up, .string (mk p.data), .slice A p.ents.length c])).run Try.prog W = .ok () w' ∧ TreeAt w' t b (setM S k p) ∧ Keep t b W w' := by
  have h0 := h
  obtain ⟨f, h1, h2, h3, h4⟩ := h
  have hne := h0.ne
  obtain ⟨w', hrun, r1, r2⟩ := h2.put hk hc ⟨p, A, c⟩
  have hK : Keep t b W w' := Keep.grownB r2
  refine ⟨w', hrun, ⟨upd f k (some ⟨p, A, c⟩), ?_, ?_, map_upd f S.M h3 k _, ?_⟩, hK⟩
  · rw [r2.block t (blk_lt h1) (by simpa using hne)]
    exact h1
  · rw [TreeAt.some_iff h3 k] at r1
    exact r1
  · intro n r hr
    by_cases e : n = k
    · subst e
      rw [upd_same] at hr
      cases hr
      exact he.turn h0 hK
    · rw [upd_other _ _ e] at hr
      exact (h4 n r hr).turn h0 hK
/-- delete(nodes, k). -/
theorem TreeAt.drop {W : World} {t b : Nat} {S : TreeSt} (h : TreeAt W t b S) {k : Int} (hk : wfI k) (ty : TypeId) :
    ∃ w', (Builtin.delete_ #[52, 3] ty #[.map (some b), .int .i64 k]).run Try.prog W = .ok (.tuple #[]) w' ∧ TreeAt w' t b (delM S k) ∧ Keep t b W w' := by
  have h0 := h
  obtain ⟨f, h1, h2, h3, h4⟩ := h
  have hne := h0.ne
  obtain ⟨w', hrun, r1, r2⟩ := h2.drop hk ty
  have hK : Keep t b W w' := Keep.grownB r2
  refine ⟨w', hrun, ⟨upd f k none, ?_, ?_, map_upd f S.M h3 k _, ?_⟩, hK⟩
  · rw [r2.block t (blk_lt h1) (by simpa using hne)]
    exact h1
  · rw [TreeAt.some_iff h3 k] at r1
    exact r1
  · intro n r hr
    by_cases e : n = k
    · subst e
      rw [upd_same] at hr
      cases hr
    · rw [upd_other _ _ e] at hr
      exact (h4 n r hr).turn h0 hK

/-- nodes[k] = x, x a variable of the call's own: what the region that draws its order needs. -/
theorem TreeAt.putLocal {W : World} {t b : Nat} {S : TreeSt} (h : TreeAt W t b S) {k : Int} (hk : wfI k) (hc : S.cnt ≤ 1000000) (kd up : Int) (da : Tx) (l : List En) (A : Option Addr) (c : Nat) (he : EntsAt W A l) :
    ∃ w', (Instr.mapUpdate 52 (.map (some b)) (.int .i64 k) (.agg #[.int .i64 kd, .int .i64 up, .string (mk da), .slice A l.length c])).run Try.prog (W.alloc (.cells #[.int .i64 kd, .int .i64 up, .string (mk da), .slice A l.length c] 51)).drew = .ok () w' ∧
      Hid (TreeAt w' t b (setM S k ⟨kd, up, da, l⟩) ∧ Keep t b W w') ∧ w'.cell? ⟨t, 0, none⟩ = some (.map (some b)) ∧ w'.cell? ⟨W.heap.size, 0, none⟩ = some (.int .i64 kd) ∧ w'.cell? ⟨W.heap.size, 1, none⟩ = some (.int .i64 up) ∧ w'.cell? ⟨W.heap.size, 2, none⟩ = some (.string (mk da)) ∧ w'.cell? ⟨W.heap.size, 3, none⟩ = some (.slice A l.length c) := by
  have hb1 : Below W.heap.size W (W.alloc (.cells #[.int .i64 kd, .int .i64 up, .string (mk da), .slice A l.length c] 51)).drew := below_drewN ((Below.refl _ _).alloc (Nat.le_refl _) _) 1
  obtain ⟨w', hrun, hT, hK⟩ := (h.below hb1).put hk hc ⟨kd, up, da, l⟩ A c (he.below hb1)
  have hz := h.lt
  have hcell : ∀ i v, (#[.int .i64 kd, .int .i64 up, .string (mk da), .slice A l.length c] : Array Value)[i]? = some v → w'.cell? ⟨W.heap.size, i, none⟩ = some v := fun i v hv => by
    rw [hK.cell (by show W.heap.size < (W.alloc _).heap.size; simp) (by omega) (by omega)]
    show (W.alloc _).cell? _ = _
    rw [cellA_new]
    exact hv
  exact ⟨w', hrun, Lib.hid ⟨hT, (Keep.below hb1).trans hK⟩, hT.cell.1, hcell 0 _ rfl, hcell 1 _ rfl, hcell 2 _ rfl, hcell 3 _ rfl⟩

set_option maxRecDepth 100000 in
set_option maxHeartbeats 1000000 in
theorem tree_enter (t b : Nat) (S : TreeSt) (d : Int) (A : Option Addr) (c : Nat) (l : List En) (W : World) (h : TreeAt W t b S) (hk : wfI d) (hc : S.cnt ≤ 1000000) (he : EntsAt W A l) :
    Calls Try.prog 32 #[.pointer (some ⟨t, 0, none⟩), .int .i64 d, .slice A l.length c] W fun e w' => e = .returned (.tuple #[]) ∧ TreeAt w' t b (enterS S d l) ∧ Keep t b W w' := by
  obtain ⟨A0, c0, hln, _⟩ := h.node hk
  obtain ⟨t0, _, hlt⟩ := h.cell
  have hln := hln W (Below.refl _ _)
  obtain ⟨p, hp⟩ : ∃ p, pn (S.M d) = p := ⟨_, rfl⟩
  have HP : Hid (enterS S d l = setM S d { p with ents := l }) := Lib.hid (by unfold enterS; rw [hp])
  rw [hp] at hln
  rw [HP.out]
  obtain ⟨kd, up, da, es⟩ := p
  simp only at hln ⊢
  obtain ⟨w', hrun, HR, s0, s1, s2, s3, s4⟩ := h.putLocal hk hc kd up da l A c he
  clear h he hp hk hc
  go_enter Try.func32, Try.ntmps32
  go_wp2_with fail
  go_region_held3 (fun w' => w'.cell? ⟨t, 0, none⟩ = some (.map (some b)) ∧ w'.cell? ⟨W.heap.size, 0, none⟩ = some (.int .i64 kd) ∧ w'.cell? ⟨W.heap.size, 1, none⟩ = some (.int .i64 up) ∧ w'.cell? ⟨W.heap.size, 2, none⟩ = some (.string (mk da)) ∧ w'.cell? ⟨W.heap.size, 3, none⟩ = some (.slice A l.length c)) (first | (with_reducible exact ⟨by assumption, by assumption, by assumption, by assumption, by assumption⟩) | go_keep) (fail)
  go_end0
  exact ⟨rfl, HR.out.1, HR.out.2⟩
end Go.Proofs.Ytmjggjccmbiheab
