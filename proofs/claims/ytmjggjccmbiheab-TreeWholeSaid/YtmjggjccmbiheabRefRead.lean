/- The reference's tree: At, In, List, dir, New, step by step. -/
import Derived.Test.YtmjggjccmbiheabTreeCopy
namespace Go.Proofs.Ytmjggjccmbiheab
open Go Go.RowKit Go.Proofs Go.Sort
attribute [local go_sem] mk_list mk_size mk_data

structure NodeT where
  num : Int
  up : Int
  name : Tx
  kind : Int
  data : Tx
def nodeC (x : NodeT) : List Value := [.int .i64 x.num, .int .i64 x.up, .string (mk x.name), .int .i64 x.kind, .string (mk x.data)]
def nodeA (x : NodeT) : Value := .agg #[.int .i64 x.num, .int .i64 x.up, .string (mk x.name), .int .i64 x.kind, .string (mk x.data)]
def zeroR : NodeT := ⟨0, 0, [], 0, []⟩
def NodesAt (W : World) (A : Option Addr) (L : List NodeT) : Prop :=
  L = [] ∨ ∃ b off, A = some ⟨b, off, none⟩ ∧ b < W.heap.size ∧ ∀ (j : Nat) (h : j < L.length) (i : Nat) (v : Value), (nodeC L[j])[i]? = some v → W.cell? ⟨b, off + j * 5 + i, none⟩ = some v
theorem NodesAt.below {W W' : World} {A : Option Addr} {L : List NodeT} (h : NodesAt W A L) (hb : Below W.heap.size W W') : NodesAt W' A L := by
  rcases h with h | ⟨b, off, e, hlt, hc⟩
  · exact .inl h
  · exact .inr ⟨b, off, e, Nat.lt_of_lt_of_le hlt hb.size, fun j hj i v hv => (hb.cell (p := ⟨b, off + j * 5 + i, none⟩) hlt).trans (hc j hj i v hv)⟩
theorem NodesAt.cells {W : World} {A : Option Addr} {L : List NodeT} (h : NodesAt W A L) {k : Nat} (hk : k < L.length) : ∃ b off, A = some ⟨b, off, none⟩ ∧ b < W.heap.size ∧ W.cell? ⟨b, off + k * 5, none⟩ = some (.int .i64 L[k].num) ∧ W.cell? ⟨b, off + k * 5 + 1, none⟩ = some (.int .i64 L[k].up) ∧ W.cell? ⟨b, off + k * 5 + 2, none⟩ = some (.string (mk L[k].name)) ∧ W.cell? ⟨b, off + k * 5 + 3, none⟩ = some (.int .i64 L[k].kind) ∧ W.cell? ⟨b, off + k * 5 + 4, none⟩ = some (.string (mk L[k].data)) := by
  rcases h with rfl | ⟨b, off, h1, h2, h3⟩
  · simp at hk
  · exact ⟨b, off, h1, h2, h3 k hk 0 _ rfl, h3 k hk 1 _ rfl, h3 k hk 2 _ rfl, h3 k hk 3 _ rfl, h3 k hk 4 _ rfl⟩
theorem find_step {α : Type} {q : α → Bool} {l : List α} {k : Nat} (hk : k < l.length) (h : (l.take k).find? q = none) :
    (q l[k] = false → (l.take (k + 1)).find? q = none) ∧ (q l[k] = true → l.find? q = some l[k]) := by
  constructor
  · intro h2
    rw [List.take_succ_eq_append_getElem hk, List.find?_append, h]
    simp [h2]
  · intro h2
    conv => lhs; rw [← List.take_append_drop k l, List.drop_eq_getElem_cons hk, List.find?_append, h, List.find?_cons, h2]
    rfl
def treeV (A : Option Addr) (n c : Nat) (last : Int) : Value := .agg #[.slice A n c, .int .i64 last]
def atR (L : List NodeT) (n : Int) : NodeT := (L.find? fun x => x.num == n).getD zeroR
def inP (d : Int) (s : Tx) (x : NodeT) : Bool := x.up == d && x.name == s && x.num != 1
def inR (L : List NodeT) (d : Int) (s : Tx) : Int := match L.find? (inP d s) with
  | some x => x.num
  | none => 0

set_option maxRecDepth 100000 in
set_option maxHeartbeats 2000000 in
theorem ref_At (A : Option Addr) (c : Nat) (L : List NodeT) (last n : Int) (W : World) (h : NodesAt W A L) (hl : L.length ≤ 1000000000) :
    Calls Try.prog 36 #[.agg #[.slice A L.length c, .int .i64 last], .int .i64 n] W fun e w' => e = .returned (nodeA (atR L n)) ∧ Below W.heap.size W w' := by
  obtain ⟨m, hm⟩ : ∃ m, L.length = m := ⟨_, rfl⟩
  obtain ⟨r, hr⟩ : ∃ r, atR L n = r := ⟨_, rfl⟩
  have HM := Lib.hid hm
  have HF := Lib.hid hr
  have HN := Lib.hid h
  rw [hr]
  rw [hm] at hl ⊢
  have e0 : (⟨#[]⟩ : ByteArray) = mk [] := rfl
  obtain ⟨W0, hW0⟩ : ∃ W0, (W.alloc (.cells #[.slice A m c, .int .i64 last] 29)).alloc (.cells #[.int .i64 0, .int .i64 0, .string (mk []), .int .i64 0, .string (mk [])] 56) = W0 := ⟨_, rfl⟩
  have HW : Hid (Below W.heap.size W W0 ∧ W0.heap[W.heap.size]? = some (.cells #[.slice A m c, .int .i64 last] 29) ∧ W0.heap[W.heap.size + 1]? = some (.cells #[.int .i64 0, .int .i64 0, .string (mk []), .int .i64 0, .string (mk [])] 56)) := Lib.hid (by
    rw [← hW0]
    refine ⟨((Below.refl _ _).alloc (Nat.le_refl _) _).alloc (by simp) _, heap_stay (heap_alloc_new _ _) _, ?_⟩
    have := heap_alloc_new (W.alloc (.cells #[.slice A m c, .int .i64 last] 29)) (.cells #[.int .i64 0, .int .i64 0, .string (mk []), .int .i64 0, .string (mk [])] 56)
    rw [World.size_alloc] at this
    exact this)
  have x0 := blk_cell HW.out.2.1 0
  have y0 := blk_cell HW.out.2.2 0
  have y1 := blk_cell HW.out.2.2 1
  have y2 := blk_cell HW.out.2.2 2
  have y3 := blk_cell HW.out.2.2 3
  have y4 := blk_cell HW.out.2.2 4
  have z0 := blk_frozen HW.out.2.2 0
  have z1 := blk_frozen HW.out.2.2 1
  have z2 := blk_frozen HW.out.2.2 2
  have z3 := blk_frozen HW.out.2.2 3
  have z4 := blk_frozen HW.out.2.2 4
  have hlt := blk_lt HW.out.2.2
  simp only [List.getElem?_toArray, List.getElem?_cons_zero, List.getElem?_cons_succ] at x0 y0 y1 y2 y3 y4
  clear hm hr h
  go_enter Try.func36, Try.ntmps36
  go_wp2_with fail
  try rw [hW0]
  clear hW0
  go_loopg [5] m (fun g iv wx => ∃ k : Nat, k + g = m ∧ iv = .int .i64 k ∧ Hid ((L.take k).find? (fun x => x.num == n) = none) ∧ wx = W0)
  case atStart => exact ⟨0, by omega, rfl, Lib.hid rfl, rfl⟩
  case round =>
    obtain ⟨k, hk, rfl, hno, rfl⟩ := hrel
    cases gk with
    | zero =>
      obtain rfl : k = m := by omega
      have HR : Hid (r = zeroR) := Lib.hid (by
        rw [← HF.out]
        have := hno.out
        rw [List.take_of_length_le (by have := HM.out; omega)] at this
        unfold atR; rw [this]; rfl)
      obtain rfl := HR.out
      go_wp2_with fail
      refine bodyPost_ret (v := nodeA zeroR) ?_ rfl ⟨rfl, ?_⟩
      · rw [results_cell1 rfl]
        go_simp
        rfl
      · exact ((((HW.out.1.setCell (p := ⟨_, 0, none⟩) (Nat.le_succ _) _).setCell (p := ⟨_, 1, none⟩) (Nat.le_succ _) _).setCell (p := ⟨_, 2, none⟩) (Nat.le_succ _) _).setCell (p := ⟨_, 3, none⟩) (Nat.le_succ _) _).setCell (p := ⟨_, 4, none⟩) (Nat.le_succ _) _
    | succ g =>
      have hkl : k < L.length := by have := HM.out; omega
      obtain ⟨b, off, rfl, hb, f0, f1, f2, f3, f4⟩ := (HN.out.below HW.out.1).cells hkl
      have HST := Lib.hid (find_step hkl hno.out)
      obtain ⟨x, hx⟩ : ∃ x, L[k] = x := ⟨_, rfl⟩
      rw [hx] at f0 f1 f2 f3 f4 HST
      obtain ⟨xn, xu, xs, xk, xd⟩ := x
      simp only at f0 f1 f2 f3 f4 HST
      have hkI : (k : Int) < (m : Int) := by omega
      have hk0 : (0 : Int) ≤ (k : Int) := by omega
      clear hx hb
      cases hq : (xn == n)
      · have HQ := Lib.hid (HST.out.1 hq)
        go_wp2_with fail
        go_roundg g
        case measure => omega
        case rel => exact ⟨k + 1, by omega, by go_num, HQ, rfl⟩
      · have HR : Hid (r = ⟨xn, xu, xs, xk, xd⟩) := Lib.hid (by rw [← HF.out]; unfold atR; rw [HST.out.2 hq]; rfl)
        obtain rfl := HR.out
        go_wp2_with fail
        refine bodyPost_ret (v := nodeA ⟨xn, xu, xs, xk, xd⟩) ?_ rfl ⟨rfl, ?_⟩
        · rw [results_cell1 rfl]
          go_simp
          rfl
        · exact ((((HW.out.1.setCell (p := ⟨_, 0, none⟩) (Nat.le_succ _) _).setCell (p := ⟨_, 1, none⟩) (Nat.le_succ _) _).setCell (p := ⟨_, 2, none⟩) (Nat.le_succ _) _).setCell (p := ⟨_, 3, none⟩) (Nat.le_succ _) _).setCell (p := ⟨_, 4, none⟩) (Nat.le_succ _) _
end Go.Proofs.Ytmjggjccmbiheab
