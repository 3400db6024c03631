/- args.reader's operand and put, step by step. -/
import Derived.Test.YtmjggjccmbiheaaArgsFind
namespace Go.Proofs.Ytmjggjccmbiheaa
open Go Go.RowKit Go.Proofs Go.Sort
attribute [local go_sem] mk_list mk_size mk_data

/-- Block R and this row may have been written; the row at the end is the one at the beginning, or a new one. -/
def Grows (R : Nat) (row : Option Nat) (W W' : World) (row' : Option Nat) : Prop := Keep R row W W' ∧ (row' = row ∨ ∃ g, row' = some g ∧ W.heap.size ≤ g)
theorem Grows.trans {R : Nat} {row row1 row2 : Option Nat} {a b c : World} (h : Grows R row a b row1) (k : Grows R row1 b c row2) : Grows R row a c row2 := by
  refine ⟨h.1.trans k.1 h.2, ?_⟩
  rcases k.2 with rfl | ⟨g, rfl, hg⟩
  · exact h.2
  · exact .inr ⟨g, rfl, Nat.le_trans h.1.size hg⟩
theorem Grows.refl (R : Nat) (row : Option Nat) (W : World) : Grows R row W W row := ⟨Keep.refl _ _ _, .inl rfl⟩
theorem Grows.below {R : Nat} {row : Option Nat} {W W' : World} (h : Below W.heap.size W W') : Grows R row W W' row := ⟨Keep.below h, .inl rfl⟩
theorem Grows.setR {R : Nat} {row : Option Nat} (W : World) (o : Nat) (u : Value) : Grows R row W (W.setCell ⟨R, o, none⟩ u) row := ⟨Keep.setR W o u, .inl rfl⟩

/-- One item more. -/
def MoreI (base R : Nat) (sv wv : Value) (k : Nat) (v : Value) (items : List ItemT) (W W' : World) : Prop := ∃ v', RSt W' base R sv wv k v' items ∧ Grows R v.ownBlock W W' v'.ownBlock

section
variable {P : Program}
theorem wpList_of_wp {Q : Exit → Act → World → Prop} {ops : Array Oper} {rest : List Oper} {o : Oper} {a : Act} {w : World} (hg : o.guard = none) (h : ∀ K : Act → World → Prop, (∀ a' w', wpList P ops Q rest a' w' → K a' w') → o.wp P a w K Q) : wpList P ops Q (o :: rest) a w :=
  wpList_plain hg fun _ hK => h _ hK
end

/-- A text in a block of its own, and an item with it alone in the next. -/
theorem item_new {W : World} {base R : Nat} {sv wv : Value} {k : Nat} {v : Value} {items : List ItemT} (H : RSt W base R sv wv k v items) (n t : Tx) (W' : World) (hW : Below W.heap.size W W') (hz : W'.heap.size = W.heap.size) :
    ((W'.alloc (.cells #[.string (mk t)] 9)).alloc (.cells #[.string (mk n), .slice (some ⟨W.heap.size, 0, none⟩) 1 1] 108)).heap[W.heap.size + 1]? = some (.cells #[.string (mk n), .slice (some ⟨W.heap.size, 0, none⟩) 1 1] 108 (0, 0)) ∧
    Below W.heap.size W ((W'.alloc (.cells #[.string (mk t)] 9)).alloc (.cells #[.string (mk n), .slice (some ⟨W.heap.size, 0, none⟩) 1 1] 108)) ∧
    R < ((W'.alloc (.cells #[.string (mk t)] 9)).alloc (.cells #[.string (mk n), .slice (some ⟨W.heap.size, 0, none⟩) 1 1] 108)).heap.size ∧
    SafeAt ((W'.alloc (.cells #[.string (mk t)] 9)).alloc (.cells #[.string (mk n), .slice (some ⟨W.heap.size, 0, none⟩) 1 1] 108)) R v.ownBlock (some ⟨W.heap.size, 0, none⟩) [t] := by
  have hl := H.lt
  have hz1 : (W'.alloc (.cells #[.string (mk t)] 9)).heap.size = W.heap.size + 1 := by simp [hz]
  refine ⟨by rw [← hz1]; exact heap_alloc_new _ _, (hW.alloc (by omega) _).alloc (by omega) _, by simp; omega, .inr ⟨W.heap.size, 0, rfl, by simp; omega, by omega, fun e => ?_, fun j hj => ?_⟩⟩
  · have := (H.out.own _ e.symm).2; omega
  · obtain rfl : j = 0 := by simp at hj; omega
    rw [World.cell?_alloc_lt _ _ _ (by show W.heap.size < _; omega), ← hz, Nat.add_zero, cellA_new]
    rfl
/-- Behind the append and the store. -/
theorem RSt.more {W W2 w1 : World} {base R : Nat} {sv wv : Value} {k : Nat} {v v1 : Value} {items items' : List ItemT} (H : RSt W base R sv wv k v items) (hb : Below W.heap.size W W2) (ho : OutAt w1 base R v1 items') (hg : W2.grownBy w1 v.ownBlock)
    (hr : v1.ownBlock = v.ownBlock ∨ ∃ g, v1.ownBlock = some g ∧ W2.heap.size ≤ g) : MoreI base R sv wv k v items' W (w1.setCell ⟨R, 3, none⟩ v1) := by
  have hne : some R ≠ v.ownBlock := by obtain ⟨_, _, _, h3, _⟩ := H.out; exact fun e => h3 e.symm
  have hblk : w1.heap[R]? = some (.cells #[sv, wv, .int .i64 k, v] 87 (0, 0)) := by
    rw [hg.block R (Nat.lt_of_lt_of_le H.lt hb.size) hne, hb.block R H.lt]
    exact H.blk
  refine ⟨v1, RSt.setOut hblk ho H.hb, ?_⟩
  exact ((Grows.below hb).trans ⟨Keep.grown hg, hr⟩).trans (Grows.setR w1 3 v1)
theorem RSt.at_store {W W2 w1 : World} {base R : Nat} {sv wv : Value} {k : Nat} {v : Value} {items : List ItemT} (H : RSt W base R sv wv k v items) (hb : Below W.heap.size W W2) (hg : W2.grownBy w1 v.ownBlock) :
    w1.cell? ⟨R, 3, none⟩ = some v ∧ w1.frozen? ⟨R, 3, none⟩ = false := by
  have hne : some R ≠ v.ownBlock := by obtain ⟨_, _, _, h3, _⟩ := H.out; exact fun e => h3 e.symm
  have hblk : w1.heap[R]? = some (.cells #[sv, wv, .int .i64 k, v] 87 (0, 0)) := by
    rw [hg.block R (Nat.lt_of_lt_of_le H.lt hb.size) hne, hb.block R H.lt]
    exact H.blk
  constructor <;> simp [World.cell?, World.frozen?, hblk]

set_option maxRecDepth 100000 in
set_option maxHeartbeats 1000000 in
theorem args_operand (t : Tx) (W : World) (base R : Nat) (sv wv : Value) (k : Nat) (v : Value) (items : List ItemT) (H : RSt W base R sv wv k v items) (hl : items.length ≤ 1000000000000) :
    Calls Try.prog 76 #[.pointer (some ⟨R, 0, none⟩), .string (mk t)] W fun e W' => e = .returned (.tuple #[]) ∧ MoreI base R sv wv k v (items ++ [opdT t]) W W' := by
  obtain ⟨c0, c1, c2, c3, f2, f3⟩ := H.cells
  have hR := H.lt
  have HH := Lib.hid H
  have HI := Lib.hid (item_new H [] t W (Below.refl _ _) rfl)
  have hbase : base ≤ W.heap.size := by have := H.hb; omega
  clear H
  go_enter Try.func76, Try.ntmps76
  go_wp2_with (at_builtin; refine wpList_of_wp rfl (fun K hK => wp_append_item (W0 := W) _ _ rfl base R v items rfl HH.out.out HI.out.2.1 hbase (by omega) (W.heap.size + 1) rfl (opdT t) (some ⟨W.heap.size, 0, none⟩) 1 (0, 0) HI.out.1 HI.out.2.2.1 HI.out.2.2.2 (fun g cap w1 o1 g1 e1 => hK _ _ ?_)); have HM := Lib.hid (HH.out.more HI.out.2.1 o1 g1 e1); obtain ⟨s1, s2⟩ := HH.out.at_store HI.out.2.1 g1; clear hK o1 g1 e1)
  go_end0
  exact ⟨rfl, HM.out⟩
theorem RSt.at_k {W W2 w1 : World} {base R : Nat} {sv wv : Value} {k : Nat} {v : Value} {items : List ItemT} (H : RSt W base R sv wv k v items) (hb : Below W.heap.size W W2) (hg : W2.grownBy w1 v.ownBlock) :
    w1.cell? ⟨R, 2, none⟩ = some (.int .i64 k) ∧ w1.frozen? ⟨R, 2, none⟩ = false := by
  have hne : some R ≠ v.ownBlock := by obtain ⟨_, _, _, h3, _⟩ := H.out; exact fun e => h3 e.symm
  have hblk : w1.heap[R]? = some (.cells #[sv, wv, .int .i64 k, v] 87 (0, 0)) := by
    rw [hg.block R (Nat.lt_of_lt_of_le H.lt hb.size) hne, hb.block R H.lt]
    exact H.blk
  constructor <;> simp [World.cell?, World.frozen?, hblk]
theorem MoreI.setAt {base R : Nat} {sv wv : Value} {k : Nat} {v : Value} {items : List ItemT} {W W' : World} (h : MoreI base R sv wv k v items W W') (k' : Nat) : MoreI base R sv wv k' v items W (W'.setCell ⟨R, 2, none⟩ (.int .i64 k')) := by
  obtain ⟨v', h1, h2⟩ := h
  exact ⟨v', h1.setAt k', h2.trans (Grows.setR W' 2 _)⟩
/-- Cells that hold these values. -/
def Has (cells : List (Nat × Nat × Value)) (w : World) : Prop := ∀ c ∈ cells, w.cell? ⟨c.1, c.2.1, none⟩ = some c.2.2
theorem Has.below {cells : List (Nat × Nat × Value)} {w w' : World} (h : Has cells w) (hb : Below w.heap.size w w') : Has cells w' := fun c hc => by
  have h1 := h c hc
  rw [hb.cell (p := ⟨c.1, c.2.1, none⟩) (World.block_lt_of_cell? _ _ h1)]
  exact h1
theorem Has.grown {cells : List (Nat × Nat × Value)} {w w' : World} {row : Option Nat} (h : Has cells w) (hg : w.grownBy w' row) (hn : ∀ c ∈ cells, some c.1 ≠ row) : Has cells w' := fun c hc => hg.cell (h c hc) (hn c hc)
theorem Has.alloc {cells : List (Nat × Nat × Value)} {w : World} (h : Has cells w) (o : Obj) : Has cells (w.alloc o) := h.below ((Below.refl _ _).alloc (Nat.le_refl _) o)

/-- slices.Clone of texts: they lie in a block of their own. -/
theorem strs_clone_new (b off c : Nat) (xs : List Tx) (w : World) (h : StrsAt w (some ⟨b, off, none⟩) xs) (hn : xs.length ≤ 1000000000000) :
    Calls Try.prog 83 #[.slice (some ⟨b, off, none⟩) xs.length c] w fun e w' => (∃ A c', e = .returned (.slice A xs.length c') ∧ ∀ R row, R < w.heap.size → (∀ g, row = some g → g < w.heap.size) → SafeAt w' R row A xs) ∧ Below w.heap.size w w' := by
  have hfin : ∀ (v' : Value) (w' : World), w'.ownsRow w.heap.size 9 1 v' xs.length (xs.map encStr) → ∃ A c', Ending.returned v' = .returned (.slice A xs.length c') ∧ ∀ R row, R < w.heap.size → (∀ g, row = some g → g < w.heap.size) → SafeAt w' R row A xs := fun v' w' ho => by
    rcases ho.2 with ⟨rfl, h0⟩ | ⟨g, cap, cur, rfl, hb, hg, hn, hm, hs, ht⟩
    · exact ⟨none, 0, by rw [h0], fun R row _ _ => .inl (List.eq_nil_of_length_eq_zero h0)⟩
    · refine ⟨_, cap, rfl, fun R row hR hrow => .inr ⟨g, 0, rfl, (Array.getElem?_eq_some_iff.1 hg).1, by omega, fun e => ?_, fun j hj => ?_⟩⟩
      · have := hrow g e.symm; omega
      · have := ho.cells (g := g) rfl j (.string (mk xs[j])) (by simp only [List.getElem?_map, List.getElem?_eq_getElem hj]; rfl)
        rwa [show (⟨g, 0, none⟩ : Addr).add j = ⟨g, 0 + j, none⟩ from by unfold Addr.add; split <;> simp_all] at this
  by_cases h0 : xs = []
  · subst h0
    refine (Try.slices_Clone_string_zero ⟨b, off, none⟩ c w).mono ?_
    rintro e w' ⟨v', rfl, h1, _, h3⟩
    exact ⟨hfin v' w' h1, h3⟩
  · refine (strs_clone (c := c) h hn h0).mono ?_
    rintro e w' ⟨v', rfl, h1, _, h3⟩
    exact ⟨hfin v' w' h1, h3⟩

/-- What a reader's method comes to. -/
def Does (base R : Nat) (sv wv : Value) (k : Nat) (v : Value) (items : List ItemT) (res : Option (List ItemT × Nat)) (W : World) (e : Ending) (W' : World) : Prop :=
  match res with
  | none => e = .returned (.bool false) ∧ Keep R v.ownBlock W W'
  | some (more, n) => e = .returned (.bool true) ∧ MoreI base R sv wv (k + n) v (items ++ more) W W'

set_option maxRecDepth 100000 in
set_option maxHeartbeats 4000000 in
theorem args_put (s : SpecT) (W : World) (base R : Nat) (sv : Value) (wa : Option Addr) (wc : Nat) (ws : List Tx) (k : Nat) (v : Value) (items : List ItemT) (H : RSt W base R sv (.slice wa ws.length wc) k v items) (hw : StrsAt W wa ws) (hk : k < ws.length) (hc : ws.length ≤ wc) (hws : ws.length ≤ 1000000000000) (hl : items.length ≤ 1000000000000) :
    Calls Try.prog 135 #[.pointer (some ⟨R, 0, none⟩), specV s] W (Does base R sv (.slice wa ws.length wc) k v items (putS s (ws.drop (k + 1))) W) := by
  rcases hw with h0 | ⟨b, off, rfl, hlt, hcell⟩
  · rw [h0] at hk; simp at hk
  obtain ⟨n, hn⟩ : ∃ n, ws.length = n := ⟨_, rfl⟩
  have HN := Lib.hid hn
  have HPU : Hid (putS s (ws.drop (k + 1)) = if nOf s ≤ (ws.drop (k + 1)).length then some ([⟨s.long, (ws.drop (k + 1)).take (nOf s)⟩], nOf s) else none) := Lib.hid rfl
  rw [List.length_drop, hn] at HPU
  rw [hn] at H hk hc hws ⊢
  obtain ⟨r, hr⟩ : ∃ r, putS s (ws.drop (k + 1)) = r := ⟨_, rfl⟩
  rw [hr] at HPU ⊢
  clear hn hr
  obtain ⟨m, hm⟩ : ∃ m, nOf s = m := ⟨_, rfl⟩
  rw [hm] at HPU
  have hmax : max s.needs 0 = (m : Int) := by rw [← hm]; unfold nOf; omega
  obtain ⟨l, sh, nd⟩ := s
  simp only at hmax HPU
  clear hm
  obtain ⟨c0, c1, c2, c3, f2, f3⟩ := H.cells
  have hR := H.lt
  have HH := Lib.hid H
  have HCELL := Lib.hid hcell
  have HLT := Lib.hid hlt
  have hbase : base ≤ W.heap.size := by have := H.hb; omega
  have hHas : Hid (Has [(R, 1, .slice (some ⟨b, off, none⟩) n wc), (R, 2, .int .i64 k), (R, 3, v), (W.heap.size, 0, .string (mk l))] (W.alloc (.cells #[.string (mk l), .int .u8 sh.toNat, .int .i64 nd] 68))) := Lib.hid (by
    intro c hc
    simp only [List.mem_cons, List.not_mem_nil, or_false] at hc
    rcases hc with rfl | rfl | rfl | rfl
    · rw [World.cell?_alloc_lt _ _ _ hR]; exact c1
    · rw [World.cell?_alloc_lt _ _ _ hR]; exact c2
    · rw [World.cell?_alloc_lt _ _ _ hR]; exact c3
    · exact cellA_new _ _ _ 0)
  have hBel : Hid (Below W.heap.size W (W.alloc (.cells #[.string (mk l), .int .u8 sh.toNat, .int .i64 nd] 68))) := Lib.hid ((Below.refl _ _).alloc (Nat.le_refl _) _)
  clear H hcell hlt
  have hk1 : (k : Int) < (n : Int) := by omega
  unfold specV specC
  simp only
  by_cases hgt : m ≤ n - (k + 1)
  · have hd1 : decide ((n : Int) - (k : Int) - 1 < (m : Int)) = false := by simp; omega
    rw [if_pos hgt] at HPU
    go_enter Try.func135, Try.ntmps135
    go_wp2_with fail
    go_quiet (fail)
    go_wp2_with fail
    obtain ⟨W1, hW1⟩ : ∃ W1, (W.alloc (.cells #[.string (mk l), .int .u8 sh.toNat, .int .i64 nd] 68)).drewN nq = W1 := ⟨_, rfl⟩
    have HB1 : Hid (Below W.heap.size W W1.drew ∧ W1.drew.heap.size = W.heap.size + 1) := Lib.hid (by rw [← hW1]; exact ⟨below_drewN (below_drewN hBel.out _) 1, by simp⟩)
    have hS0 : Has [(R, 1, .slice (some ⟨b, off, none⟩) n wc), (R, 2, .int .i64 k), (R, 3, v), (W.heap.size, 0, .string (mk l))] W1.drew := by
      rw [← hW1]
      exact (hHas.out.below (below_drewN (Below.refl _ _) nq)).below (below_drewN (Below.refl _ _) 1)
    rw [hW1]
    clear hW1 c0 c1 c2 c3 f2 f3
    have hown := HH.out.out.own
    have hne : some R ≠ v.ownBlock := by obtain ⟨_, _, _, h3, _⟩ := HH.out.out; exact fun e => h3 e.symm
    have hneB : some W.heap.size ≠ v.ownBlock := fun e => by have := (hown _ e.symm).2; omega
    have HNE := Lib.hid (And.intro hown (And.intro hne hneB))
    clear hown hne hneB
    have HST : Hid (StrsAt W1.drew (some ⟨b, off + (k + 1), none⟩) ((ws.drop (k + 1)).take m) ∧ ((ws.drop (k + 1)).take m).length = m ∧ (m = 0 → (ws.drop (k + 1)).take m = [])) := Lib.hid (by
      have hlen : ((ws.drop (k + 1)).take m).length = m := by rw [List.length_take, List.length_drop, HN.out]; omega
      refine ⟨.inr ⟨b, off + (k + 1), rfl, Nat.lt_of_lt_of_le HLT.out HB1.out.1.size, fun j hj => ?_⟩, hlen, fun e => by rw [e, List.take_zero]⟩
      have h1 := HCELL.out (k + 1 + j) (by rw [HN.out]; omega)
      rw [HB1.out.1.cell (p := ⟨b, off + (k + 1) + j, none⟩) HLT.out, Nat.add_assoc off, h1]
      congr 3
      rw [List.getElem_take, List.getElem_drop])
    obtain ⟨vals, hvals⟩ : ∃ vals, (ws.drop (k + 1)).take m = vals := ⟨_, rfl⟩
    rw [hvals] at HST HPU
    clear hvals
    have w1 : IntKind.i64.wrap ((k : Int) + 1) = (k : Int) + 1 := IntWalk.i64_in _ (by omega)
    have b1 : (0 : Int) ≤ (k : Int) + 1 := by omega
    have b3' : m ≤ wc - (k + 1) := by omega
    have hitl : (items.length + 1) * 40 ≤ 140737488355328 := by omega
    by_cases hwc : wc = k + 1
    · obtain rfl : m = 0 := by omega
      have w2 : IntKind.i64.wrap ((k : Int) + 1 + ((0 : Nat) : Int)) = (k : Int) + 1 := IntWalk.i64_in _ (by omega)
      have b3 : (k : Int) + 1 ≤ (wc : Int) := by omega
      have hv0 := HST.out.2.2 rfl
      have HCL := Lib.hid (fun W' => strs_clone_new b off 0 [] W' (.inl rfl) (by simp))
      rw [← hv0] at HCL
      have HVL := Lib.hid HST.out.2.1
      rw [HST.out.2.1] at HCL
      clear hv0
      refine wp_region_sink (S := Has [(R, 1, .slice (some ⟨b, off, none⟩) n wc), (R, 2, .int .i64 k), (R, 3, v), (W.heap.size, 0, .string (mk l))]) 30 (by kernel_rfl) ?_
      refine wpSink_take (i := 0) (v := .pointer (some ⟨R, 0, none⟩)) rfl (by kernel_rfl) (by kernel_rfl) (by kernel_rfl) (by kernel_rfl) (fun _ _ _ h => h) (Or.inl ⟨by kernel_rfl, ?_⟩) (by assumption) ?_
      · intro W' hSw
        go_simp
      simp only [List.getElem_toArray, List.getElem_cons_zero, Act.put, List.setIfInBounds_toArray, List.set_cons_zero, List.set_cons_succ]
      refine wpSink_take (i := 1) (v := .pointer (some ⟨R, 0, none⟩)) rfl (by kernel_rfl) (by kernel_rfl) (by kernel_rfl) (by kernel_rfl) (fun _ _ _ h => h) (Or.inl ⟨by kernel_rfl, ?_⟩) (by assumption) ?_
      · intro W' hSw
        go_simp
      simp only [List.getElem_toArray, List.getElem_cons_zero, List.getElem_cons_succ, Act.put, List.setIfInBounds_toArray, List.set_cons_zero, List.set_cons_succ]
      refine wpSink_take (i := 2) (v := .pointer (some ⟨R, 0, none⟩)) rfl (by kernel_rfl) (by kernel_rfl) (by kernel_rfl) (by kernel_rfl) (fun _ _ _ h => h) (Or.inl ⟨by kernel_rfl, ?_⟩) (by assumption) ?_
      · intro W' hSw
        go_simp
      simp only [List.getElem_toArray, List.getElem_cons_zero, List.getElem_cons_succ, Act.put, List.setIfInBounds_toArray, List.set_cons_zero, List.set_cons_succ]
      refine wpSink_take (i := 3) (v := .pointer (some ⟨R, 3, none⟩)) rfl (by kernel_rfl) (by kernel_rfl) (by kernel_rfl) (by kernel_rfl) (fun _ _ _ h => h) (Or.inl ⟨by kernel_rfl, ?_⟩) (by assumption) ?_
      · intro W' hSw
        go_simp
      simp only [List.getElem_toArray, List.getElem_cons_zero, List.getElem_cons_succ, Act.put, List.setIfInBounds_toArray, List.set_cons_zero, List.set_cons_succ]
      refine wpSink_take (i := 4) (v := v) rfl (by kernel_rfl) (by kernel_rfl) (by kernel_rfl) (by kernel_rfl) (fun _ _ _ h => h) (Or.inl ⟨by kernel_rfl, ?_⟩) (by assumption) ?_
      · intro W' hSw
        have e := hSw (R, 3, v) (by simp)
        simp only at e
        go_simp
      simp only [List.getElem_toArray, List.getElem_cons_zero, List.getElem_cons_succ, Act.put, List.setIfInBounds_toArray, List.set_cons_zero, List.set_cons_succ]
      refine wpSink_take (i := 5) (v := .pointer (some ⟨W.heap.size, 0, none⟩)) rfl (by kernel_rfl) (by kernel_rfl) (by kernel_rfl) (by kernel_rfl) (fun _ _ _ h => h) (Or.inl ⟨by kernel_rfl, ?_⟩) (by assumption) ?_
      · intro W' hSw
        go_simp
      simp only [List.getElem_toArray, List.getElem_cons_zero, List.getElem_cons_succ, Act.put, List.setIfInBounds_toArray, List.set_cons_zero, List.set_cons_succ]
      refine wpSink_take (i := 6) (v := .string (mk l)) rfl (by kernel_rfl) (by kernel_rfl) (by kernel_rfl) (by kernel_rfl) (fun _ _ _ h => h) (Or.inl ⟨by kernel_rfl, ?_⟩) (by assumption) ?_
      · intro W' hSw
        have e := hSw (W.heap.size, 0, .string (mk l)) (by simp)
        simp only at e
        go_simp
      simp only [List.getElem_toArray, List.getElem_cons_zero, List.getElem_cons_succ, Act.put, List.setIfInBounds_toArray, List.set_cons_zero, List.set_cons_succ]
      refine wpSink_take (i := 7) (v := .pointer (some ⟨R, 0, none⟩)) rfl (by kernel_rfl) (by kernel_rfl) (by kernel_rfl) (by kernel_rfl) (fun _ _ _ h => h) (Or.inl ⟨by kernel_rfl, ?_⟩) (by assumption) ?_
      · intro W' hSw
        go_simp
      simp only [List.getElem_toArray, List.getElem_cons_zero, List.getElem_cons_succ, Act.put, List.setIfInBounds_toArray, List.set_cons_zero, List.set_cons_succ]
      refine wpSink_take (i := 8) (v := .pointer (some ⟨R, 0, none⟩)) rfl (by kernel_rfl) (by kernel_rfl) (by kernel_rfl) (by kernel_rfl) (fun _ _ _ h => h) (Or.inl ⟨by kernel_rfl, ?_⟩) (by assumption) ?_
      · intro W' hSw
        go_simp
      simp only [List.getElem_toArray, List.getElem_cons_zero, List.getElem_cons_succ, Act.put, List.setIfInBounds_toArray, List.set_cons_zero, List.set_cons_succ]
      refine wpSink_take (i := 9) (v := .pointer (some ⟨R, 1, none⟩)) rfl (by kernel_rfl) (by kernel_rfl) (by kernel_rfl) (by kernel_rfl) (fun _ _ _ h => h) (Or.inl ⟨by kernel_rfl, ?_⟩) (by assumption) ?_
      · intro W' hSw
        go_simp
      simp only [List.getElem_toArray, List.getElem_cons_zero, List.getElem_cons_succ, Act.put, List.setIfInBounds_toArray, List.set_cons_zero, List.set_cons_succ]
      refine wpSink_take (i := 10) (v := .slice (some ⟨b, off, none⟩) n wc) rfl (by kernel_rfl) (by kernel_rfl) (by kernel_rfl) (by kernel_rfl) (fun _ _ _ h => h) (Or.inl ⟨by kernel_rfl, ?_⟩) (by assumption) ?_
      · intro W' hSw
        have e := hSw (R, 1, .slice (some ⟨b, off, none⟩) n wc) (by simp)
        simp only at e
        go_simp
      simp only [List.getElem_toArray, List.getElem_cons_zero, List.getElem_cons_succ, Act.put, List.setIfInBounds_toArray, List.set_cons_zero, List.set_cons_succ]
      refine wpSink_take (i := 11) (v := .pointer (some ⟨R, 0, none⟩)) rfl (by kernel_rfl) (by kernel_rfl) (by kernel_rfl) (by kernel_rfl) (fun _ _ _ h => h) (Or.inl ⟨by kernel_rfl, ?_⟩) (by assumption) ?_
      · intro W' hSw
        go_simp
      simp only [List.getElem_toArray, List.getElem_cons_zero, List.getElem_cons_succ, Act.put, List.setIfInBounds_toArray, List.set_cons_zero, List.set_cons_succ]
      refine wpSink_take (i := 12) (v := .pointer (some ⟨R, 0, none⟩)) rfl (by kernel_rfl) (by kernel_rfl) (by kernel_rfl) (by kernel_rfl) (fun _ _ _ h => h) (Or.inl ⟨by kernel_rfl, ?_⟩) (by assumption) ?_
      · intro W' hSw
        go_simp
      simp only [List.getElem_toArray, List.getElem_cons_zero, List.getElem_cons_succ, Act.put, List.setIfInBounds_toArray, List.set_cons_zero, List.set_cons_succ]
      refine wpSink_take (i := 13) (v := .pointer (some ⟨R, 2, none⟩)) rfl (by kernel_rfl) (by kernel_rfl) (by kernel_rfl) (by kernel_rfl) (fun _ _ _ h => h) (Or.inl ⟨by kernel_rfl, ?_⟩) (by assumption) ?_
      · intro W' hSw
        go_simp
      simp only [List.getElem_toArray, List.getElem_cons_zero, List.getElem_cons_succ, Act.put, List.setIfInBounds_toArray, List.set_cons_zero, List.set_cons_succ]
      refine wpSink_take (i := 14) (v := .int .i64 k) rfl (by kernel_rfl) (by kernel_rfl) (by kernel_rfl) (by kernel_rfl) (fun _ _ _ h => h) (Or.inl ⟨by kernel_rfl, ?_⟩) (by assumption) ?_
      · intro W' hSw
        have e := hSw (R, 2, .int .i64 k) (by simp)
        simp only at e
        go_simp
      simp only [List.getElem_toArray, List.getElem_cons_zero, List.getElem_cons_succ, Act.put, List.setIfInBounds_toArray, List.set_cons_zero, List.set_cons_succ]
      refine wpSink_take (i := 15) (v := .int .i64 ((k : Int) + 1)) rfl (by kernel_rfl) (by kernel_rfl) (by kernel_rfl) (by kernel_rfl) (fun _ _ _ h => h) (Or.inl ⟨by kernel_rfl, ?_⟩) (by assumption) ?_
      · intro W' hSw
        go_simp
      simp only [List.getElem_toArray, List.getElem_cons_zero, List.getElem_cons_succ, Act.put, List.setIfInBounds_toArray, List.set_cons_zero, List.set_cons_succ]
      refine wpSink_take (i := 16) (v := .pointer (some ⟨R, 0, none⟩)) rfl (by kernel_rfl) (by kernel_rfl) (by kernel_rfl) (by kernel_rfl) (fun _ _ _ h => h) (Or.inl ⟨by kernel_rfl, ?_⟩) (by assumption) ?_
      · intro W' hSw
        go_simp
      simp only [List.getElem_toArray, List.getElem_cons_zero, List.getElem_cons_succ, Act.put, List.setIfInBounds_toArray, List.set_cons_zero, List.set_cons_succ]
      refine wpSink_take (i := 17) (v := .pointer (some ⟨R, 0, none⟩)) rfl (by kernel_rfl) (by kernel_rfl) (by kernel_rfl) (by kernel_rfl) (fun _ _ _ h => h) (Or.inl ⟨by kernel_rfl, ?_⟩) (by assumption) ?_
      · intro W' hSw
        go_simp
      simp only [List.getElem_toArray, List.getElem_cons_zero, List.getElem_cons_succ, Act.put, List.setIfInBounds_toArray, List.set_cons_zero, List.set_cons_succ]
      refine wpSink_take (i := 18) (v := .pointer (some ⟨R, 2, none⟩)) rfl (by kernel_rfl) (by kernel_rfl) (by kernel_rfl) (by kernel_rfl) (fun _ _ _ h => h) (Or.inl ⟨by kernel_rfl, ?_⟩) (by assumption) ?_
      · intro W' hSw
        go_simp
      simp only [List.getElem_toArray, List.getElem_cons_zero, List.getElem_cons_succ, Act.put, List.setIfInBounds_toArray, List.set_cons_zero, List.set_cons_succ]
      refine wpSink_take (i := 19) (v := .int .i64 k) rfl (by kernel_rfl) (by kernel_rfl) (by kernel_rfl) (by kernel_rfl) (fun _ _ _ h => h) (Or.inl ⟨by kernel_rfl, ?_⟩) (by assumption) ?_
      · intro W' hSw
        have e := hSw (R, 2, .int .i64 k) (by simp)
        simp only at e
        go_simp
      simp only [List.getElem_toArray, List.getElem_cons_zero, List.getElem_cons_succ, Act.put, List.setIfInBounds_toArray, List.set_cons_zero, List.set_cons_succ]
      refine wpSink_take (i := 20) (v := .int .i64 ((k : Int) + 1)) rfl (by kernel_rfl) (by kernel_rfl) (by kernel_rfl) (by kernel_rfl) (fun _ _ _ h => h) (Or.inl ⟨by kernel_rfl, ?_⟩) (by assumption) ?_
      · intro W' hSw
        go_simp
      simp only [List.getElem_toArray, List.getElem_cons_zero, List.getElem_cons_succ, Act.put, List.setIfInBounds_toArray, List.set_cons_zero, List.set_cons_succ]
      refine wpSink_take (i := 21) (v := .int .i64 (0 : Nat)) rfl (by kernel_rfl) (by kernel_rfl) (by kernel_rfl) (by kernel_rfl) (fun _ _ _ h => h) (Or.inl ⟨by kernel_rfl, ?_⟩) (by assumption) ?_
      · intro W' hSw
        go_simp
      simp only [List.getElem_toArray, List.getElem_cons_zero, List.getElem_cons_succ, Act.put, List.setIfInBounds_toArray, List.set_cons_zero, List.set_cons_succ]
      refine wpSink_take (i := 22) (v := .int .i64 ((k : Int) + 1)) rfl (by kernel_rfl) (by kernel_rfl) (by kernel_rfl) (by kernel_rfl) (fun _ _ _ h => h) (Or.inl ⟨by kernel_rfl, ?_⟩) (by assumption) ?_
      · intro W' hSw
        go_simp
      simp only [List.getElem_toArray, List.getElem_cons_zero, List.getElem_cons_succ, Act.put, List.setIfInBounds_toArray, List.set_cons_zero, List.set_cons_succ]
      refine wpSink_take (i := 23) (v := .slice (some ⟨b, off, none⟩) 0 0) rfl (by kernel_rfl) (by kernel_rfl) (by kernel_rfl) (by kernel_rfl) (fun _ _ _ h => h) (Or.inl ⟨by kernel_rfl, ?_⟩) (by assumption) ?_
      · intro W' hSw
        go_simp
        all_goals omega
      simp only [List.getElem_toArray, List.getElem_cons_zero, List.getElem_cons_succ, Act.put, List.setIfInBounds_toArray, List.set_cons_zero, List.set_cons_succ]
      refine wpSink_step (i := 24) (by kernel_rfl) rfl (fun K hK => ?_)
      simp only [List.getElem_toArray, List.getElem_cons_zero, List.getElem_cons_succ]
      go_simp
      refine (HCL.out _).mono ?_
      rintro e w2 ⟨⟨A, c', rfl, hsafe⟩, hb⟩
      have HB2 := Lib.hid (below_then HB1.out.1 HB1.out.1.size hb)
      have HZ2 : Hid (W.heap.size + 1 ≤ w2.heap.size) := Lib.hid (by have := HB1.out.2; have := hb.size; omega)
      have hS1 := hS0.below hb
      have HSF := Lib.hid (hsafe R v.ownBlock (by have := HB1.out.2; omega) (fun g e => by have := (HNE.out.1 g e).2; have := HB1.out.2; omega))
      refine hK.out _ _ (fun _ => hS1) ?_
      clear hK K hS0 hsafe hb
      try rw [HVL.out]
      refine wpSink_take (i := 25) (v := .agg #[.string (mk l), .slice A 0 c']) rfl (by kernel_rfl) (by kernel_rfl) (by kernel_rfl) (by kernel_rfl) (fun _ _ _ h => h) (Or.inl ⟨by kernel_rfl, ?_⟩) (by assumption) ?_
      · intro W' hSw
        go_simp
      simp only [List.getElem_toArray, List.getElem_cons_zero, List.getElem_cons_succ, Act.put, List.setIfInBounds_toArray, List.set_cons_zero, List.set_cons_succ]
      refine wpSink_step (i := 26) (by kernel_rfl) rfl (fun K hK => ?_)
      simp only [List.getElem_toArray, List.getElem_cons_zero, List.getElem_cons_succ]
      go_simp
      have hS2 := hS1.alloc (.cells #[.string (mk l), .slice A 0 c'] 108)
      refine hK.out _ _ (fun _ => hS2) ?_
      clear hK K hS1
      refine wpSink_step (i := 27) (by kernel_rfl) rfl (fun K hK => ?_)
      simp only [List.getElem_toArray, List.getElem_cons_zero, List.getElem_cons_succ]
      rw [if_pos (by kernel_rfl)]
      refine wp_append_item (W0 := W) _ _ rfl base R v items rfl HH.out.out (HB2.out.alloc (by have := HZ2.out; omega) _) hbase hitl w2.heap.size rfl ⟨l, vals⟩ A c' (0, 0) (by show _ = some (Obj.cells #[.string (mk l), .slice A vals.length c'] 108 (0, 0)); rw [HVL.out]; exact heap_alloc_new _ _) (by have := HZ2.out; simp; omega) (HSF.out.keep (Keep.below ((Below.refl _ _).alloc (Nat.le_refl _) _)) (.inl rfl)) (fun g cap w3 o1 g1 e1 => ?_)
      have HBA : Hid (Below W.heap.size W (w2.alloc (.cells #[.string (mk l), .slice A 0 c'] 108))) := Lib.hid (HB2.out.alloc (by have := HZ2.out; omega) _)
      have HM := Lib.hid (HH.out.more HBA.out o1 g1 e1)
      have HM2 : Hid (w3.cell? ⟨R, 2, none⟩ = some (.int .i64 k) ∧ w3.frozen? ⟨R, 2, none⟩ = false) := Lib.hid (HH.out.at_k HBA.out g1)
      obtain ⟨s1, s2⟩ := HH.out.at_store HBA.out g1
      have hS3 := hS2.grown g1 (by intro c hc; simp only [List.mem_cons, List.not_mem_nil, or_false] at hc; rcases hc with rfl | rfl | rfl | rfl <;> first | exact HNE.out.2.1 | exact HNE.out.2.2)
      refine hK.out _ _ (fun _ => hS3) ?_
      clear hK K hS2 o1 g1 e1
      refine wpSink_step (i := 28) (by kernel_rfl) rfl (fun K hK => ?_)
      simp only [List.getElem_toArray, List.getElem_cons_zero, List.getElem_cons_succ]
      go_simp
      refine hK.out _ _ (fun _ => hS3) ?_
      clear hK K
      refine wpSink_step (i := 29) (by kernel_rfl) rfl (fun K hK => ?_)
      simp only [List.getElem_toArray, List.getElem_cons_zero, List.getElem_cons_succ]
      go_simp
      refine hK.out _ _ (fun _ => hS3) ?_
      clear hK K
      refine wpSink_step (i := 30) (by kernel_rfl) rfl (fun K hK => ?_)
      simp only [List.getElem_toArray, List.getElem_cons_zero, List.getElem_cons_succ]
      go_simp
      refine hK.out _ _ (fun h => absurd rfl h) ?_
      clear hK K
      refine wpSink_done (by kernel_rfl) ?_ _
      obtain ⟨q1, q2⟩ := HM2.out
      clear s1 s2 hS3
      go_wp2_with fail
      go_ret
      obtain rfl := HPU.out
      exact ⟨rfl, by have h5 := HM.out.setAt k; rw [hwc] at h5; exact h5⟩
    · have w2 : IntKind.i64.wrap ((k : Int) + 1 + (m : Int)) = (k : Int) + 1 + (m : Int) := IntWalk.i64_in _ (by omega)
      have b2 : (k : Int) + 1 ≤ (k : Int) + 1 + (m : Int) := by omega
      have b3 : (k : Int) + 1 + (m : Int) ≤ (wc : Int) := by omega
      have HCL := Lib.hid (fun W' (hb : Below W1.drew.heap.size W1.drew W') => strs_clone_new b (off + (k + 1)) (wc - (k + 1)) vals W' (HST.out.1.below hb) (by rw [HST.out.2.1]; omega))
      have HVL := Lib.hid HST.out.2.1
      rw [HST.out.2.1] at HCL
      refine wp_region_sink (S := Has [(R, 1, .slice (some ⟨b, off, none⟩) n wc), (R, 2, .int .i64 k), (R, 3, v), (W.heap.size, 0, .string (mk l))]) 30 (by kernel_rfl) ?_
      refine wpSink_take (i := 0) (v := .pointer (some ⟨R, 0, none⟩)) rfl (by kernel_rfl) (by kernel_rfl) (by kernel_rfl) (by kernel_rfl) (fun _ _ _ h => h) (Or.inl ⟨by kernel_rfl, ?_⟩) (by assumption) ?_
      · intro W' hSw
        go_simp
      simp only [List.getElem_toArray, List.getElem_cons_zero, Act.put, List.setIfInBounds_toArray, List.set_cons_zero, List.set_cons_succ]
      refine wpSink_take (i := 1) (v := .pointer (some ⟨R, 0, none⟩)) rfl (by kernel_rfl) (by kernel_rfl) (by kernel_rfl) (by kernel_rfl) (fun _ _ _ h => h) (Or.inl ⟨by kernel_rfl, ?_⟩) (by assumption) ?_
      · intro W' hSw
        go_simp
      simp only [List.getElem_toArray, List.getElem_cons_zero, List.getElem_cons_succ, Act.put, List.setIfInBounds_toArray, List.set_cons_zero, List.set_cons_succ]
      refine wpSink_take (i := 2) (v := .pointer (some ⟨R, 0, none⟩)) rfl (by kernel_rfl) (by kernel_rfl) (by kernel_rfl) (by kernel_rfl) (fun _ _ _ h => h) (Or.inl ⟨by kernel_rfl, ?_⟩) (by assumption) ?_
      · intro W' hSw
        go_simp
      simp only [List.getElem_toArray, List.getElem_cons_zero, List.getElem_cons_succ, Act.put, List.setIfInBounds_toArray, List.set_cons_zero, List.set_cons_succ]
      refine wpSink_take (i := 3) (v := .pointer (some ⟨R, 3, none⟩)) rfl (by kernel_rfl) (by kernel_rfl) (by kernel_rfl) (by kernel_rfl) (fun _ _ _ h => h) (Or.inl ⟨by kernel_rfl, ?_⟩) (by assumption) ?_
      · intro W' hSw
        go_simp
      simp only [List.getElem_toArray, List.getElem_cons_zero, List.getElem_cons_succ, Act.put, List.setIfInBounds_toArray, List.set_cons_zero, List.set_cons_succ]
      refine wpSink_take (i := 4) (v := v) rfl (by kernel_rfl) (by kernel_rfl) (by kernel_rfl) (by kernel_rfl) (fun _ _ _ h => h) (Or.inl ⟨by kernel_rfl, ?_⟩) (by assumption) ?_
      · intro W' hSw
        have e := hSw (R, 3, v) (by simp)
        simp only at e
        go_simp
      simp only [List.getElem_toArray, List.getElem_cons_zero, List.getElem_cons_succ, Act.put, List.setIfInBounds_toArray, List.set_cons_zero, List.set_cons_succ]
      refine wpSink_take (i := 5) (v := .pointer (some ⟨W.heap.size, 0, none⟩)) rfl (by kernel_rfl) (by kernel_rfl) (by kernel_rfl) (by kernel_rfl) (fun _ _ _ h => h) (Or.inl ⟨by kernel_rfl, ?_⟩) (by assumption) ?_
      · intro W' hSw
        go_simp
      simp only [List.getElem_toArray, List.getElem_cons_zero, List.getElem_cons_succ, Act.put, List.setIfInBounds_toArray, List.set_cons_zero, List.set_cons_succ]
      refine wpSink_take (i := 6) (v := .string (mk l)) rfl (by kernel_rfl) (by kernel_rfl) (by kernel_rfl) (by kernel_rfl) (fun _ _ _ h => h) (Or.inl ⟨by kernel_rfl, ?_⟩) (by assumption) ?_
      · intro W' hSw
        have e := hSw (W.heap.size, 0, .string (mk l)) (by simp)
        simp only at e
        go_simp
      simp only [List.getElem_toArray, List.getElem_cons_zero, List.getElem_cons_succ, Act.put, List.setIfInBounds_toArray, List.set_cons_zero, List.set_cons_succ]
      refine wpSink_take (i := 7) (v := .pointer (some ⟨R, 0, none⟩)) rfl (by kernel_rfl) (by kernel_rfl) (by kernel_rfl) (by kernel_rfl) (fun _ _ _ h => h) (Or.inl ⟨by kernel_rfl, ?_⟩) (by assumption) ?_
      · intro W' hSw
        go_simp
      simp only [List.getElem_toArray, List.getElem_cons_zero, List.getElem_cons_succ, Act.put, List.setIfInBounds_toArray, List.set_cons_zero, List.set_cons_succ]
      refine wpSink_take (i := 8) (v := .pointer (some ⟨R, 0, none⟩)) rfl (by kernel_rfl) (by kernel_rfl) (by kernel_rfl) (by kernel_rfl) (fun _ _ _ h => h) (Or.inl ⟨by kernel_rfl, ?_⟩) (by assumption) ?_
      · intro W' hSw
        go_simp
      simp only [List.getElem_toArray, List.getElem_cons_zero, List.getElem_cons_succ, Act.put, List.setIfInBounds_toArray, List.set_cons_zero, List.set_cons_succ]
      refine wpSink_take (i := 9) (v := .pointer (some ⟨R, 1, none⟩)) rfl (by kernel_rfl) (by kernel_rfl) (by kernel_rfl) (by kernel_rfl) (fun _ _ _ h => h) (Or.inl ⟨by kernel_rfl, ?_⟩) (by assumption) ?_
      · intro W' hSw
        go_simp
      simp only [List.getElem_toArray, List.getElem_cons_zero, List.getElem_cons_succ, Act.put, List.setIfInBounds_toArray, List.set_cons_zero, List.set_cons_succ]
      refine wpSink_take (i := 10) (v := .slice (some ⟨b, off, none⟩) n wc) rfl (by kernel_rfl) (by kernel_rfl) (by kernel_rfl) (by kernel_rfl) (fun _ _ _ h => h) (Or.inl ⟨by kernel_rfl, ?_⟩) (by assumption) ?_
      · intro W' hSw
        have e := hSw (R, 1, .slice (some ⟨b, off, none⟩) n wc) (by simp)
        simp only at e
        go_simp
      simp only [List.getElem_toArray, List.getElem_cons_zero, List.getElem_cons_succ, Act.put, List.setIfInBounds_toArray, List.set_cons_zero, List.set_cons_succ]
      refine wpSink_take (i := 11) (v := .pointer (some ⟨R, 0, none⟩)) rfl (by kernel_rfl) (by kernel_rfl) (by kernel_rfl) (by kernel_rfl) (fun _ _ _ h => h) (Or.inl ⟨by kernel_rfl, ?_⟩) (by assumption) ?_
      · intro W' hSw
        go_simp
      simp only [List.getElem_toArray, List.getElem_cons_zero, List.getElem_cons_succ, Act.put, List.setIfInBounds_toArray, List.set_cons_zero, List.set_cons_succ]
      refine wpSink_take (i := 12) (v := .pointer (some ⟨R, 0, none⟩)) rfl (by kernel_rfl) (by kernel_rfl) (by kernel_rfl) (by kernel_rfl) (fun _ _ _ h => h) (Or.inl ⟨by kernel_rfl, ?_⟩) (by assumption) ?_
      · intro W' hSw
        go_simp
      simp only [List.getElem_toArray, List.getElem_cons_zero, List.getElem_cons_succ, Act.put, List.setIfInBounds_toArray, List.set_cons_zero, List.set_cons_succ]
      refine wpSink_take (i := 13) (v := .pointer (some ⟨R, 2, none⟩)) rfl (by kernel_rfl) (by kernel_rfl) (by kernel_rfl) (by kernel_rfl) (fun _ _ _ h => h) (Or.inl ⟨by kernel_rfl, ?_⟩) (by assumption) ?_
      · intro W' hSw
        go_simp
      simp only [List.getElem_toArray, List.getElem_cons_zero, List.getElem_cons_succ, Act.put, List.setIfInBounds_toArray, List.set_cons_zero, List.set_cons_succ]
      refine wpSink_take (i := 14) (v := .int .i64 k) rfl (by kernel_rfl) (by kernel_rfl) (by kernel_rfl) (by kernel_rfl) (fun _ _ _ h => h) (Or.inl ⟨by kernel_rfl, ?_⟩) (by assumption) ?_
      · intro W' hSw
        have e := hSw (R, 2, .int .i64 k) (by simp)
        simp only at e
        go_simp
      simp only [List.getElem_toArray, List.getElem_cons_zero, List.getElem_cons_succ, Act.put, List.setIfInBounds_toArray, List.set_cons_zero, List.set_cons_succ]
      refine wpSink_take (i := 15) (v := .int .i64 ((k : Int) + 1)) rfl (by kernel_rfl) (by kernel_rfl) (by kernel_rfl) (by kernel_rfl) (fun _ _ _ h => h) (Or.inl ⟨by kernel_rfl, ?_⟩) (by assumption) ?_
      · intro W' hSw
        go_simp
      simp only [List.getElem_toArray, List.getElem_cons_zero, List.getElem_cons_succ, Act.put, List.setIfInBounds_toArray, List.set_cons_zero, List.set_cons_succ]
      refine wpSink_take (i := 16) (v := .pointer (some ⟨R, 0, none⟩)) rfl (by kernel_rfl) (by kernel_rfl) (by kernel_rfl) (by kernel_rfl) (fun _ _ _ h => h) (Or.inl ⟨by kernel_rfl, ?_⟩) (by assumption) ?_
      · intro W' hSw
        go_simp
      simp only [List.getElem_toArray, List.getElem_cons_zero, List.getElem_cons_succ, Act.put, List.setIfInBounds_toArray, List.set_cons_zero, List.set_cons_succ]
      refine wpSink_take (i := 17) (v := .pointer (some ⟨R, 0, none⟩)) rfl (by kernel_rfl) (by kernel_rfl) (by kernel_rfl) (by kernel_rfl) (fun _ _ _ h => h) (Or.inl ⟨by kernel_rfl, ?_⟩) (by assumption) ?_
      · intro W' hSw
        go_simp
      simp only [List.getElem_toArray, List.getElem_cons_zero, List.getElem_cons_succ, Act.put, List.setIfInBounds_toArray, List.set_cons_zero, List.set_cons_succ]
      refine wpSink_take (i := 18) (v := .pointer (some ⟨R, 2, none⟩)) rfl (by kernel_rfl) (by kernel_rfl) (by kernel_rfl) (by kernel_rfl) (fun _ _ _ h => h) (Or.inl ⟨by kernel_rfl, ?_⟩) (by assumption) ?_
      · intro W' hSw
        go_simp
      simp only [List.getElem_toArray, List.getElem_cons_zero, List.getElem_cons_succ, Act.put, List.setIfInBounds_toArray, List.set_cons_zero, List.set_cons_succ]
      refine wpSink_take (i := 19) (v := .int .i64 k) rfl (by kernel_rfl) (by kernel_rfl) (by kernel_rfl) (by kernel_rfl) (fun _ _ _ h => h) (Or.inl ⟨by kernel_rfl, ?_⟩) (by assumption) ?_
      · intro W' hSw
        have e := hSw (R, 2, .int .i64 k) (by simp)
        simp only at e
        go_simp
      simp only [List.getElem_toArray, List.getElem_cons_zero, List.getElem_cons_succ, Act.put, List.setIfInBounds_toArray, List.set_cons_zero, List.set_cons_succ]
      refine wpSink_take (i := 20) (v := .int .i64 ((k : Int) + 1)) rfl (by kernel_rfl) (by kernel_rfl) (by kernel_rfl) (by kernel_rfl) (fun _ _ _ h => h) (Or.inl ⟨by kernel_rfl, ?_⟩) (by assumption) ?_
      · intro W' hSw
        go_simp
      simp only [List.getElem_toArray, List.getElem_cons_zero, List.getElem_cons_succ, Act.put, List.setIfInBounds_toArray, List.set_cons_zero, List.set_cons_succ]
      refine wpSink_take (i := 21) (v := .int .i64 (m : Nat)) rfl (by kernel_rfl) (by kernel_rfl) (by kernel_rfl) (by kernel_rfl) (fun _ _ _ h => h) (Or.inl ⟨by kernel_rfl, ?_⟩) (by assumption) ?_
      · intro W' hSw
        go_simp
      simp only [List.getElem_toArray, List.getElem_cons_zero, List.getElem_cons_succ, Act.put, List.setIfInBounds_toArray, List.set_cons_zero, List.set_cons_succ]
      refine wpSink_take (i := 22) (v := .int .i64 ((k : Int) + 1 + (m : Int))) rfl (by kernel_rfl) (by kernel_rfl) (by kernel_rfl) (by kernel_rfl) (fun _ _ _ h => h) (Or.inl ⟨by kernel_rfl, ?_⟩) (by assumption) ?_
      · intro W' hSw
        go_simp
      simp only [List.getElem_toArray, List.getElem_cons_zero, List.getElem_cons_succ, Act.put, List.setIfInBounds_toArray, List.set_cons_zero, List.set_cons_succ]
      refine wpSink_take (i := 23) (v := .slice (some ⟨b, off + (k + 1), none⟩) m (wc - (k + 1))) rfl (by kernel_rfl) (by kernel_rfl) (by kernel_rfl) (by kernel_rfl) (fun _ _ _ h => h) (Or.inl ⟨by kernel_rfl, ?_⟩) (by assumption) ?_
      · intro W' hSw
        go_simp
        all_goals omega
      simp only [List.getElem_toArray, List.getElem_cons_zero, List.getElem_cons_succ, Act.put, List.setIfInBounds_toArray, List.set_cons_zero, List.set_cons_succ]
      refine wpSink_step (i := 24) (by kernel_rfl) rfl (fun K hK => ?_)
      simp only [List.getElem_toArray, List.getElem_cons_zero, List.getElem_cons_succ]
      go_simp
      refine (HCL.out _ (Below.refl _ _)).mono ?_
      rintro e w2 ⟨⟨A, c', rfl, hsafe⟩, hb⟩
      have HB2 := Lib.hid (below_then HB1.out.1 HB1.out.1.size hb)
      have HZ2 : Hid (W.heap.size + 1 ≤ w2.heap.size) := Lib.hid (by have := HB1.out.2; have := hb.size; omega)
      have hS1 := hS0.below hb
      have HSF := Lib.hid (hsafe R v.ownBlock (by have := HB1.out.2; omega) (fun g e => by have := (HNE.out.1 g e).2; have := HB1.out.2; omega))
      refine hK.out _ _ (fun _ => hS1) ?_
      clear hK K hS0 hsafe hb
      try rw [HVL.out]
      refine wpSink_take (i := 25) (v := .agg #[.string (mk l), .slice A m c']) rfl (by kernel_rfl) (by kernel_rfl) (by kernel_rfl) (by kernel_rfl) (fun _ _ _ h => h) (Or.inl ⟨by kernel_rfl, ?_⟩) (by assumption) ?_
      · intro W' hSw
        go_simp
      simp only [List.getElem_toArray, List.getElem_cons_zero, List.getElem_cons_succ, Act.put, List.setIfInBounds_toArray, List.set_cons_zero, List.set_cons_succ]
      refine wpSink_step (i := 26) (by kernel_rfl) rfl (fun K hK => ?_)
      simp only [List.getElem_toArray, List.getElem_cons_zero, List.getElem_cons_succ]
      go_simp
      have hS2 := hS1.alloc (.cells #[.string (mk l), .slice A m c'] 108)
      refine hK.out _ _ (fun _ => hS2) ?_
      clear hK K hS1
      refine wpSink_step (i := 27) (by kernel_rfl) rfl (fun K hK => ?_)
      simp only [List.getElem_toArray, List.getElem_cons_zero, List.getElem_cons_succ]
      rw [if_pos (by kernel_rfl)]
      refine wp_append_item (W0 := W) _ _ rfl base R v items rfl HH.out.out (HB2.out.alloc (by have := HZ2.out; omega) _) hbase hitl w2.heap.size rfl ⟨l, vals⟩ A c' (0, 0) (by show _ = some (Obj.cells #[.string (mk l), .slice A vals.length c'] 108 (0, 0)); rw [HVL.out]; exact heap_alloc_new _ _) (by have := HZ2.out; simp; omega) (HSF.out.keep (Keep.below ((Below.refl _ _).alloc (Nat.le_refl _) _)) (.inl rfl)) (fun g cap w3 o1 g1 e1 => ?_)
      have HBA : Hid (Below W.heap.size W (w2.alloc (.cells #[.string (mk l), .slice A m c'] 108))) := Lib.hid (HB2.out.alloc (by have := HZ2.out; omega) _)
      have HM := Lib.hid (HH.out.more HBA.out o1 g1 e1)
      have HM2 : Hid (w3.cell? ⟨R, 2, none⟩ = some (.int .i64 k) ∧ w3.frozen? ⟨R, 2, none⟩ = false) := Lib.hid (HH.out.at_k HBA.out g1)
      obtain ⟨s1, s2⟩ := HH.out.at_store HBA.out g1
      have hS3 := hS2.grown g1 (by intro c hc; simp only [List.mem_cons, List.not_mem_nil, or_false] at hc; rcases hc with rfl | rfl | rfl | rfl <;> first | exact HNE.out.2.1 | exact HNE.out.2.2)
      refine hK.out _ _ (fun _ => hS3) ?_
      clear hK K hS2 o1 g1 e1
      refine wpSink_step (i := 28) (by kernel_rfl) rfl (fun K hK => ?_)
      simp only [List.getElem_toArray, List.getElem_cons_zero, List.getElem_cons_succ]
      go_simp
      refine hK.out _ _ (fun _ => hS3) ?_
      clear hK K
      refine wpSink_step (i := 29) (by kernel_rfl) rfl (fun K hK => ?_)
      simp only [List.getElem_toArray, List.getElem_cons_zero, List.getElem_cons_succ]
      go_simp
      refine hK.out _ _ (fun _ => hS3) ?_
      clear hK K
      refine wpSink_step (i := 30) (by kernel_rfl) rfl (fun K hK => ?_)
      simp only [List.getElem_toArray, List.getElem_cons_zero, List.getElem_cons_succ]
      go_simp
      refine hK.out _ _ (fun h => absurd rfl h) ?_
      clear hK K
      refine wpSink_done (by kernel_rfl) ?_ _
      obtain ⟨q1, q2⟩ := HM2.out
      clear s1 s2 hS3
      go_wp2_with fail
      go_ret
      obtain rfl := HPU.out
      exact ⟨rfl, by have := HM.out.setAt (k + m); rwa [Int.natCast_add] at this⟩
  · have hd1 : decide ((n : Int) - (k : Int) - 1 < (m : Int)) = true := by simp; omega
    rw [if_neg hgt] at HPU
    go_enter Try.func135, Try.ntmps135
    go_wp2_with fail
    go_quiet (fail)
    go_wp2_with fail
    go_ret
    obtain rfl := HPU.out
    exact ⟨rfl, Keep.below (below_drewN hBel.out _)⟩
end Go.Proofs.Ytmjggjccmbiheaa
