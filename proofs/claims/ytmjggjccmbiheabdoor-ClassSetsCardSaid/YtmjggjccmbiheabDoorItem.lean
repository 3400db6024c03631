/- The reader's item, step by step. -/
import Derived.Test.YtmjggjccmbiheabDoorRSpan
namespace Go.Proofs.YtmjggjccmbiheabDoor
open Go Go.RowKit Go.Proofs
attribute [local go_sem] mk_list mk_size mk_data

/-- What next gives at a place. -/
def NextIs (s : Tx) (p q : Nat) (v : Value) : Prop := ∀ (f : Nat → Bool) (R : Nat) (w : World), ReadAt w R s p f → Calls Tryd.prog 38 #[.pointer (some ⟨R, 0, none⟩)] w fun e w' => e = .returned (.tuple #[v, .int .i64 0]) ∧ ReadAt w' R s q f ∧ Keep R R w w'
def SpanIs (s : Tx) (p : Nat) (b : Bool) : Prop := ∀ (f : Nat → Bool) (R : Nat) (w : World), ReadAt w R s p f → Calls Tryd.prog 39 #[.pointer (some ⟨R, 0, none⟩)] w fun e w' => e = .returned (.bool b) ∧ ReadAt w' R s p f ∧ Keep R R w w'
def AddIs : Prop := ∀ (s : Tx) (p : Nat) (f : Nat → Bool) (R : Nat) (w : World) (a b : Nat), b < 256 → ReadAt w R s p f → Calls Tryd.prog 18 #[.pointer (some ⟨R, 2, none⟩), .int .i64 a, .int .i64 b] w fun e w' => e = .returned (.tuple #[]) ∧ ReadAt w' R s p (fun i => f i || spanB a b i) ∧ Keep R R w w'
theorem add_is : AddIs := fun s p f R w a b hb h => class_add R 2 (rc s p) f 53 a b w h rfl hb
def JoinIs : Prop := ∀ (s : Tx) (p : Nat) (f : Nat → Bool) (R : Nat) (w : World) (t : Tx), t.length ≤ 1000000 → ReadAt w R s p f → Calls Tryd.prog 22 #[.pointer (some ⟨R, 2, none⟩), .string (mk t)] w fun e w' => e = .returned (.tuple #[]) ∧ ReadAt w' R s p (fun i => f i || hasT t i) ∧ Keep R R w w'
theorem join_is : JoinIs := fun s p f R w t ht h => class_join R 2 (rc s p) f 53 t w h rfl (by omega)
/-- The reader, as a call goes on: what was there is as it was. -/
structure IX (W w : World) (R : Nat) (s : Tx) (p : Nat) (f : Nat → Bool) : Prop where
  read : ReadAt w R s p f
  keep : Keep R R W w
  old : R < W.heap.size
structure Own (W w : World) (A : Nat) (cs : Array Value) : Prop where
  own : w.heap[A]? = some (.cells cs 63)
  fresh : W.heap.size ≤ A
section
variable {W w w' : World} {R A X : Nat} {s : Tx} {p q : Nat} {f g : Nat → Bool} {cs : Array Value}
theorem IX.to (h : IX W w R s p f) (hr : ReadAt w' R s q g) (hk : Keep R R w w') : IX W w' R s q g := ⟨hr, h.keep.trans hk, h.old⟩
theorem IX.alloc (h : IX W w R s p f) (o : Obj) : IX W (w.alloc o) R s p f := ⟨heap_stay h.read _, h.keep.trans (Keep.below ((Below.refl _ _).alloc (Nat.le_refl _) _)), h.old⟩
theorem IX.drew (h : IX W w R s p f) : IX W w.drew R s p f := ⟨h.read, h.keep.trans (Keep.below (below_drewN (Below.refl _ _) 1)), h.old⟩
theorem IX.step (h : IX W w R s p f) {v : Int} (hv : v = q) : IX W (w.setCell ⟨R, 1, none⟩ (.int .i64 v)) R s q f := h.to (h.read.step hv).1 (h.read.step hv).2
theorem IX.own (h : IX W w R s p f) (hA : W.heap.size ≤ A) (o : Nat) (u : Value) : IX W (w.setCell ⟨A, o, none⟩ u) R s p f := by
  have k : Keep A A w (w.setCell ⟨A, o, none⟩ u) := Keep.setR o u
  have hne : R ≠ A := by have := h.old; omega
  refine ⟨h.read.keep k hne hne, ⟨k.os.trans h.keep.os, k.tape.trans h.keep.tape, k.output.trans h.keep.output, Nat.le_trans h.keep.size k.size, fun j hj h1 h2 => ?_⟩, h.old⟩
  rw [k.block j (Nat.lt_of_lt_of_le hj h.keep.size) (by omega) (by omega), h.keep.block j hj h1 h2]
theorem Own.to (h : Own W w A cs) (hi : IX W w R s p f) (hk : Keep R R w w') : Own W w' A cs := ⟨(hk.block _ (blk_lt h.own) (by have := h.fresh; have := hi.old; omega) (by have := h.fresh; have := hi.old; omega)).trans h.own, h.fresh⟩
theorem Own.new (hs : W.heap.size ≤ w.heap.size) (cs : Array Value) : Own W (w.alloc (.cells cs 63)) w.heap.size cs := ⟨heap_alloc_new _ _, hs⟩
theorem Own.alloc (h : Own W w A cs) (o : Obj) : Own W (w.alloc o) A cs := ⟨heap_stay h.own _, h.fresh⟩
theorem Own.set (h : Own W w A cs) (o : Nat) (u : Value) : Own W (w.setCell ⟨A, o, none⟩ u) A (cs.setIfInBounds o u) := ⟨heap_setCell_at h.own o u, h.fresh⟩
theorem Own.other (h : Own W w A cs) (hne : A ≠ X) (o : Nat) (u : Value) : Own W (w.setCell ⟨X, o, none⟩ u) A cs := ⟨((Keep.setR (R := X) (B := X) o u).block _ (blk_lt h.own) hne hne).trans h.own, h.fresh⟩
theorem Own.drew (h : Own W w A cs) : Own W w.drew A cs := ⟨h.own, h.fresh⟩
theorem Own.cells {a b : Value} (h : Own W w A #[a, b]) : w.cell? ⟨A, 0, none⟩ = some a ∧ w.cell? ⟨A, 1, none⟩ = some b ∧ w.frozen? ⟨A, 0, none⟩ = false ∧ w.frozen? ⟨A, 1, none⟩ = false ∧ A < w.heap.size := by
  have e0 := blk_cell h.own 0
  have e1 := blk_cell h.own 1
  simp only [List.getElem?_toArray, List.getElem?_cons_zero, List.getElem?_cons_succ] at e0 e1
  exact ⟨e0, e1, blk_frozen h.own 0, blk_frozen h.own 1, blk_lt h.own⟩
end
set_option maxRecDepth 100000 in
set_option maxHeartbeats 4000000 in
theorem class_item_set (s : Tx) (p q : Nat) (T : Tx) (HN : NextIs s p q (.agg #[.int .u8 0, .string (mk T)])) (HS : SpanIs s q false) (hT : T ≠ []) (hTl : T.length ≤ 1000000) (f : Nat → Bool) (R : Nat) (W : World) (h : ReadAt W R s p f) :
    Calls Tryd.prog 28 #[.pointer (some ⟨R, 0, none⟩)] W fun e w' => e = .returned (.int .i64 0) ∧ ReadAt w' R s q (fun i => f i || hasT T i) ∧ Keep R R W w' := by
  have e0 : (⟨#[]⟩ : ByteArray) = mk [] := rfl
  have H1 : Hid (IX W W R s p f) := Lib.hid ⟨h, Keep.refl _ _ _, blk_lt h⟩
  have HJ := Lib.hid join_is
  have HC := Lib.hid (And.intro HN HS)
  have hTe : (T == []) = false := by simpa using hT
  clear h HN HS
  go_enter Tryd.func28, Tryd.ntmps28
  simp only [e0]
  clear e0
  go_wp2_with fail
  refine (HC.out.1 f R _ H1.out.read).mono ?_
  rintro e w1 ⟨rfl, hr, hk⟩
  have H2 := Lib.hid (H1.out.to hr hk)
  clear hr hk H1
  have a0 := cellA_new w1 #[.int .u8 0, .string ⟨#[]⟩] 63 0
  have a1 := cellA_new w1 #[.int .u8 0, .string ⟨#[]⟩] 63 1
  have b0 := frozenA_new w1 #[.int .u8 0, .string ⟨#[]⟩] 63 0
  have b1 := frozenA_new w1 #[.int .u8 0, .string ⟨#[]⟩] 63 1
  simp only [List.getElem?_toArray, List.getElem?_cons_zero, List.getElem?_cons_succ] at a0 a1
  have hlA : w1.heap.size < (w1.alloc (.cells #[.int .u8 0, .string ⟨#[]⟩] 63)).heap.size := by simp
  go_wp2_with fail
  have H3 : Hid (IX W (w1.alloc (.cells #[.int .u8 0, .string (mk T)] 63)) R s q f ∧ Own W (w1.alloc (.cells #[.int .u8 0, .string (mk T)] 63)) w1.heap.size #[.int .u8 0, .string (mk T)]) := Lib.hid ⟨H2.out.alloc _, Own.new H2.out.keep.size _⟩
  clear a0 a1 b0 b1 hlA H2
  generalize World.alloc _ _ = w2 at H3 ⊢
  obtain ⟨A, hA⟩ : ∃ A, w1.heap.size = A := ⟨_, rfl⟩
  rw [hA] at H3 ⊢
  refine (HC.out.2 f R _ H3.out.1.read).mono ?_
  rintro e w3 ⟨rfl, hr, hk⟩
  have H4 : Hid (IX W w3 R s q f ∧ Own W w3 A #[.int .u8 0, .string (mk T)]) := Lib.hid ⟨H3.out.1.to hr hk, H3.out.2.to H3.out.1 hk⟩
  clear hr hk H3 hA
  obtain ⟨a0, a1, b0, b1, hlA⟩ := H4.out.2.cells
  have hJ : Hid (Calls Tryd.prog 22 #[.pointer (some ⟨R, 2, none⟩), .string (mk T)] w3.drew fun e w' => e = .returned (.tuple #[]) ∧ ReadAt w' R s q (fun i => f i || hasT T i) ∧ Keep R R w3.drew w' ∧ w'.cell? ⟨A, 1, none⟩ = some (.string (mk T))) := Lib.hid ((HJ.out s q f R w3.drew T hTl H4.out.1.drew.read).mono (by
    rintro e w' ⟨rfl, hr, hk⟩
    exact ⟨rfl, hr, hk, (H4.out.2.drew.to H4.out.1.drew hk).cells.2.1⟩))
  go_wp2_with fail
  go_region_held3 (fun w' => w'.cell? ⟨A, 1, none⟩ = some (.string (mk T))) (first | assumption | go_keep) (first | (go_at_call 22; refine hJ.out.mono ?_; rintro e w' ⟨rfl, hr, hk, hc⟩))
  have HF := Lib.hid (And.intro hr (H4.out.1.drew.keep.trans hk))
  clear hr hk a0 a1 b0 b1 hlA
  go_wp2_with fail
  go_ret
  exact ⟨rfl, HF.out⟩
set_option maxRecDepth 100000 in
set_option maxHeartbeats 4000000 in
theorem class_item_span (s : Tx) (p q r : Nat) (a b : Nat) (HN : NextIs s p q (.agg #[.int .u8 a, .string ⟨#[]⟩])) (HS : SpanIs s q true) (HN2 : NextIs s (q + 1) r (.agg #[.int .u8 b, .string ⟨#[]⟩])) (hab : a ≤ b) (hb : b < 256) (hq : q ≤ 1000000) (f : Nat → Bool) (R : Nat) (W : World) (h : ReadAt W R s p f) :
    Calls Tryd.prog 28 #[.pointer (some ⟨R, 0, none⟩)] W fun e w' => e = .returned (.int .i64 0) ∧ ReadAt w' R s r (fun i => f i || spanB a b i) ∧ Keep R R W w' := by
  have H1 : Hid (IX W W R s p f) := Lib.hid ⟨h, Keep.refl _ _ _, blk_lt h⟩
  have HA := Lib.hid add_is
  have HC := Lib.hid (And.intro HN (And.intro HS HN2))
  have ha : a < 256 := by omega
  have ha0 : (0 : Int) ≤ a := by omega
  have ha1 : (a : Int) < 256 := by omega
  have hb0 : (0 : Int) ≤ b := by omega
  have hb1 : (b : Int) < 256 := by omega
  have hab' : ¬ (b : Int) < (a : Int) := by omega
  clear h HN HS HN2
  go_enter Tryd.func28, Tryd.ntmps28
  go_wp2_with fail
  refine (HC.out.1 f R _ H1.out.read).mono ?_
  rintro e w1 ⟨rfl, hr, hk⟩
  have H2 := Lib.hid (H1.out.to hr hk)
  clear hr hk H1
  have a0 := cellA_new w1 #[.int .u8 0, .string ⟨#[]⟩] 63 0
  have a1 := cellA_new w1 #[.int .u8 0, .string ⟨#[]⟩] 63 1
  have b0 := frozenA_new w1 #[.int .u8 0, .string ⟨#[]⟩] 63 0
  have b1 := frozenA_new w1 #[.int .u8 0, .string ⟨#[]⟩] 63 1
  simp only [List.getElem?_toArray, List.getElem?_cons_zero, List.getElem?_cons_succ] at a0 a1
  have hlA : w1.heap.size < (w1.alloc (.cells #[.int .u8 0, .string ⟨#[]⟩] 63)).heap.size := by simp
  go_wp2_with fail
  have H3 : Hid (IX W (w1.alloc (.cells #[.int .u8 a, .string ⟨#[]⟩] 63)) R s q f ∧ Own W (w1.alloc (.cells #[.int .u8 a, .string ⟨#[]⟩] 63)) w1.heap.size #[.int .u8 a, .string ⟨#[]⟩]) := Lib.hid ⟨H2.out.alloc _, Own.new H2.out.keep.size _⟩
  clear a0 a1 b0 b1 hlA H2
  generalize World.alloc _ _ = w2 at H3 ⊢
  obtain ⟨A, hA⟩ : ∃ A, w1.heap.size = A := ⟨_, rfl⟩
  rw [hA] at H3 ⊢
  refine (HC.out.2.1 f R _ H3.out.1.read).mono ?_
  rintro e w3 ⟨rfl, hr, hk⟩
  have H4 : Hid (IX W w3 R s q f ∧ Own W w3 A #[.int .u8 a, .string ⟨#[]⟩]) := Lib.hid ⟨H3.out.1.to hr hk, H3.out.2.to H3.out.1 hk⟩
  clear hr hk H3 hA
  obtain ⟨a0, a1, b0, b1, hlA⟩ := H4.out.2.cells
  obtain ⟨c0, c1, q0, q1, hlt⟩ := H4.out.1.read.cells
  go_wp2_with fail
  have H5 : Hid (IX W (w3.setCell ⟨R, 1, none⟩ (.int .i64 ((q : Int) + 1))) R s (q + 1) f ∧ Own W (w3.setCell ⟨R, 1, none⟩ (.int .i64 ((q : Int) + 1))) A #[.int .u8 a, .string ⟨#[]⟩]) := Lib.hid ⟨H4.out.1.step (by omega), H4.out.2.other (by have := H4.out.1.old; have := H4.out.2.fresh; omega) _ _⟩
  clear a0 a1 b0 b1 hlA c0 c1 q0 q1 hlt H4
  generalize World.setCell _ _ _ = w5 at H5 ⊢
  refine (HC.out.2.2 f R _ H5.out.1.read).mono ?_
  rintro e w6 ⟨rfl, hr, hk⟩
  have H6 : Hid (IX W w6 R s r f ∧ Own W w6 A #[.int .u8 a, .string ⟨#[]⟩]) := Lib.hid ⟨H5.out.1.to hr hk, H5.out.2.to H5.out.1 hk⟩
  clear hr hk H5
  have a0 := cellA_new w6 #[.int .u8 0, .string ⟨#[]⟩] 63 0
  have a1 := cellA_new w6 #[.int .u8 0, .string ⟨#[]⟩] 63 1
  have b0 := frozenA_new w6 #[.int .u8 0, .string ⟨#[]⟩] 63 0
  have b1 := frozenA_new w6 #[.int .u8 0, .string ⟨#[]⟩] 63 1
  simp only [List.getElem?_toArray, List.getElem?_cons_zero, List.getElem?_cons_succ] at a0 a1
  have hlA : w6.heap.size < (w6.alloc (.cells #[.int .u8 0, .string ⟨#[]⟩] 63)).heap.size := by simp
  have HAB : Hid (Own W (w6.alloc (.cells #[.int .u8 b, .string ⟨#[]⟩] 63)) A #[.int .u8 a, .string ⟨#[]⟩] ∧ Own W (w6.alloc (.cells #[.int .u8 b, .string ⟨#[]⟩] 63)) w6.heap.size #[.int .u8 b, .string ⟨#[]⟩] ∧ IX W (w6.alloc (.cells #[.int .u8 b, .string ⟨#[]⟩] 63)) R s r f) := Lib.hid ⟨H6.out.2.alloc _, Own.new H6.out.1.keep.size _, H6.out.1.alloc _⟩
  obtain ⟨u0, u1, v0, v1, hlU⟩ := HAB.out.1.cells
  obtain ⟨x0, x1, y0, y1, hlX⟩ := HAB.out.2.1.cells
  clear y0 y1 v0 v1 u1
  obtain ⟨B, hB⟩ : ∃ B, w6.heap.size = B := ⟨_, rfl⟩
  go_wp2_with fail
  have H7 := HAB
  clear a0 a1 b0 b1 hlA u0 hlU x0 x1 hlX HAB H6
  rw [hB] at H7
  generalize World.alloc _ _ = w7 at H7 ⊢
  obtain ⟨u0, u1, v0, v1, hlU⟩ := H7.out.1.cells
  obtain ⟨x0, x1, y0, y1, hlX⟩ := H7.out.2.1.cells
  have hA' : Hid (Calls Tryd.prog 18 #[.pointer (some ⟨R, 2, none⟩), .int .i64 a, .int .i64 b] w7.drew fun e w' => e = .returned (.tuple #[]) ∧ ReadAt w' R s r (fun i => f i || spanB a b i) ∧ Keep R R w7.drew w' ∧ w'.cell? ⟨A, 0, none⟩ = some (.int .u8 a) ∧ w'.cell? ⟨B, 0, none⟩ = some (.int .u8 b)) := Lib.hid ((HA.out s r f R w7.drew a b hb H7.out.2.2.drew.read).mono (by
    rintro e w' ⟨rfl, hr, hk⟩
    exact ⟨rfl, hr, hk, (H7.out.1.drew.to H7.out.2.2.drew hk).cells.1, (H7.out.2.1.drew.to H7.out.2.2.drew hk).cells.1⟩))
  have hwa : IntKind.i64.wrap (a : Int) = a := IntWalk.i64_in _ (by omega)
  have hwb : IntKind.i64.wrap (b : Int) = b := IntWalk.i64_in _ (by omega)
  go_region_held3 (fun w' => w'.cell? ⟨A, 0, none⟩ = some (.int .u8 a) ∧ w'.cell? ⟨B, 0, none⟩ = some (.int .u8 b)) (first | exact ⟨by assumption, by assumption⟩ | go_keep) (first | (go_at_call 18; refine hA'.out.mono ?_; rintro e w' ⟨rfl, hr, hk, hc, hd⟩))
  have HF := Lib.hid (And.intro hr (H7.out.2.2.drew.keep.trans hk))
  clear hr hk u0 u1 v0 v1 hlU x0 x1 y0 y1 hlX
  go_wp2_with fail
  go_ret
  exact ⟨rfl, HF.out⟩
end Go.Proofs.YtmjggjccmbiheabDoor
