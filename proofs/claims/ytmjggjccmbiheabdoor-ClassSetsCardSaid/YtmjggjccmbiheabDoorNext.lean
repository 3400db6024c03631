/- The reader's next, step by step. -/
import Derived.Test.YtmjggjccmbiheabDoorNamed2
namespace Go.Proofs.YtmjggjccmbiheabDoor
open Go Go.RowKit Go.Proofs
attribute [local go_sem] mk_list mk_size mk_data

/-- A reader: a text, a place, a set. -/
abbrev rc (s : Tx) (p : Nat) : List Value := [.string (mk s), .int .i64 p]
def ReadAt (W : World) (R : Nat) (s : Tx) (p : Nat) (f : Nat → Bool) : Prop := W.heap[R]? = some (.cells (pb (rc s p) f) 53)
theorem ReadAt.cells {W : World} {R : Nat} {s : Tx} {p : Nat} {f : Nat → Bool} (h : ReadAt W R s p f) : W.cell? ⟨R, 0, none⟩ = some (.string (mk s)) ∧ W.cell? ⟨R, 1, none⟩ = some (.int .i64 p) ∧ W.frozen? ⟨R, 0, none⟩ = false ∧ W.frozen? ⟨R, 1, none⟩ = false ∧ R < W.heap.size := by
  refine ⟨?_, ?_, blk_frozen h 0, blk_frozen h 1, blk_lt h⟩
  · rw [blk_cell h, pb_pre _ _ (by simp)]; rfl
  · rw [blk_cell h, pb_pre _ _ (by simp)]; rfl
theorem ReadAt.step {W : World} {R : Nat} {s : Tx} {p q : Nat} {f : Nat → Bool} (h : ReadAt W R s p f) {v : Int} (hv : v = q) : ReadAt (W.setCell ⟨R, 1, none⟩ (.int .i64 v)) R s q f ∧ Keep R R W (W.setCell ⟨R, 1, none⟩ (.int .i64 v)) := by
  refine ⟨?_, Keep.setR _ _⟩
  subst hv
  unfold ReadAt
  rw [heap_setCell_at h]
  unfold pb
  rw [List.setIfInBounds_toArray]
  rfl
theorem ReadAt.keep {W W' : World} {R : Nat} {s : Tx} {p : Nat} {f : Nat → Bool} (h : ReadAt W R s p f) {X Y : Nat} (k : Keep X Y W W') (h1 : R ≠ X) (h2 : R ≠ Y) : ReadAt W' R s p f := (k.block _ (blk_lt h) h1 h2).trans h
theorem results_cell_tmp {fn : Func} {p u : Tmp} {ty : TypeId} (h : fn.results = #[.cell p ty, .tmp u]) (tmps : Array Value) (P : Program) (w : World) :
    (results fn tmps).run P w = ((asAddr (tmps.getD p undef)).run P w).andThen fun a w₁ => ((loadVar ty a).run P w₁).andThen fun v w₂ => .ok (.tuple #[v, tmps.getD u undef]) w₂ := by
  simp only [results, h]
  simp [Sem.run_bind]
/-- The reader, and a struct of its own at block B. -/
structure NX (W w : World) (R B : Nat) (s : Tx) (p : Nat) (f : Nat → Bool) (cs : Array Value) : Prop where
  read : ReadAt w R s p f
  own : w.heap[B]? = some (.cells cs 63)
  keep : Keep R R W w
  fresh : B = W.heap.size
  old : R < W.heap.size
section
variable {W w : World} {R B : Nat} {s : Tx} {p q : Nat} {f : Nat → Bool} {cs : Array Value}
theorem NX.new (h : ReadAt W R s p f) : NX W (W.alloc (.cells #[.int .u8 0, .string ⟨#[]⟩] 63)) R W.heap.size s p f #[.int .u8 0, .string ⟨#[]⟩] :=
  ⟨heap_stay h _, heap_alloc_new _ _, Keep.below ((Below.refl _ _).alloc (Nat.le_refl _) _), rfl, blk_lt h⟩
theorem NX.below {w' : World} (h : NX W w R B s p f cs) (hb : Below w.heap.size w w') : NX W w' R B s p f cs := ⟨(hb.block _ (blk_lt h.read)).trans h.read, (hb.block _ (blk_lt h.own)).trans h.own, h.keep.trans (Keep.below hb), h.fresh, h.old⟩
theorem NX.drew (h : NX W w R B s p f cs) : NX W w.drew R B s p f cs := ⟨h.read, h.own, h.keep.trans (Keep.below (below_drewN (Below.refl _ _) 1)), h.fresh, h.old⟩
theorem NX.step (h : NX W w R B s p f cs) {v : Int} (hv : v = q) : NX W (w.setCell ⟨R, 1, none⟩ (.int .i64 v)) R B s q f cs := by
  have h2 := h.read.step hv
  exact ⟨h2.1, (h2.2.block _ (blk_lt h.own) (by have := h.fresh; have := h.old; omega) (by have := h.fresh; have := h.old; omega)).trans h.own, h.keep.trans h2.2, h.fresh, h.old⟩
theorem NX.set (h : NX W w R B s p f cs) (o : Nat) (u : Value) : NX W (w.setCell ⟨B, o, none⟩ u) R B s p f (cs.setIfInBounds o u) := by
  have k : Keep B B w (w.setCell ⟨B, o, none⟩ u) := Keep.setR o u
  have hne : R ≠ B := by have := h.fresh; have := h.old; omega
  refine ⟨h.read.keep k hne hne, heap_setCell_at h.own o u, ?_, h.fresh, h.old⟩
  refine ⟨k.os.trans h.keep.os, k.tape.trans h.keep.tape, k.output.trans h.keep.output, Nat.le_trans h.keep.size k.size, fun j hj h1 h2 => ?_⟩
  rw [k.block j (Nat.lt_of_lt_of_le hj h.keep.size) (by have := h.fresh; omega) (by have := h.fresh; omega), h.keep.block j hj h1 h2]
end
set_option maxRecDepth 100000 in
set_option maxHeartbeats 4000000 in
theorem class_next (s : Tx) (p : Nat) (hp : p < s.length) (f : Nat → Bool) (R : Nat) (W : World) (c : Nat) (hc : (s[p]'hp).toNat = c) (h92 : c ≠ 92) (hs : s.length ≤ 1000000) (h : ReadAt W R s p f) :
    Calls Tryd.prog 38 #[.pointer (some ⟨R, 0, none⟩)] W fun e w' => e = .returned (.tuple #[.agg #[.int .u8 c, .string ⟨#[]⟩], .int .i64 0]) ∧ ReadAt w' R s (p + 1) f ∧ Keep R R W w' := by

  have HR := Lib.hid h
  obtain ⟨n, hn⟩ : ∃ n, s.length = n := ⟨_, rfl⟩
  have hpn : p < n := by omega
  have hnb : n ≤ 1000000 := by omega
  have H1 := Lib.hid (NX.new h)
  obtain ⟨c0, c1, q0, q1, hlt⟩ := H1.out.read.cells
  clear h
  go_enter Tryd.func38, Tryd.ntmps38
  go_wp2_with fail
  go_region_held3 (fun w' => w'.cell? ⟨R, 0, none⟩ = some (.string (mk s)) ∧ w'.cell? ⟨R, 1, none⟩ = some (.int .i64 p)) (first | exact ⟨by assumption, by assumption⟩ | go_keep) (fail)
  have H2 := Lib.hid H1.out.drew
  clear c0 c1 q0 q1 hlt H1
  generalize (World.drew _) = w2 at H2 ⊢
  obtain ⟨c0, c1, q0, q1, hlt⟩ := H2.out.read.cells
  obtain ⟨B, hB⟩ : ∃ B, W.heap.size = B := ⟨_, rfl⟩
  rw [hB] at H2 ⊢
  have hd : ¬ n ≤ p := by omega
  go_wp2_with fail
  go_region_held3 (fun w' => w'.cell? ⟨R, 0, none⟩ = some (.string (mk s)) ∧ w'.cell? ⟨R, 1, none⟩ = some (.int .i64 p)) (first | exact ⟨by assumption, by assumption⟩ | go_keep) (fail)
  have H3 := Lib.hid H2.out.drew
  clear c0 c1 q0 q1 hlt H2
  generalize (World.drew _) = w3 at H3 ⊢
  obtain ⟨c0, c1, q0, q1, hlt⟩ := H3.out.read.cells
  have hix : ∀ hh, ((mk s)[p]'hh).toNat = c := fun _ => hc
  simp only [hix]
  have hne : ¬ B = R := by have := H3.out.fresh; have := H3.out.old; omega
  have hne2 : ¬ R = B := fun e => hne e.symm
  have e0 := blk_cell H3.out.own 0
  have e1 := blk_cell H3.out.own 1
  have z0 := blk_frozen H3.out.own 0
  have z1 := blk_frozen H3.out.own 1
  have hlB := blk_lt H3.out.own
  simp only [List.getElem?_toArray, List.getElem?_cons_zero, List.getElem?_cons_succ] at e0 e1
  have h92' : ((c : Int) == 92) = false := by simp; omega
  go_wp2_with fail
  have HF : Hid (NX W (((w3.setCell ⟨R, 1, none⟩ (.int .i64 ((p : Int) + 1))).setCell ⟨B, 0, none⟩ (.int .u8 c)).setCell ⟨B, 1, none⟩ (.string ⟨#[]⟩)) R B s (p + 1) f #[.int .u8 c, .string ⟨#[]⟩]) := Lib.hid (((H3.out.step (q := p + 1) (by omega)).set 0 _).set 1 _)
  clear c0 c1 q0 q1 e0 e1 z0 z1 hlt hlB H3
  generalize World.setCell _ _ _ = w4 at HF ⊢
  have e0 := blk_cell HF.out.own 0
  have e1 := blk_cell HF.out.own 1
  simp only [List.getElem?_toArray, List.getElem?_cons_zero, List.getElem?_cons_succ] at e0 e1
  refine bodyPost_ret (v := .tuple #[.agg #[.int .u8 c, .string ⟨#[]⟩], .int .i64 0]) ?_ rfl ⟨rfl, HF.out.read, HF.out.keep⟩
  rw [results_cell_tmp rfl]
  go_simp
set_option maxRecDepth 100000 in
set_option maxHeartbeats 4000000 in
theorem class_next_esc (s : Tx) (p : Nat) (hp : p < s.length) (f : Nat → Bool) (R : Nat) (W : World) (hc : (s[p]'hp).toNat = 92) (hp2 : p + 1 < s.length) (d : Nat) (hd : (s[p + 1]'hp2).toNat = d) (T : Tx) (hT : namedT d = (T, true)) (hs : s.length ≤ 1000000) (h : ReadAt W R s p f) :
    Calls Tryd.prog 38 #[.pointer (some ⟨R, 0, none⟩)] W fun e w' => e = .returned (.tuple #[.agg #[.int .u8 0, .string (mk T)], .int .i64 0]) ∧ ReadAt w' R s (p + 2) f ∧ Keep R R W w' := by

  have HR := Lib.hid h
  have hd256 : d < 256 := by rw [← hd]; exact UInt8.toNat_lt _
  have HNM : Hid (∀ w, Calls Tryd.prog 4 #[.int .u8 d] w fun e w' => e = .returned (.tuple #[.string (mk T), .bool true]) ∧ Below w.heap.size w w') := Lib.hid (fun w => by
    have h := class_Named d w hd256
    rw [hT] at h
    exact h)
  obtain ⟨n, hn⟩ : ∃ n, s.length = n := ⟨_, rfl⟩
  have hpn : p < n := by omega
  have hnb : n ≤ 1000000 := by omega
  have H1 := Lib.hid (NX.new h)
  obtain ⟨c0, c1, q0, q1, hlt⟩ := H1.out.read.cells
  clear h
  go_enter Tryd.func38, Tryd.ntmps38
  go_wp2_with fail
  go_region_held3 (fun w' => w'.cell? ⟨R, 0, none⟩ = some (.string (mk s)) ∧ w'.cell? ⟨R, 1, none⟩ = some (.int .i64 p)) (first | exact ⟨by assumption, by assumption⟩ | go_keep) (fail)
  have H2 := Lib.hid H1.out.drew
  clear c0 c1 q0 q1 hlt H1
  generalize (World.drew _) = w2 at H2 ⊢
  obtain ⟨c0, c1, q0, q1, hlt⟩ := H2.out.read.cells
  obtain ⟨B, hB⟩ : ∃ B, W.heap.size = B := ⟨_, rfl⟩
  rw [hB] at H2 ⊢
  have hdn : ¬ n ≤ p := by omega
  go_wp2_with fail
  go_region_held3 (fun w' => w'.cell? ⟨R, 0, none⟩ = some (.string (mk s)) ∧ w'.cell? ⟨R, 1, none⟩ = some (.int .i64 p)) (first | exact ⟨by assumption, by assumption⟩ | go_keep) (fail)
  have H3 := Lib.hid H2.out.drew
  clear c0 c1 q0 q1 hlt H2
  generalize (World.drew _) = w3 at H3 ⊢
  obtain ⟨c0, c1, q0, q1, hlt⟩ := H3.out.read.cells
  have hix : ∀ hh, ((mk s)[p]'hh).toNat = 92 := fun _ => hc
  simp only [hix]
  have hne : ¬ B = R := by have := H3.out.fresh; have := H3.out.old; omega
  have hne2 : ¬ R = B := fun e => hne e.symm
  have e0 := blk_cell H3.out.own 0
  have e1 := blk_cell H3.out.own 1
  have z0 := blk_frozen H3.out.own 0
  have z1 := blk_frozen H3.out.own 1
  have hlB := blk_lt H3.out.own
  simp only [List.getElem?_toArray, List.getElem?_cons_zero, List.getElem?_cons_succ] at e0 e1
  go_wp2_with fail
  have H4 := Lib.hid (H3.out.step (v := (p : Int) + 1) (q := p + 1) (by omega))
  clear c0 c1 q0 q1 e0 e1 z0 z1 hlt hlB H3
  generalize World.setCell _ _ _ = w4 at H4 ⊢
  obtain ⟨q, hq⟩ : ∃ q, p + 1 = q := ⟨_, rfl⟩
  simp only [hq] at H4
  have hqn : q < n := by omega
  have hdq : ¬ n ≤ q := by omega
  have hqz : q < (mk s).size := by rw [mk_size]; omega
  obtain ⟨c0, c1, q0, q1, hlt⟩ := H4.out.read.cells
  go_region_held3 (fun w' => w'.cell? ⟨R, 0, none⟩ = some (.string (mk s)) ∧ w'.cell? ⟨R, 1, none⟩ = some (.int .i64 q)) (first | exact ⟨by assumption, by assumption⟩ | go_keep) (fail)
  have H5 := Lib.hid H4.out.drew
  clear c0 c1 q0 q1 hlt H4
  generalize (World.drew _) = w5 at H5 ⊢
  obtain ⟨c0, c1, q0, q1, hlt⟩ := H5.out.read.cells
  go_wp2_with fail
  go_region_held3 (fun w' => w'.cell? ⟨R, 0, none⟩ = some (.string (mk s)) ∧ w'.cell? ⟨R, 1, none⟩ = some (.int .i64 q)) (first | exact ⟨by assumption, by assumption⟩ | go_keep) (fail)
  have H6 := Lib.hid H5.out.drew
  clear c0 c1 q0 q1 hlt H5
  generalize (World.drew _) = w6 at H6 ⊢
  obtain ⟨c0, c1, q0, q1, hlt⟩ := H6.out.read.cells
  have hix2 : ∀ hh, ((mk s)[q]'hh).toNat = d := fun _ => by subst hq; exact hd
  simp only [hix2]
  go_wp2_with fail
  have H7 := Lib.hid (H6.out.step (v := (q : Int) + 1) (q := p + 2) (by omega))
  clear c0 c1 q0 q1 hlt H6
  generalize World.setCell _ _ _ = w7 at H7 ⊢
  refine (HNM.out _).mono ?_
  rintro e w8 ⟨rfl, hb⟩
  have H8 := Lib.hid (H7.out.below hb)
  clear hb H7
  obtain ⟨c0, c1, q0, q1, hlt⟩ := H8.out.read.cells
  have e0 := blk_cell H8.out.own 0
  have e1 := blk_cell H8.out.own 1
  have z0 := blk_frozen H8.out.own 0
  have z1 := blk_frozen H8.out.own 1
  have hlB := blk_lt H8.out.own
  simp only [List.getElem?_toArray, List.getElem?_cons_zero, List.getElem?_cons_succ] at e0 e1
  go_wp2_with fail
  have HF : Hid (NX W ((w8.setCell ⟨B, 0, none⟩ (.int .u8 0)).setCell ⟨B, 1, none⟩ (.string (mk T))) R B s (p + 2) f #[.int .u8 0, .string (mk T)]) := Lib.hid ((H8.out.set 0 _).set 1 _)
  clear c0 c1 q0 q1 e0 e1 z0 z1 hlt hlB H8
  generalize World.setCell _ _ _ = w9 at HF ⊢
  have e0 := blk_cell HF.out.own 0
  have e1 := blk_cell HF.out.own 1
  simp only [List.getElem?_toArray, List.getElem?_cons_zero, List.getElem?_cons_succ] at e0 e1
  refine bodyPost_ret (v := .tuple #[.agg #[.int .u8 0, .string (mk T)], .int .i64 0]) ?_ rfl ⟨rfl, HF.out.read, HF.out.keep⟩
  rw [results_cell_tmp rfl]
  go_simp
end Go.Proofs.YtmjggjccmbiheabDoor
