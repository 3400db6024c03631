/- The reference's rows of nodes; with, step by step. -/
import Derived.Test.YtmjggjccmbiheabRefList
import Derived.Deep.QuietTactic
import Derived.BigQuiet
namespace Go.Proofs.Ytmjggjccmbiheab
open Go Go.RowKit Go.Proofs Go.Sort
attribute [local go_sem] mk_list mk_size mk_data nfield0 nfield1 nfield3

theorem flat_at {α : Type} (f : α → List Value) (k : Nat) (hk : ∀ x, (f x).length = k) : ∀ (l : List α) (j : Nat) (h : j < l.length) (i : Nat) (v : Value), (f l[j])[i]? = some v → (l.flatMap f)[j * k + i]? = some v
  | [], j, h, _, _, _ => by simp at h
  | x :: l, 0, _, i, v, hv => by
    rw [List.flatMap_cons, Nat.zero_mul, Nat.zero_add, List.getElem?_append_left]
    · exact hv
    · exact (List.getElem?_eq_some_iff.1 hv).1
  | x :: l, j + 1, h, i, v, hv => by
    have ih := flat_at f k hk l j (by simpa using h) i v hv
    rw [List.flatMap_cons, List.getElem?_append_right (by rw [hk, Nat.succ_mul]; omega), hk, show (j + 1) * k + i - k = j * k + i by rw [Nat.succ_mul]; omega]
    exact ih
theorem flat_len (L : List NodeT) : (L.flatMap nodeC).length = L.length * 5 := by
  induction L with
  | nil => rfl
  | cons x l ih => rw [List.flatMap_cons, List.length_append, ih, List.length_cons]; simp [nodeC]; omega
theorem flat_set : ∀ (L : List NodeT) (i : Nat) (x : NodeT), (((((L.flatMap nodeC).set (i * 5) (.int .i64 x.num)).set (i * 5 + 1) (.int .i64 x.up)).set (i * 5 + 2) (.string (mk x.name))).set (i * 5 + 3) (.int .i64 x.kind)).set (i * 5 + 4) (.string (mk x.data)) = (L.set i x).flatMap nodeC
  | [], i, x => by simp
  | y :: l, 0, x => rfl
  | y :: l, i + 1, x => by
    have ih := flat_set l i x
    have e : ∀ (m : Nat) (u : Value) (M : List Value), (nodeC y ++ M).set ((i + 1) * 5 + m) u = nodeC y ++ M.set (i * 5 + m) u := fun m u M => by
      rw [List.set_append_right _ _ (by simp [nodeC]; omega)]
      congr 2
      simp [nodeC]; omega
    have e0 := fun (u : Value) (M : List Value) => e 0 u M
    simp only [Nat.add_zero] at e0
    rw [List.flatMap_cons, e0, e, e, e, e, ih, List.set_cons_succ, List.flatMap_cons]
def OwnN (W : World) (base : Nat) (v : Value) (L : List NodeT) : Prop := W.ownsRow base 56 5 v L.length (L.flatMap nodeC)
theorem OwnN.nodes {W : World} {base : Nat} {v : Value} {L : List NodeT} (h : OwnN W base v L) : ∃ A c, v = .slice A L.length c ∧ NodesAt W A L ∧ L.length ≤ c := by
  unfold OwnN at h
  rcases h.2 with ⟨rfl, h0⟩ | ⟨g, cap, cur, rfl, hb, hg, hn, hm, hs, ht⟩
  · exact ⟨none, 0, by rw [h0], .inl (List.eq_nil_of_length_eq_zero h0), by omega⟩
  · refine ⟨_, cap, rfl, .inr ⟨g, 0, rfl, (Array.getElem?_eq_some_iff.1 hg).1, fun j hj i v hv => ?_⟩, hn⟩
    have := h.cells (g := g) rfl _ _ (flat_at nodeC 5 (fun _ => rfl) L j hj i v hv)
    rw [show (⟨g, 0, none⟩ : Addr).add (j * 5 + i) = ⟨g, 0 + j * 5 + i, none⟩ from by unfold Addr.add; split <;> simp_all] at this
    exact this
theorem own_far {W W' : World} {R base : Nat} {e : TypeId} {s n : Nat} {v : Value} {xs : List Value} (h : W.ownsRow base e s v n xs) (k : Keep R R W W') (hR : R < base) : W'.ownsRow base e s v n xs := by
  refine ⟨h.1, ?_⟩
  rcases h.2 with h0 | ⟨g, cap, cur, hv, hb, hg, r⟩
  · exact .inl h0
  · refine .inr ⟨g, cap, cur, hv, hb, ?_, r⟩
    rw [k.block g (blk_lt hg) (by omega) (by omega)]
    exact hg
theorem row_less {W : World} {D D' : Nat} {e : TypeId} {s n : Nat} {v : Value} {xs : List Value} (h : W.ownsRow D e s v n xs) (hD : D' ≤ D) : W.ownsRow D' e s v n xs := by
  refine ⟨h.1, ?_⟩
  rcases h.2 with h0 | ⟨g, cap, cur, hv, hb, r⟩
  · exact .inl h0
  · exact .inr ⟨g, cap, cur, hv, Nat.le_trans hD hb, r⟩
theorem info56 : (Try.prog.info? 56).map (fun i => (i.zero, i.size, i.bytes)) = some (some (.agg #[.int .i64 0, .int .i64 0, .string ⟨#[]⟩, .int .i64 0, .string ⟨#[]⟩]), 5, 56) := by kernel_rfl
theorem nodes_news {W : World} {b off : Nat} {L : List NodeT} (h : ∀ (j : Nat) (h : j < L.length) (i : Nat) (v : Value), (nodeC L[j])[i]? = some v → W.cell? ⟨b, off + j * 5 + i, none⟩ = some v) : ∀ j u, (L.flatMap nodeC)[j]? = some u → W.cell? ((⟨b, off, none⟩ : Addr).add j) = some u := by
  intro j u hu
  have hj : j < L.length * 5 := by rw [← flat_len]; exact (List.getElem?_eq_some_iff.1 hu).1
  have hk : j / 5 < L.length := by omega
  have hlen : (nodeC L[j / 5]).length = 5 := rfl
  have h1 : (nodeC L[j / 5])[j % 5]? = some ((nodeC L[j / 5])[j % 5]'(by rw [hlen]; omega)) := List.getElem?_eq_getElem _
  have h2 := flat_at nodeC 5 (fun _ => rfl) L (j / 5) hk (j % 5) _ h1
  rw [show j / 5 * 5 + j % 5 = j by omega] at h2
  rw [h2] at hu
  rw [show (⟨b, off, none⟩ : Addr).add j = ⟨b, off + j / 5 * 5 + j % 5, none⟩ from by unfold Addr.add; split <;> simp_all <;> omega]
  rw [h _ hk _ _ h1]
  exact hu
theorem nodes_one (L : List NodeT) : ∀ u ∈ L.flatMap nodeC, u.oneCell' = true := by
  intro u hu
  obtain ⟨y, _, hy⟩ := List.mem_flatMap.1 hu
  simp only [nodeC, List.mem_cons, List.not_mem_nil, or_false] at hy
  rcases hy with rfl | rfl | rfl | rfl | rfl <;> rfl
section
variable {ops : Array Oper} {rest : List Oper} {o : Oper} {a : Act} {Q : Exit → Act → World → Prop}
/-- append([]Node(nil), l...). -/
theorem wpList_copy_nodes {W : World} (hg : o.guard = none) (s x : Operand) (ho : o.op = .call { callee := .builtin .append, args := #[s, x], argTypes := #[27, 27] }) (hs : a.eval s = .slice none 0 0)
    (A : Option Addr) (c : Nat) (L : List NodeT) (hx : a.eval x = .slice A L.length c) (h : NodesAt W A L) (hpos : 0 < L.length) (hl : L.length ≤ 1000000000)
    (hK : ∀ g cap w1, OwnN w1 W.heap.size (.slice (some ⟨g, 0, none⟩) L.length cap) L → Below W.heap.size W w1 → wpList Try.prog ops Q rest (a.put o.dst (.slice (some ⟨g, 0, none⟩) L.length cap)) w1) :
    wpList Try.prog ops Q (o :: rest) a W := by
  obtain ⟨i0, hi, hzz⟩ := Option.map_eq_some_iff.1 info56
  simp only [Prod.mk.injEq] at hzz
  obtain ⟨hz0, hz1, hz2⟩ := hzz
  rcases h with rfl | ⟨b, off, rfl, hlt, hc⟩
  · simp at hpos
  · refine wpList_append_lies W hg s x 27 ho W.heap.size 56 i0 _ 5 56 Try.underlying27 hi hz0 hz1 hz2 rfl (by decide) (.slice none 0 0) 0 [] hs (World.ownsRow_nil _ _ _ _) ⟨b, off, none⟩ L.length c (L.flatMap nodeC) hx (flat_len L)
      (nodes_news hc) (nodes_one L) hpos (by simp only [maxLen]; omega) (by omega) (Nat.le_refl _) _ rfl ?_
    intro g cap w1 o1 g1 e1 _
    rw [Nat.zero_add] at o1 ⊢
    rw [List.nil_append] at o1
    exact hK g cap w1 o1 ((Below.refl W.heap.size W).grown g1 (Nat.le_refl _) (by simp [Value.ownBlock]))
end

theorem OwnN.put {W : World} {base g m cap : Nat} {L : List NodeT} (h : OwnN W base (.slice (some ⟨g, 0, none⟩) m cap) L) (hm : L.length = m) (k : Nat) (x : NodeT) :
    OwnN (((((W.setCell ⟨g, k * 5, none⟩ (.int .i64 x.num)).setCell ⟨g, k * 5 + 1, none⟩ (.int .i64 x.up)).setCell ⟨g, k * 5 + 2, none⟩ (.string (mk x.name))).setCell ⟨g, k * 5 + 3, none⟩ (.int .i64 x.kind)).setCell ⟨g, k * 5 + 4, none⟩ (.string (mk x.data))) base (.slice (some ⟨g, 0, none⟩) m cap) (L.set k x) := by
  unfold OwnN at h ⊢
  rw [List.length_set, ← flat_set]
  rw [hm] at h ⊢
  exact (((((h.stored (k * 5) _).1.stored (k * 5 + 1) _).1.stored (k * 5 + 2) _).1.stored (k * 5 + 3) _).1.stored (k * 5 + 4) _).1
def withF (x y : NodeT) : NodeT := if y.num == x.num then x else y
def withR (L : List NodeT) (x : NodeT) : List NodeT := L.map (withF x)
def withTo (L : List NodeT) (x : NodeT) (k : Nat) : List NodeT := (L.take k).map (withF x) ++ L.drop k
theorem withTo_len (L : List NodeT) (x : NodeT) (k : Nat) : (withTo L x k).length = L.length := by
  unfold withTo
  rw [List.length_append, List.length_map, List.length_take, List.length_drop]; omega
theorem withTo_at {L : List NodeT} {x : NodeT} {k : Nat} (hk : k < L.length) : (withTo L x k)[k]'(by rw [withTo_len]; exact hk) = L[k] := by
  unfold withTo
  rw [List.getElem_append_right (by simp; omega), List.getElem_drop]
  congr 1
  simp; omega
theorem withTo_succ {L : List NodeT} {x : NodeT} {k : Nat} (hk : k < L.length) : withTo L x (k + 1) = (withTo L x k).set k (withF x L[k]) := by
  unfold withTo
  rw [List.take_succ_eq_append_getElem hk, List.map_append, List.append_assoc, List.set_append_right _ _ (by simp; omega)]
  congr 1
  rw [List.drop_eq_getElem_cons hk]
  have : k - ((L.take k).map (withF x)).length = 0 := by simp; omega
  rw [this]
  rfl
theorem withTo_end (L : List NodeT) (x : NodeT) : withTo L x L.length = withR L x := by unfold withTo withR; simp
def TreeTo (L : List NodeT) (last : Int) (W : World) (e : Ending) (w' : World) : Prop := (∃ A c, e = .returned (.agg #[.slice A L.length c, .int .i64 last]) ∧ NodesAt w' A L) ∧ Below W.heap.size W w'
set_option maxRecDepth 100000 in
set_option maxHeartbeats 4000000 in
theorem ref_with (A : Option Addr) (c : Nat) (L : List NodeT) (last : Int) (x : NodeT) (W : World) (h : NodesAt W A L) (hpos : 0 < L.length) (hl : L.length ≤ 10000000) :
    Calls Try.prog 45 #[.agg #[.slice A L.length c, .int .i64 last], nodeA x] W (TreeTo (withR L x) last W) := by
  obtain ⟨r, hr⟩ : ∃ r, withR L x = r := ⟨_, rfl⟩
  have HR := Lib.hid hr
  have HN := Lib.hid (And.intro h (And.intro hpos hl))
  rw [hr]
  obtain ⟨xn, xu, xs, xk, xd⟩ := x
  unfold nodeA
  simp only
  obtain ⟨W0, hW0⟩ : ∃ W0, ((W.alloc (.cells #[.slice A L.length c, .int .i64 last] 29)).alloc (.cells #[.int .i64 xn, .int .i64 xu, .string (mk xs), .int .i64 xk, .string (mk xd)] 56)).alloc (.cells #[.slice none 0 0, .int .i64 0] 29) = W0 := ⟨_, rfl⟩
  have HW : Hid (Below W.heap.size W W0 ∧ W0.heap[W.heap.size]? = some (.cells #[.slice A L.length c, .int .i64 last] 29) ∧ W0.heap[W.heap.size + 1]? = some (.cells #[.int .i64 xn, .int .i64 xu, .string (mk xs), .int .i64 xk, .string (mk xd)] 56) ∧ W0.heap[W.heap.size + 1 + 1]? = some (.cells #[.slice none 0 0, .int .i64 0] 29)) := Lib.hid (by
    rw [← hW0]
    have h2 := heap_alloc_new (W.alloc (.cells #[.slice A L.length c, .int .i64 last] 29)) (.cells #[.int .i64 xn, .int .i64 xu, .string (mk xs), .int .i64 xk, .string (mk xd)] 56)
    have h3 := heap_alloc_new ((W.alloc (.cells #[.slice A L.length c, .int .i64 last] 29)).alloc (.cells #[.int .i64 xn, .int .i64 xu, .string (mk xs), .int .i64 xk, .string (mk xd)] 56)) (.cells #[.slice none 0 0, .int .i64 0] 29)
    rw [World.size_alloc] at h2
    rw [World.size_alloc, World.size_alloc] at h3
    exact ⟨(((Below.refl _ _).alloc (Nat.le_refl _) _).alloc (by simp) _).alloc (by simp; omega) _, heap_stay (heap_stay (heap_alloc_new _ _) _) _, heap_stay h2 _, h3⟩)
  have c0 := blk_cell HW.out.2.1 0
  simp only [List.getElem?_toArray, List.getElem?_cons_zero] at c0
  clear hr h hpos hl
  go_enter Try.func45, Try.ntmps45
  go_wp2_with (at_builtin; (try rw [hW0]); refine wpList_copy_nodes (W := W0) rfl _ _ rfl rfl A c L rfl (HN.out.1.below HW.out.1) HN.out.2.1 (by have := HN.out.2.2; omega) ?_; intro g cap w1 o1 b1; have HO := Lib.hid o1; have HB := Lib.hid b1; clear o1 b1)
  clear hW0 c0
  obtain ⟨m, hm⟩ : ∃ m, L.length = m := ⟨_, rfl⟩
  have HM := Lib.hid hm
  have hmb : m ≤ 10000000 := by rw [← hm]; exact HN.out.2.2
  rw [hm] at HO HW ⊢
  obtain ⟨x, hx⟩ : ∃ x : NodeT, NodeT.mk xn xu xs xk xd = x := ⟨_, rfl⟩
  have HX := Lib.hid hx
  rw [hx] at HR
  obtain ⟨Bz, hBz⟩ : ∃ Bz, W0.heap.size = Bz := ⟨_, rfl⟩
  have HBZ := Lib.hid hBz
  rw [hBz] at HO HB
  clear hm hx hBz
  go_loopg [6] m (fun gg iv wx => ∃ k : Nat, k + gg = m ∧ iv = .int .i64 k ∧ Hid (OwnN wx Bz (.slice (some ⟨g, 0, none⟩) m cap) (withTo L x k)) ∧ Hid (Below Bz W0 wx))
  case atStart => exact ⟨0, by omega, rfl, HO, HB⟩
  case round =>
    obtain ⟨k, hk, rfl, HO2, HB2⟩ := hrel
    have HK3 : Hid (wr.heap[W.heap.size]? = some (.cells #[.slice A m c, .int .i64 last] 29) ∧ wr.heap[W.heap.size + 1]? = some (.cells #[.int .i64 xn, .int .i64 xu, .string (mk xs), .int .i64 xk, .string (mk xd)] 56) ∧ wr.heap[W.heap.size + 1 + 1]? = some (.cells #[.slice none 0 0, .int .i64 0] 29)) := Lib.hid (by
      have h1 := HBZ.out
      exact ⟨(HB2.out.block _ (by rw [← h1]; exact blk_lt HW.out.2.1)).trans HW.out.2.1, (HB2.out.block _ (by rw [← h1]; exact blk_lt HW.out.2.2.1)).trans HW.out.2.2.1, (HB2.out.block _ (by rw [← h1]; exact blk_lt HW.out.2.2.2)).trans HW.out.2.2.2⟩)
    have HBW : Hid (Below W.heap.size W wr) := Lib.hid (HW.out.1.trans (HB2.out.mono (by rw [← HBZ.out]; exact HW.out.1.size)))
    cases gk with
    | zero =>
      obtain rfl : k = m := by omega
      have HE : Hid (withTo L x k = r) := Lib.hid (by rw [← HM.out, withTo_end]; exact HR.out)
      rw [HE.out] at HO2
      have hlen : Hid (r.length = k) := Lib.hid (by rw [← HE.out, withTo_len]; exact HM.out)
      have c1 := blk_cell HK3.out.1 1
      have e0 := blk_cell HK3.out.2.2 0
      have e1 := blk_cell HK3.out.2.2 1
      have q0 := blk_frozen HK3.out.2.2 0
      have q1 := blk_frozen HK3.out.2.2 1
      have hlt := blk_lt HK3.out.2.2
      simp only [List.getElem?_toArray, List.getElem?_cons_zero, List.getElem?_cons_succ] at c1 e0 e1
      go_wp2_with fail
      have hK : Keep (W.heap.size + 1 + 1) (W.heap.size + 1 + 1) wr ((wr.setCell ⟨W.heap.size + 1 + 1, 0, none⟩ (.slice (some ⟨g, 0, none⟩) k cap)).setCell ⟨W.heap.size + 1 + 1, 1, none⟩ (.int .i64 last)) := (Keep.setR 0 _).trans (Keep.setR 1 _)
      have hO3 := own_far HO2.out hK (by rw [← HBZ.out]; exact blk_lt HW.out.2.2.2)
      obtain ⟨A3, c3, e3, hN3, _⟩ := OwnN.nodes (L := r) (v := .slice (some ⟨g, 0, none⟩) k cap) hO3
      simp only [Value.slice.injEq] at e3
      obtain ⟨rfl, _, rfl⟩ := e3
      refine bodyPost_ret (v := .agg #[.slice (some ⟨g, 0, none⟩) r.length cap, .int .i64 last]) ?_ rfl ⟨⟨_, _, rfl, hN3⟩, (HBW.out.setCell (p := ⟨W.heap.size + 1 + 1, 0, none⟩) (by show W.heap.size ≤ W.heap.size + 1 + 1; omega) _).setCell (p := ⟨W.heap.size + 1 + 1, 1, none⟩) (by show W.heap.size ≤ W.heap.size + 1 + 1; omega) _⟩
      rw [results_cell1 rfl, hlen.out]
      go_simp
    | succ gg =>
      have hkl : k < L.length := by have := HM.out; omega
      have hkw : k < (withTo L x k).length := by rw [withTo_len]; exact hkl
      have HAT := Lib.hid (withTo_at (x := x) hkl)
      have HSU := Lib.hid (withTo_succ (x := x) hkl)
      have hf : ∀ i v, (nodeC L[k])[i]? = some v → wr.cell? ⟨g, k * 5 + i, none⟩ = some v := fun i v hv => by
        have h1 := flat_at nodeC 5 (fun _ => rfl) (withTo L x k) k hkw i v (by rw [HAT.out]; exact hv)
        have hO := HO2.out
        unfold OwnN at hO
        rw [withTo_len, HM.out] at hO
        have hi : i < 5 := (List.getElem?_eq_some_iff.1 hv).1
        rw [hO.cellAt _ (by omega)]
        exact h1
      have hz : ∀ i, wr.frozen? ⟨g, i, none⟩ = false := fun i => by
        have hO := HO2.out
        unfold OwnN at hO
        rw [withTo_len, HM.out] at hO
        exact hO.frozenAt i
      obtain ⟨y, hy⟩ : ∃ y, L[k] = y := ⟨_, rfl⟩
      rw [hy] at hf HSU
      have HAT2 : Hid ((withTo L x k)[k]'hkw = y) := Lib.hid (by rw [← hy]; exact HAT.out)
      obtain ⟨yn, yu, ys, yk, yd⟩ := y
      have f0 : wr.cell? ⟨g, k * 5, none⟩ = some (.int .i64 yn) := hf 0 _ rfl
      have f1 := hf 1 _ rfl
      have f2 := hf 2 _ rfl
      have f3 := hf 3 _ rfl
      have f4 := hf 4 _ rfl
      have z0 := hz (k * 5)
      have z1 := hz (k * 5 + 1)
      have z2 := hz (k * 5 + 2)
      have z3 := hz (k * 5 + 3)
      have z4 := hz (k * 5 + 4)
      have d0 := blk_cell HK3.out.2.1 0
      have d1 := blk_cell HK3.out.2.1 1
      have d2 := blk_cell HK3.out.2.1 2
      have d3 := blk_cell HK3.out.2.1 3
      have d4 := blk_cell HK3.out.2.1 4
      simp only [List.getElem?_toArray, List.getElem?_cons_zero, List.getElem?_cons_succ] at d0 d1 d2 d3 d4
      have hkI : (k : Int) < (m : Int) := by omega
      have hk0 : (0 : Int) ≤ (k : Int) := by omega
      have hgl : Bz ≤ g ∧ g < wr.heap.size := World.ownsRow.lt HO2.out g rfl
      have hglt := hgl.2
      have hgl2 := hgl.1
      clear hf hz hy hgl
      cases hq : (yn == xn)
      · have HQ : Hid (withTo L x (k + 1) = withTo L x k) := Lib.hid (by
          have e : withF x ⟨yn, yu, ys, yk, yd⟩ = ⟨yn, yu, ys, yk, yd⟩ := by
            unfold withF
            rw [← HX.out]
            simp only [hq, Bool.false_eq_true, if_false]
          rw [HSU.out, e, ← HAT2.out]
          exact List.set_getElem_self hkw)
        go_wp2_with fail
        go_quiet (fail)
        go_wp2_with fail
        go_roundg gg
        case measure => omega
        case rel => exact ⟨k + 1, by omega, by go_num, Lib.hid (by rw [HQ.out]; exact own_drewN HO2.out _), Lib.hid (below_drewN HB2.out _)⟩
      · have HQ : Hid (withTo L x (k + 1) = (withTo L x k).set k ⟨xn, xu, xs, xk, xd⟩) := Lib.hid (by
          have e : withF x ⟨yn, yu, ys, yk, yd⟩ = ⟨xn, xu, xs, xk, xd⟩ := by
            unfold withF
            rw [← HX.out]
            simp only [hq, if_true]
          rw [HSU.out, e])
        have HGL := Lib.hid hgl2
        go_wp2_with fail
        go_quiet (fail)
        go_wp2_with fail
        go_roundg gg
        case measure => omega
        case rel =>
          refine ⟨k + 1, by omega, by go_num, Lib.hid ?_, Lib.hid (((((((below_drewN HB2.out _).setCell (p := ⟨g, k * 5, none⟩) HGL.out _).setCell (p := ⟨g, k * 5 + 1, none⟩) HGL.out _).setCell (p := ⟨g, k * 5 + 2, none⟩) HGL.out _).setCell (p := ⟨g, k * 5 + 3, none⟩) HGL.out _).setCell (p := ⟨g, k * 5 + 4, none⟩) HGL.out _))⟩
          rw [HQ.out]
          exact OwnN.put (W := wr.drewN nq) (own_drewN HO2.out nq) (by rw [withTo_len]; exact HM.out) k ⟨xn, xu, xs, xk, xd⟩
end Go.Proofs.Ytmjggjccmbiheab
