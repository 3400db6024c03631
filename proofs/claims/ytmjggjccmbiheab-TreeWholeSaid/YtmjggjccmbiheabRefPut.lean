/- The reference's Put, step by step. -/
import Derived.Test.YtmjggjccmbiheabRefCut
import Derived.Test.YtmjggjccmbiheabName
namespace Go.Proofs.Ytmjggjccmbiheab
open Go Go.RowKit Go.Proofs Go.Sort
attribute [local go_sem] mk_list mk_size mk_data nfield0 nfield1 nfield3

theorem results_cell_tmp2 {fn : Func} {p u u' : Tmp} {ty : TypeId} (h : fn.results = #[.cell p ty, .tmp u, .tmp u']) (tmps : Array Value) (P : Program) (w : World) :
    (results fn tmps).run P w =
      ((asAddr (tmps.getD p undef)).run P w).andThen fun a w₁ => ((loadVar ty a).run P w₁).andThen fun v w₂ => .ok (.tuple #[v, tmps.getD u undef, tmps.getD u' undef]) w₂ := by
  simp only [results, h]
  simp [Sem.run_bind, Result.andThen]
section
variable {ops : Array Oper} {o : Oper} {a : Act} {K : Act → World → Prop} {Q : Exit → Act → World → Prop} {E : Prop} {W : World}
theorem step_copy_nodes (hg : o.guard = none) (s x : Operand) (ho : o.op = .call { callee := .builtin .append, args := #[s, x], argTypes := #[27, 27] }) (hs : a.eval s = .slice none 0 0)
    (A : Option Addr) (c m : Nat) (L : List NodeT) (hm : L.length = m) (hx : a.eval x = .slice A m c) (h : NodesAt W A L) (hpos : 0 < m) (hl : m ≤ 1000000000) (D : Nat) (hD : D ≤ W.heap.size)
    (hK : ∀ g cap w1, OwnN w1 D (.slice (some ⟨g, 0, none⟩) m cap) L → Below W.heap.size W w1 → K (a.put o.dst (.slice (some ⟨g, 0, none⟩) m cap)) w1) :
    if Region.wanted o (yielded ops a.tmps) = true then Oper.wp Try.prog o a W K Q else E := by
  obtain ⟨i0, hi, hzz⟩ := Option.map_eq_some_iff.1 info56
  simp only [Prod.mk.injEq] at hzz
  obtain ⟨hz0, hz1, hz2⟩ := hzz
  subst hm
  rcases h with rfl | ⟨b, off, rfl, hlt, hc⟩
  · simp at hpos
  · refine step_append_lies W hg s x 27 ho W.heap.size 56 i0 _ 5 56 Try.underlying27 hi hz0 hz1 hz2 rfl (by decide) (.slice none 0 0) 0 [] hs (World.ownsRow_nil _ _ _ _) ⟨b, off, none⟩ L.length c (L.flatMap nodeC) hx (flat_len L)
      (nodes_news hc) (nodes_one L) hpos (by simp only [maxLen]; omega) (by omega) (Nat.le_refl _) _ rfl ?_
    intro g cap w1 o1 g1 e1 _
    rw [Nat.zero_add] at o1 ⊢
    rw [List.nil_append] at o1
    exact hK g cap w1 (row_less o1 hD) ((Below.refl W.heap.size W).grown g1 (Nat.le_refl _) (by simp [Value.ownBlock]))
theorem step_put_node (hg : o.guard = none) (s x : Operand) (ho : o.op = .call { callee := .builtin .append, args := #[s, x], argTypes := #[27, 27] }) (v : Value) (L : List NodeT) (base m : Nat) (hm : L.length = m) (hs : a.eval s = v) (HO : OwnN W base v L) (hbase : base ≤ W.heap.size)
    (B : Nat) (hx : a.eval x = .slice (some ⟨B, 0, none⟩) 1 1) (y : NodeT) (fr : Nat × Nat) (hB : W.heap[B]? = some (.cells #[.int .i64 y.num, .int .i64 y.up, .string (mk y.name), .int .i64 y.kind, .string (mk y.data)] 56 fr)) (hl : m ≤ 1000000000)
    (hK : ∀ g cap w1, OwnN w1 base (.slice (some ⟨g, 0, none⟩) (m + 1) cap) (L ++ [y]) → Below base W w1 → K (a.put o.dst (.slice (some ⟨g, 0, none⟩) (m + 1) cap)) w1) :
    if Region.wanted o (yielded ops a.tmps) = true then Oper.wp Try.prog o a W K Q else E := by
  obtain ⟨i0, hi, hzz⟩ := Option.map_eq_some_iff.1 info56
  simp only [Prod.mk.injEq] at hzz
  obtain ⟨hz0, hz1, hz2⟩ := hzz
  subst hm
  refine step_append_lies W hg s x 27 ho base 56 i0 _ 5 56 Try.underlying27 hi hz0 hz1 hz2 rfl (by decide) v L.length _ hs HO ⟨B, 0, none⟩ 1 1 (nodeC y) hx rfl
    (World.news_of_block (cs := #[.int .i64 y.num, .int .i64 y.up, .string (mk y.name), .int .i64 y.kind, .string (mk y.data)]) hB) (by simp [Value.oneCell', nodeC]) (by decide) (by simp only [maxLen]; omega) (by omega) hbase _ rfl ?_
  intro g cap w1 o1 g1 _ _
  exact hK g cap w1 (by unfold OwnN; rw [List.length_append, List.flatMap_append]; simpa using o1) ((Below.refl base W).grown g1 hbase (fun k hk => (HO.lt k hk).1))
end
def newR (last d : Int) (s : Tx) (kind : Int) (data : Tx) : NodeT := ⟨last + 1, d, s, kind, data⟩
/-- A tree, a number, an error. -/
structure PutR where
  L : List NodeT
  last : Int
  n : Int
  e : Int
def putR (L : List NodeT) (last d : Int) (s : Tx) (kind : Int) (data : Tx) : PutR :=
  if dirR L d ≠ 0 then ⟨L, last, 0, dirR L d⟩ else if checkI s ≠ 0 then ⟨L, last, 0, checkI s⟩ else if 0 < inR L d s then ⟨L, last, 0, 6⟩ else
  if mayE kind data ≠ 0 then ⟨L, last, 0, mayE kind data⟩ else if 4096 ≤ L.length then ⟨L, last, 0, 12⟩ else ⟨L ++ [newR last d s kind data], last + 1, last + 1, 0⟩
def RTo3 (r : PutR) (W : World) (en : Ending) (w' : World) : Prop := (∃ A c, en = .returned (.tuple #[.agg #[.slice A r.L.length c, .int .i64 r.last], .int .i64 r.n, .int .i64 r.e]) ∧ NodesAt w' A r.L) ∧ Below W.heap.size W w'
theorem keepA {w4 W' : World} {p : Addr} {u v : Value} {q : Addr} (o : Obj) (hp : p.block < w4.heap.size) (hq : q.block < w4.heap.size) (h : W'.cell? p = some u ∧ W'.cell? q = some v ∧ Below w4.heap.size w4 W') : (W'.alloc o).cell? p = some u ∧ (W'.alloc o).cell? q = some v ∧ Below w4.heap.size w4 (W'.alloc o) := by
  have hb : Below W'.heap.size W' (W'.alloc o) := (Below.refl _ _).alloc (Nat.le_refl _) _
  exact ⟨(hb.cell (Nat.lt_of_lt_of_le hp h.2.2.size)).trans h.1, (hb.cell (Nat.lt_of_lt_of_le hq h.2.2.size)).trans h.2.1, ext_trans h.2.2 hb⟩
theorem keepB {w4 W' w1 : World} {p : Addr} {u v : Value} {q : Addr} (hp : p.block < w4.heap.size) (hq : q.block < w4.heap.size) (hb : Below w4.heap.size W' w1) (h : W'.cell? p = some u ∧ W'.cell? q = some v ∧ Below w4.heap.size w4 W') : w1.cell? p = some u ∧ w1.cell? q = some v ∧ Below w4.heap.size w4 w1 :=
  ⟨(hb.cell hp).trans h.1, (hb.cell hq).trans h.2.1, h.2.2.trans hb⟩

theorem keepD {w : World} {p : Addr} {u v : Value} {q : Addr} (o : Obj) (hp : p.block < w.heap.size) (hq : q.block < w.heap.size) (h0 : w.cell? p = some u) (h1 : w.cell? q = some v) : ((w.alloc o).drew).cell? p = some u ∧ ((w.alloc o).drew).cell? q = some v ∧ Below w.heap.size w ((w.alloc o).drew) := by
  have hb : Below w.heap.size w ((w.alloc o).drew) := below_drewN ((Below.refl _ _).alloc (Nat.le_refl _) o) 1
  exact ⟨(hb.cell hp).trans h0, (hb.cell hq).trans h1, hb⟩
theorem cell_far {w : World} {R : Nat} (x y : Value) {p : Addr} (h : p.block ≠ R) : ((w.setCell ⟨R, 0, none⟩ x).setCell ⟨R, 1, none⟩ y).drew.cell? p = w.cell? p :=
  (World.cell?_setCell_far _ ⟨R, 1, none⟩ p y (fun e => h e.symm)).trans (World.cell?_setCell_far _ ⟨R, 0, none⟩ p x (fun e => h e.symm))
theorem heap_alloc_drew (w : World) (o : Obj) : ((w.alloc o).drew).heap[w.heap.size]? = some o := heap_alloc_new w o

set_option maxRecDepth 100000 in
set_option maxHeartbeats 4000000 in
theorem ref_Put (A : Option Addr) (c : Nat) (L : List NodeT) (last d : Int) (s : Tx) (kind : Int) (data : Tx) (W : World) (h : NodesAt W A L) (hpos : 0 < L.length) (hl : L.length ≤ 10000000) (hls : s.length ≤ 140737488351300) (hld : data.length ≤ 140737488351300) (hla : 0 ≤ last ∧ last ≤ 1000000) :
    Calls Try.prog 22 #[.agg #[.slice A L.length c, .int .i64 last], .int .i64 d, .string (mk s), .int .i64 kind, .string (mk data)] W (RTo3 (putR L last d s kind data) W) := by
  have HN := Lib.hid (And.intro h (And.intro hpos hl))
  have HDI := Lib.hid (fun w (hb : Below W.heap.size W w) => ref_dir A c L last d w (h.below hb) (by omega))
  have HIN := Lib.hid (fun w (hb : Below W.heap.size W w) => ref_In A c L last d s w (h.below hb) (by omega))
  have HC := Lib.hid (fun w => ref_Check s w hls)
  have HM := Lib.hid (fun w => ref_may kind data w hld)
  obtain ⟨r, hr⟩ : ∃ r, putR L last d s kind data = r := ⟨_, rfl⟩
  have HR := Lib.hid hr.symm
  unfold putR at HR
  rw [hr]
  obtain ⟨m, hm⟩ : ∃ m, L.length = m := ⟨_, rfl⟩
  have HL := Lib.hid hm
  have hmb : m ≤ 10000000 := by omega
  have hmp : 0 < m := by omega
  obtain ⟨hla0, hla1⟩ := hla
  have HWR : Hid (IntKind.i64.wrap (last + 1) = last + 1) := Lib.hid (by rw [IntKind.wrap_i64]; omega)
  obtain ⟨qd, hqd⟩ : ∃ q, dirR L d = q := ⟨_, rfl⟩
  obtain ⟨n, hn⟩ : ∃ n, inR L d s = n := ⟨_, rfl⟩
  obtain ⟨ck, hck⟩ : ∃ ck, checkI s = ck := ⟨_, rfl⟩
  obtain ⟨my, hmy⟩ : ∃ my, mayE kind data = my := ⟨_, rfl⟩
  rw [hqd, hn, hck, hmy, hm] at HR
  rw [hqd] at HDI
  rw [hn] at HIN
  rw [hck] at HC
  rw [hmy] at HM
  rw [hm] at HDI HIN ⊢
  obtain ⟨W0, hW0⟩ : ∃ W0, (W.alloc (.cells #[.slice A m c, .int .i64 last] 29)).alloc (.cells #[.slice none 0 0, .int .i64 0] 29) = W0 := ⟨_, rfl⟩
  have HW := Lib.hid (two_new W (.cells #[.slice A m c, .int .i64 last] 29) (.cells #[.slice none 0 0, .int .i64 0] 29))
  rw [hW0] at HW
  have c0 := blk_cell HW.out.2.1 0
  have c1 := blk_cell HW.out.2.1 1
  have e0 := blk_cell HW.out.2.2 0
  have e1 := blk_cell HW.out.2.2 1
  have q0 := blk_frozen HW.out.2.2 0
  have q1 := blk_frozen HW.out.2.2 1
  have hl0 := blk_lt HW.out.2.1
  have hl1 := blk_lt HW.out.2.2
  simp only [List.getElem?_toArray, List.getElem?_cons_zero, List.getElem?_cons_succ] at c0 c1 e0 e1
  clear h hpos hl hr hm hqd hn hck hmy hls hld
  go_enter Try.func22, Try.ntmps22
  go_wp2_with fail
  try rw [hW0]
  clear hW0
  refine (HDI.out _ HW.out.1).mono ?_
  rintro e w1 ⟨rfl, hb⟩
  have HB := Lib.hid (And.intro (ext_trans HW.out.1 hb) (And.intro ((hb.block _ (blk_lt HW.out.2.1)).trans HW.out.2.1) ((hb.block _ (blk_lt HW.out.2.2)).trans HW.out.2.2)))
  clear hb c0 c1 e0 e1 q0 q1 hl0 hl1
  have c0 := blk_cell HB.out.2.1 0
  have c1 := blk_cell HB.out.2.1 1
  have e0 := blk_cell HB.out.2.2 0
  have e1 := blk_cell HB.out.2.2 1
  have q0 := blk_frozen HB.out.2.2 0
  have q1 := blk_frozen HB.out.2.2 1
  have hl0 := blk_lt HB.out.2.1
  have hl1 := blk_lt HB.out.2.2
  simp only [List.getElem?_toArray, List.getElem?_cons_zero, List.getElem?_cons_succ] at c0 c1 e0 e1
  by_cases h0 : qd = 0
  · subst h0
    go_wp2_with fail
    refine (HC.out w1).mono ?_
    rintro e w1' ⟨rfl, rfl⟩
    by_cases hc0 : ck = 0
    · subst hc0
      go_wp2_with fail
      refine (HIN.out _ HB.out.1).mono ?_
      rintro e w2 ⟨rfl, hb⟩
      have HB2 := Lib.hid (And.intro (ext_trans HB.out.1 hb) (And.intro ((hb.block _ (blk_lt HB.out.2.1)).trans HB.out.2.1) ((hb.block _ (blk_lt HB.out.2.2)).trans HB.out.2.2)))
      clear hb c0 c1 e0 e1 q0 q1 hl0 hl1
      have c0 := blk_cell HB2.out.2.1 0
      have c1 := blk_cell HB2.out.2.1 1
      have e0 := blk_cell HB2.out.2.2 0
      have e1 := blk_cell HB2.out.2.2 1
      have q0 := blk_frozen HB2.out.2.2 0
      have q1 := blk_frozen HB2.out.2.2 1
      have hl0 := blk_lt HB2.out.2.1
      have hl1 := blk_lt HB2.out.2.2
      simp only [List.getElem?_toArray, List.getElem?_cons_zero, List.getElem?_cons_succ] at c0 c1 e0 e1
      by_cases hn0 : 0 < n
      · have HR2 : Hid (r = ⟨L, last, 0, 6⟩) := Lib.hid (by rw [HR.out]; simp only [ne_eq, not_true_eq_false, if_false, if_pos hn0])
        obtain rfl := HR2.out
        go_wp2_with fail
        refine bodyPost_ret (v := .tuple #[.agg #[.slice A m c, .int .i64 last], .int .i64 0, .int .i64 6]) ?_ rfl ?_
        · rw [results_cell_tmp2 rfl]
          go_simp
        · have HD := ret_done HB2.out.1 (Nat.le_succ _) HB2.out.2.2 (HN.out.1.below HB2.out.1) (.slice A m c) (.int .i64 last)
          exact ⟨⟨A, c, by rw [HL.out], HD.1⟩, HD.2⟩
      · have HN0 := Lib.hid hn0
        go_wp2_with fail
        refine (HM.out w2).mono ?_
        rintro e w2' ⟨rfl, rfl⟩
        by_cases hm0 : my = 0
        · subst hm0
          by_cases h40 : 4096 ≤ m
          · have HR2 : Hid (r = ⟨L, last, 0, 12⟩) := Lib.hid (by rw [HR.out]; simp only [ne_eq, not_true_eq_false, if_false, if_neg (show ¬ 0 < n by have := HN0.out; omega), if_pos h40])
            obtain rfl := HR2.out
            have h4 : (m : Int) ≥ 4096 := by omega
            clear h40
            go_wp2_with fail
            refine bodyPost_ret (v := .tuple #[.agg #[.slice A m c, .int .i64 last], .int .i64 0, .int .i64 12]) ?_ rfl ?_
            · rw [results_cell_tmp2 rfl]
              go_simp
            · have HD := ret_done HB2.out.1 (Nat.le_succ _) HB2.out.2.2 (HN.out.1.below HB2.out.1) (.slice A m c) (.int .i64 last)
              exact ⟨⟨A, c, by rw [HL.out], HD.1⟩, HD.2⟩
          · have HR2 : Hid (r = ⟨L ++ [newR last d s kind data], last + 1, last + 1, 0⟩) := Lib.hid (by rw [HR.out]; simp only [ne_eq, not_true_eq_false, if_false, if_neg (show ¬ 0 < n by have := HN0.out; omega), if_neg h40])
            obtain rfl := HR2.out
            have h4 : ¬ (m : Int) ≥ 4096 := by omega
            clear h40
            have HNW := Lib.hid (fun w (hb : Below w2.heap.size w2 w) => HN.out.1.below (ext_trans HB2.out.1 hb))
            go_wp2_with fail
            go_region_held3 (fun w' => w'.cell? ⟨W.heap.size, 0, none⟩ = some (.slice A m c) ∧ w'.cell? ⟨W.heap.size, 1, none⟩ = some (.int .i64 last) ∧ Below w2.heap.size w2 w')
              (first | exact ⟨c0, c1, below_drewN (Below.refl _ _) 1⟩ | exact keepD _ (by exact hl0) (by exact hl0) c0 c1 | exact keepA _ (by exact hl0) (by exact hl0) (by assumption) | exact keepB (by exact hl0) (by exact hl0) (by assumption) (by assumption))
              (first
                | (refine step_copy_nodes (by rfl) _ _ (by rfl) (by rfl) A c m L HL.out (by rfl) (HNW.out _ (by first | exact below_drewN (Below.refl _ _) 1 | exact (by assumption : _ ∧ _ ∧ Below w2.heap.size w2 _).2.2)) hmp (by omega) w2.heap.size (by first | exact (below_drewN (Below.refl w2.heap.size w2) 1).size | exact (by assumption : _ ∧ _ ∧ Below w2.heap.size w2 _).2.2.size) ?_; intro g1 cap1 wA oA bA; have bA2 := bA.mono (by first | exact (below_drewN (Below.refl w2.heap.size w2) 1).size | exact (by assumption : _ ∧ _ ∧ Below w2.heap.size w2 _).2.2.size))
                | (refine step_put_node (by rfl) _ _ (by rfl) _ L w2.heap.size m HL.out (by rfl) (by first | exact oA | exact own_below oA ((Below.refl _ _).alloc (Nat.le_refl _) _)) (by exact (by assumption : _ ∧ _ ∧ Below w2.heap.size w2 _).2.2.size) _ (by rfl) ⟨IntKind.i64.wrap (last + 1), d, s, kind, data⟩ (0, 0) (by first | exact heap_alloc_new _ _ | exact (bA.block _ (by simp)).trans (heap_alloc_drew _ _)) (by omega) ?_; intro g2 cap2 wB oB bB))
            all_goals (
              rename_i hH
              rw [HWR.out] at oB
              have HB3 := Lib.hid (And.intro (ext_trans HB2.out.1 hH.2.2) (And.intro ((hH.2.2.block _ hl0).trans HB2.out.2.1) ((hH.2.2.block _ hl1).trans HB2.out.2.2)))
              have HO := Lib.hid oB.nodes
              clear c0 c1 e0 e1 q0 q1 hl0 hl1 bA bA2 oA bB oB hH
              have c0 := blk_cell HB3.out.2.1 0
              have c1 := blk_cell HB3.out.2.1 1
              have e0 := blk_cell HB3.out.2.2 0
              have e1 := blk_cell HB3.out.2.2 1
              have q0 := blk_frozen HB3.out.2.2 0
              have q1 := blk_frozen HB3.out.2.2 1
              have hl0 := blk_lt HB3.out.2.1
              have hl1 := blk_lt HB3.out.2.2
              simp only [List.getElem?_toArray, List.getElem?_cons_zero, List.getElem?_cons_succ] at c0 c1 e0 e1
              go_wp2_with fail
              go_region_held3 (fun w' => w'.cell? ⟨W.heap.size, 1, none⟩ = some (.int .i64 last)) (first | exact c1 | exact (cell_far _ _ (by exact Nat.ne_of_lt (Nat.lt_succ_self _))).trans c1) (fail)
              go_wp2_with fail
              refine bodyPost_ret (v := .tuple #[.agg #[.slice (some ⟨g2, 0, none⟩) (m + 1) cap2, .int .i64 (IntKind.i64.wrap (last + 1))], .int .i64 (IntKind.i64.wrap (last + 1)), .int .i64 0]) ?_ rfl ?_
              · rw [results_cell_tmp2 rfl]
                go_simp
              · obtain ⟨A3, c3, hv, hn, _⟩ := HO.out
                injection hv with a1 _ a3
                subst a1 a3
                have HD := ret_done HB3.out.1 (Nat.le_succ _) HB3.out.2.2 hn (.slice (some ⟨g2, 0, none⟩) (m + 1) cap2) (.int .i64 (IntKind.i64.wrap (last + 1)))
                exact ⟨⟨some ⟨g2, 0, none⟩, cap2, by rw [HWR.out, ← HL.out]; simp only [List.length_append, List.length_singleton], HD.1⟩, below_drewN HD.2 1⟩)
        · have HR2 : Hid (r = ⟨L, last, 0, my⟩) := Lib.hid (by rw [HR.out]; simp only [ne_eq, not_true_eq_false, if_false, if_neg (show ¬ 0 < n by have := HN0.out; omega), if_pos hm0])
          obtain rfl := HR2.out
          have hm1 : (my == 0) = false := by simpa using hm0
          have hm2 : (my != 0) = true := by simpa using hm0
          clear hm0
          go_wp2_with fail
          refine bodyPost_ret (v := .tuple #[.agg #[.slice A m c, .int .i64 last], .int .i64 0, .int .i64 my]) ?_ rfl ?_
          · rw [results_cell_tmp2 rfl]
            go_simp
          · have HD := ret_done HB2.out.1 (Nat.le_succ _) HB2.out.2.2 (HN.out.1.below HB2.out.1) (.slice A m c) (.int .i64 last)
            exact ⟨⟨A, c, by rw [HL.out], HD.1⟩, HD.2⟩
    · have HR2 : Hid (r = ⟨L, last, 0, ck⟩) := Lib.hid (by rw [HR.out, if_neg (by simp), if_pos hc0])
      obtain rfl := HR2.out
      have hc1 : (ck == 0) = false := by simpa using hc0
      have hc2 : (ck != 0) = true := by simpa using hc0
      clear hc0
      go_wp2_with fail
      refine bodyPost_ret (v := .tuple #[.agg #[.slice A m c, .int .i64 last], .int .i64 0, .int .i64 ck]) ?_ rfl ?_
      · rw [results_cell_tmp2 rfl]
        go_simp
      · have HD := ret_done HB.out.1 (Nat.le_succ _) HB.out.2.2 (HN.out.1.below HB.out.1) (.slice A m c) (.int .i64 last)
        exact ⟨⟨A, c, by rw [HL.out], HD.1⟩, HD.2⟩
  · have h0' : (qd == 0) = false := by simpa using h0
    have h0'' : (qd != 0) = true := by simpa using h0
    have HR2 : Hid (r = ⟨L, last, 0, qd⟩) := Lib.hid (by rw [HR.out, if_pos h0])
    obtain rfl := HR2.out
    clear h0
    go_wp2_with fail
    refine bodyPost_ret (v := .tuple #[.agg #[.slice A m c, .int .i64 last], .int .i64 0, .int .i64 qd]) ?_ rfl ?_
    · rw [results_cell_tmp2 rfl]
      go_simp
    · have HD := ret_done HB.out.1 (Nat.le_succ _) HB.out.2.2 (HN.out.1.below HB.out.1) (.slice A m c) (.int .i64 last)
      exact ⟨⟨A, c, by rw [HL.out], HD.1⟩, HD.2⟩
end Go.Proofs.Ytmjggjccmbiheab
