/- slices.Insert of one entry, and slices.Delete of one, step by step, on a row of the call's own. -/
import Derived.Test.YtmjggjccmbiheabRows2
namespace Go.Proofs.Ytmjggjccmbiheab
open Go.RowKit Go.Proofs Go.Sort
attribute [local go_sem] mk_list mk_size mk_data

theorem info38 : (Try.prog.info? 40).map (fun i => (i.zero, i.size, i.bytes)) = some (some (.agg #[.string ⟨#[]⟩, .int .i64 0]), 2, 24) := by kernel_rfl
theorem size38 : (Try.prog.info? 40).map (·.size) = some 2 := by kernel_rfl

theorem splice_take {L cs : List Value} {o : Nat} (h : o ≤ L.length) : (splice L o cs).take (o + cs.length) = L.take o ++ cs := by
  unfold splice
  rw [← List.append_assoc, List.take_append_of_le_length (by simp; omega), List.take_of_length_le (by simp; omega)]
theorem splice_len {L cs : List Value} {o : Nat} (h : o + cs.length ≤ L.length) : (splice L o cs).length = L.length := length_splice L o cs h
theorem splice_take_le {L cs : List Value} {o k : Nat} (hk : k ≤ o) (h : o ≤ L.length) : (splice L o cs).take k = L.take k := by
  unfold splice
  rw [List.take_append_of_le_length (by simp; omega), List.take_take, Nat.min_eq_left hk]
/-- Two splices, one behind the other, in either order. -/
theorem splice_two {L X Y Z : List Value} {o : Nat} (h0 : L.take o = X) (ho : o ≤ L.length) (h : o + Y.length + Z.length ≤ L.length) : (splice (splice L o Y) (o + Y.length) Z).take (o + Y.length + Z.length) = X ++ Y ++ Z := by
  rw [splice_take (by rw [splice_len (by omega)]; omega), splice_take ho, h0]
theorem splice_two' {L X Y Z : List Value} {o : Nat} (h0 : L.take o = X) (h : o + Y.length + Z.length ≤ L.length) : (splice (splice L (o + Y.length) Z) o Y).take (o + Y.length + Z.length) = X ++ Y ++ Z := by
  have hX : X.length = o := by rw [← h0]; simp; omega
  obtain ⟨E, hE⟩ : ∃ E, (L.drop o).take Y.length = E := ⟨_, rfl⟩
  have hEl : E.length = Y.length := by rw [← hE]; simp; omega
  obtain ⟨D, hD⟩ : ∃ D, L.drop (o + Y.length + Z.length) = D := ⟨_, rfl⟩
  have hs : splice L (o + Y.length) Z = X ++ (E ++ (Z ++ D)) := by
    unfold splice
    rw [List.take_add, h0, hE, hD, List.append_assoc]
  rw [hs]
  unfold splice
  have e1 : (X ++ (E ++ (Z ++ D))).take o = X := by rw [← hX, List.take_left]
  have e2 : (X ++ (E ++ (Z ++ D))).drop (o + Y.length) = Z ++ D := by
    rw [← hX, ← hEl, ← List.append_assoc, ← List.length_append, List.drop_left]
  rw [e1, e2, ← hX, ← List.append_assoc, ← List.append_assoc, ← List.length_append, ← List.length_append, List.take_left]

set_option maxHeartbeats 2000000 in
/-- At the end. -/
theorem ins_end (w0 w : World) (base vb : Nat) (v : Value) (n : Nat) (xs ys : List Value) (HO : w.ownsRow base 40 2 v n xs) (HB : Below base w0 w) (hbase : base ≤ w.heap.size)
    (hvb : w.heap[vb]? = some (.cells ys.toArray 40 (0, 0))) (hy : ys.length = 2) (h1 : ∀ u ∈ ys, u.oneCell' = true) (hn : n ≤ 1000000000000) :
    Calls Try.prog 49 #[v, .int .i64 n, .slice (some ⟨vb, 0, none⟩) 1 1] w fun e w' => ∃ v', e = .returned v' ∧ w'.ownsRow base 40 2 v' (n + 1) (xs ++ ys) ∧ Below base w0 w' := by
  have hcell : ∀ j u, ys[j]? = some u → w.cell? ((⟨vb, 0, none⟩ : Addr).add j) = some u := by
    intro j u hj
    have hadd : (⟨vb, 0, none⟩ : Addr).add j = ⟨vb, j, none⟩ := by unfold Addr.add; split <;> simp_all
    rw [hadd, cell_of_row w vb j ys.toArray 40 (0, 0) hvb]
    simpa using hj
  have HC := Lib.hid hcell
  have HOO := Lib.hid HO
  have H1 := Lib.hid h1
  have HL := Lib.hid hy
  have HBS := Lib.hid hbase
  obtain ⟨i0, hi, hzz⟩ := Option.map_eq_some_iff.1 info38
  simp only [Prod.mk.injEq] at hzz
  have HI := Lib.hid (And.intro hi hzz)
  have hg : ∀ w1, w.grownBy w1 v.ownBlock → Below base w0 w1 := fun w1 g => HB.grown g hbase (fun k hk => own_base HO k hk.symm)
  have HG := Lib.hid hg
  clear hcell hvb hbase hi hzz hg h1 hy
  rcases HO.2 with ⟨rfl, h0⟩ | ⟨g, cap, cur, rfl, hb, hg, hnc, hcm, hcs, ht⟩
  · subst h0
    clear HO
    go_enter Try.func49, Try.ntmps49
    go_wp2_with (at_builtin; refine wpList_append_own w rfl _ _ 36 rfl base 40 i0 _ 2 24 Try.underlying36 HI.out.1 HI.out.2.1 HI.out.2.2.1 HI.out.2.2.2 rfl (by decide) _ _ xs rfl HOO.out ⟨vb, 0, none⟩ 1 1 ys rfl (by rw [HL.out]) HC.out H1.out (by simp only [maxLen]; omega) (by omega) HBS.out ?_; intro v1 w1 ho1 hg1 _)
    go_ret
    exact ⟨_, rfl, ho1, HG.out w1 hg1⟩
  · clear HO hb hg hcs ht
    have hc63 : cap ≤ 9223372036854775807 := by simp only [maxLen] at hcm; omega
    clear hcm
    go_enter Try.func49, Try.ntmps49
    go_wp2_with (at_builtin; refine wpList_append_own w rfl _ _ 36 rfl base 40 i0 _ 2 24 Try.underlying36 HI.out.1 HI.out.2.1 HI.out.2.2.1 HI.out.2.2.2 rfl (by decide) _ _ xs rfl HOO.out ⟨vb, 0, none⟩ 1 1 ys rfl (by rw [HL.out]) HC.out H1.out (by simp only [maxLen]; omega) (by omega) HBS.out ?_; intro v1 w1 ho1 hg1 _)
    all_goals go_ret
    all_goals exact ⟨_, rfl, ho1, HG.out w1 hg1⟩

theorem row_cell {w : World} {g : Nat} {cur : List Value} {t : TypeId} {o : Nat} {cs : List Value} (hg : w.heap[g]? = some (.cells cur.toArray t (0, 0))) (h : ∀ (j : Nat) (v : Value), cs[j]? = some v → cur[o + j]? = some v) :
    ∀ j v, cs[j]? = some v → w.cell? ((⟨g, o, none⟩ : Addr).add j) = some v := by
  intro j u hj
  have hadd : (⟨g, o, none⟩ : Addr).add j = ⟨g, o + j, none⟩ := by unfold Addr.add; split <;> simp_all
  rw [hadd, cell_of_row w g (o + j) cur.toArray t (0, 0) hg]
  simpa using h j u hj

set_option maxRecDepth 100000 in
set_option maxHeartbeats 2000000 in
/-- No room. -/
theorem ins_grow (w0 w : World) (base vb g n i : Nat) (xs ys : List Value) (HO : w.ownsRow base 40 2 (.slice (some ⟨g, 0, none⟩) n n) n xs) (HB : Below base w0 w) (hbase : base ≤ w.heap.size)
    (hvb : w.heap[vb]? = some (.cells ys.toArray 40 (0, 0))) (hy : ys.length = 2) (h1 : ∀ u ∈ ys, u.oneCell' = true) (h1x : ∀ u ∈ xs, u.oneCell' = true) (hn : n ≤ 1000000000000) (hi : i < n) :
    Calls Try.prog 49 #[.slice (some ⟨g, 0, none⟩) n n, .int .i64 i, .slice (some ⟨vb, 0, none⟩) 1 1] w fun e w' => ∃ v', e = .returned v' ∧ w'.ownsRow base 40 2 v' (n + 1) (xs.take (i * 2) ++ ys ++ xs.drop (i * 2)) ∧ Below base w0 w' := by
  have hxl := HO.1
  have hvlt : vb < w.heap.size := (Array.getElem?_eq_some_iff.1 hvb).1
  have hglt := (HO.lt g rfl).2
  have hgx : ∀ j u, xs[j]? = some u → w.cell? ⟨g, j, none⟩ = some u := fun j u hj => by
    have := HO.cells (g := g) rfl j u hj
    rwa [show (⟨g, 0, none⟩ : Addr).add j = ⟨g, j, none⟩ from by unfold Addr.add; split <;> simp_all] at this
  obtain ⟨i0, hi0, hzz⟩ := Option.map_eq_some_iff.1 info38
  simp only [Prod.mk.injEq] at hzz
  obtain ⟨hz0, hz1, hz2⟩ := hzz
  have hold : (Builtin.firstCells i0.size i (.slice (some ⟨g, 0, none⟩) i n)).run Try.prog w.drew = .ok (xs.take (i * 2)).toArray w.drew := by
    rw [hz1]
    exact run_firstCells_some w.drew 2 i ⟨g, 0, none⟩ i n (xs.take (i * 2)) (by rw [List.length_take]; omega) (fun j v hj => by
      rw [show (⟨g, 0, none⟩ : Addr).add j = ⟨g, j, none⟩ from by unfold Addr.add; split <;> simp_all]
      rw [List.getElem?_take] at hj
      split at hj
      · exact hgx j v hj
      · cases hj)
  have hkk : (n : Int) + 1 - (i : Int) = ((n + 1 - i : Nat) : Int) := by omega
  have hik : i + (n + 1 - i) = n + 1 := by omega
  obtain ⟨G, hG⟩ : ∃ G, G = grownCap w (n + 1) n 40 := ⟨_, rfl⟩
  obtain ⟨L0, hL0⟩ : ∃ L0 : List Value, L0 = ((xs.take (i * 2)).toArray ++ Builtin.zeroCells (Value.agg #[.string ⟨#[]⟩, .int .i64 0]).cells (n + 1 - i) ++ Builtin.zeroCells (Value.agg #[.string ⟨#[]⟩, .int .i64 0]).cells (G - (n + 1))).toList := ⟨_, rfl⟩
  have hGn : n + 1 ≤ G := by rw [hG]; exact grownCap_ge w _ _ _
  have hGm : G ≤ maxLen := by rw [hG]; exact grownCap_le_maxLen w (n + 1) n 40 (by simp only [maxLen]; omega)
  have hrz : ∀ ty, (Builtin.append_ #[36, 3] ty #[.slice (some ⟨g, 0, none⟩) i n, .int .i64 ((n : Int) + 1 - (i : Int))]).run Try.prog w =
      .ok (.slice (some ⟨w.heap.size, 0, none⟩) (n + 1) G) (w.drew.alloc (.cells L0.toArray 40)) := fun ty => by
    have h := Lib.run_append_grow_zeros w 36 3 ty 40 i0 _ .i64 .i64 Try.underlying36 Try.underlying3 hi0 hz0 (some ⟨g, 0, none⟩) i n (xs.take (i * 2)) hold (n + 1 - i) (by omega) (by omega) (by omega) (by omega) (by rw [hz2]; omega) (by rw [hz2, hik]; exact growslice_fits (by omega) (by omega))
    rw [hik] at h
    rw [hkk, hL0, hG, h, Array.toArray_toList]
  have hLl : L0.length = G * 2 := by
    rw [hL0]
    simp [size_zeroCells, Value.cells]
    omega
  have hLt : L0.take (i * 2) = xs.take (i * 2) := by
    rw [hL0]
    simp only [Array.toList_append, List.append_assoc]
    rw [List.take_append_of_le_length (by simp; omega), List.take_of_length_le (by simp; omega)]
  obtain ⟨B1, hB1⟩ : ∃ B1, B1 = w.heap.size := ⟨_, rfl⟩
  rw [← hB1] at hrz hvlt hglt hbase
  obtain ⟨W1, hW1⟩ : ∃ W1, W1 = w.drew.alloc (.cells L0.toArray 40) := ⟨_, rfl⟩
  rw [← hW1] at hrz
  have hb1 : W1.heap[B1]? = some (.cells L0.toArray 40 (0, 0)) := by rw [hW1, hB1]; exact heap_alloc_new w.drew _
  have hlow : ∀ k, k < B1 → W1.heap[k]? = w.heap[k]? := fun k hk => by rw [hW1]; exact heap_alloc_old w.drew _ (by rw [hB1] at hk; exact hk)
  have hcA : ∀ j v, ys[j]? = some v → W1.cell? ((⟨vb, 0, none⟩ : Addr).add j) = some v := row_cell (by rw [hlow vb hvlt]; exact hvb) (fun j v h => by simpa using h)
  have hcpA := fun ty dc => run_copy_rowN (P := Try.prog) W1 36 36 ty 40 2 B1 (i * 2) (n + 1 - i) dc ⟨vb, 0, none⟩ 1 1 L0 40 ys Try.underlying36 size38 hb1 (by rw [hy, show Nat.min 1 (n + 1 - i) = 1 by simp only [Nat.min_def]; split <;> omega]) hcA (by omega) h1
  obtain ⟨W2, hW2⟩ : ∃ W2, W2 = W1.setRow B1 (splice L0 (i * 2) ys).toArray := ⟨_, rfl⟩
  rw [← hW2] at hcpA
  have hb2 : W2.heap[B1]? = some (.cells (splice L0 (i * 2) ys).toArray 40 (0, 0)) := by rw [hW2]; exact setRow_heap W1 B1 _ _ 40 _ hb1
  have hlow2 : ∀ k, k < B1 → W2.heap[k]? = w.heap[k]? := fun k hk => by rw [hW2, setRow_other _ _ _ _ (by omega)]; exact hlow k hk
  have hcB : ∀ j v, (xs.drop (i * 2))[j]? = some v → W2.drew.cell? ((⟨g, i * 2, none⟩ : Addr).add j) = some v := by
    intro j v hj
    rw [List.getElem?_drop] at hj
    rw [show (⟨g, i * 2, none⟩ : Addr).add j = ⟨g, i * 2 + j, none⟩ from by unfold Addr.add; split <;> simp_all]
    exact (World.cell?_of_block (w := w) (hlow2 g hglt)).trans (hgx _ v hj)
  have hl1 : (splice L0 (i * 2) ys).length = G * 2 := by rw [splice_len (by omega)]; exact hLl
  have hcpB := fun ty dc sc => run_copy_rowN (P := Try.prog) W2.drew 36 36 ty 40 2 B1 ((i + 1) * 2) (n - i) dc ⟨g, i * 2, none⟩ (n - i) sc (splice L0 (i * 2) ys) 40 (xs.drop (i * 2)) Try.underlying36 size38 hb2 (by rw [List.length_drop, show Nat.min (n - i) (n - i) = n - i by simp only [Nat.min_def]; split <;> omega]; omega) hcB (by rw [hl1, List.length_drop]; omega) (fun u hu => h1x u (List.mem_of_mem_drop hu))
  obtain ⟨W3, hW3⟩ : ∃ W3, W3 = W2.drew.setRow B1 (splice (splice L0 (i * 2) ys) ((i + 1) * 2) (xs.drop (i * 2))).toArray := ⟨_, rfl⟩
  rw [← hW3] at hcpB
  have hfin : W3.ownsRow base 40 2 (.slice (some ⟨B1, 0, none⟩) (n + 1) G) (n + 1) (xs.take (i * 2) ++ ys ++ xs.drop (i * 2)) ∧ Below base w0 W3 := by
    refine ⟨⟨?_, .inr ⟨B1, G, (splice (splice L0 (i * 2) ys) ((i + 1) * 2) (xs.drop (i * 2))).toArray, rfl, hbase, ?_, hGn, hGm, ?_, ?_⟩⟩, ?_⟩
    · simp; omega
    · rw [hW3]; exact setRow_heap _ _ _ _ 40 _ hb2
    · rw [List.size_toArray, splice_len (by rw [hl1, List.length_drop]; omega), hl1]
    · have := splice_two (L := L0) (X := xs.take (i * 2)) (Y := ys) (Z := xs.drop (i * 2)) (o := i * 2) hLt (by omega) (by rw [hy, List.length_drop]; omega)
      rw [hy, List.length_drop, hxl] at this
      rw [show (i + 1) * 2 = i * 2 + 2 by omega, show (n + 1) * 2 = i * 2 + 2 + (n * 2 - i * 2) by omega]
      exact this
    · rw [hW3]
      refine below_setRow ?_ hbase _
      refine Below.drew ?_
      rw [hW2]
      refine below_setRow ?_ hbase _
      rw [hW1]
      exact (HB.drew).alloc (by rw [hB1] at hbase; exact hbase) _
  have HF := Lib.hid hfin
  have HP := Lib.hid hcpA
  have HQ := Lib.hid hcpB
  have HR := Lib.hid hrz
  clear hfin hcpA hcpB hrz hcA hcB hb1 hb2 hW1 hW2 hW3 hlow hlow2 hl1 hLt hLl hL0 hG hold hgx hi0 hz0 hz1 hz2 hvb HO HB hB1 h1 h1x hxl hik hkk
  have hGi : ¬ (G = i) := by omega
  have hGi2 : ¬ (G = i + 1) := by omega
  have hin : i ≤ n := by omega
  have hni : ¬ ((i : Int) = (n : Int)) := by omega
  have hci : ¬ (n = i) := by omega
  have hcap : (n : Int) < (n : Int) + 1 := by omega
  have hw1 : IntKind.i64.wrap ((i : Int) + 1) = (i : Int) + 1 := by rw [IntKind.wrap_i64]; omega
  have hb1 : (0 : Int) ≤ (i : Int) + 1 := by omega
  have hb2 : (i : Int) + 1 ≤ (n : Int) + 1 := by omega
  have hb3 : (i : Int) ≤ (n : Int) := by omega
  have hb4 : ((i : Int) + 1).toNat = i + 1 := by omega
  go_enter Try.func49, Try.ntmps49
  go_wp2_with (at_builtin; refine Lib.wpList_append_run _ rfl _ _ _ _ rfl _ _ rfl rfl _ _ (HR.out _) ?_)
  rw [HP.out]
  simp only [Result.andThen_ok]
  rw [Oper.upon_value]
  go_wp2_with fail
  go_region_law (refine step_copy_run rfl _ _ 36 36 rfl (.slice (some ⟨B1, (i + 1) * 2, none⟩) (n - i) (G - (i + 1))) (.slice (some ⟨g, i * 2, none⟩) (n - i) (n - i)) (by simp [Act.eval, Act.put]) (by simp [Act.eval, Act.put]) (HQ.out _ _ _) ?_)
  all_goals go_wp2
  all_goals go_ret
  all_goals exact ⟨_, rfl, HF.out⟩

set_option maxRecDepth 100000 in
set_option maxHeartbeats 2000000 in
/-- There is room. -/
theorem ins_room (w0 w : World) (base vb g n c i : Nat) (xs ys : List Value) (HO : w.ownsRow base 40 2 (.slice (some ⟨g, 0, none⟩) n c) n xs) (HB : Below base w0 w)
    (hvb : w.heap[vb]? = some (.cells ys.toArray 40 (0, 0))) (hne : vb ≠ g) (hy : ys.length = 2) (h1 : ∀ u ∈ ys, u.oneCell' = true) (h1x : ∀ u ∈ xs, u.oneCell' = true) (hn : n ≤ 1000000000000) (hi : i < n) (hc : n + 1 ≤ c) :
    Calls Try.prog 49 #[.slice (some ⟨g, 0, none⟩) n c, .int .i64 i, .slice (some ⟨vb, 0, none⟩) 1 1] w fun e w' => ∃ v', e = .returned v' ∧ w'.ownsRow base 40 2 v' (n + 1) (xs.take (i * 2) ++ ys ++ xs.drop (i * 2)) ∧ Below base w0 w' := by
  have hxl := HO.1
  rcases HO.2 with ⟨h0, _⟩ | ⟨g', cap', cur, hv, hbase, hg, hnc, hcm, hcs, htake⟩
  · cases h0
  cases hv
  obtain ⟨L0, hL0⟩ : ∃ L0, L0 = cur.toList := ⟨_, rfl⟩
  have hg0 : w.heap[g]? = some (.cells L0.toArray 40 (0, 0)) := by rw [hL0]; simpa using hg
  have hLl : L0.length = c * 2 := by rw [hL0]; simpa using hcs
  rw [← hL0] at htake
  have hLt : L0.take (i * 2) = xs.take (i * 2) := by rw [← htake, List.take_take, Nat.min_eq_left (by omega)]
  have hget : ∀ (j : Nat) (v : Value), xs[j]? = some v → L0[j]? = some v := by
    intro j v hj
    rw [← htake, List.getElem?_take] at hj
    split at hj
    · exact hj
    · cases hj
  have hov : ∀ lb cb, (callFunc 57 #[.slice (some ⟨vb, 0, none⟩) 1 1, .slice (some ⟨g, (i + 1) * 2, none⟩) lb cb]).run Try.prog w = .ok (.value (.bool false)) w := fun lb cb => by
    rw [run_callFunc_extern Try.func57 (by kernel_rfl) (by kernel_rfl) (by kernel_rfl) (e := Extern.SlicesOverlaps.overlaps #[36, 36] #[4]) (by kernel_rfl),
      Lib.run_overlaps_apart w 36 4 40 Try.underlying36 2 Try.sizeOf40 ⟨vb, 0, none⟩ ⟨g, (i + 1) * 2, none⟩ 1 1 lb cb hne 40 40 2 (c * 2) (by simp [World.shape?, hvb, hy]) (by simp [World.shape?, hg0, hLl]) (by omega) (by simp [World.frozen?, hvb]) (by simp [World.frozen?, hvb])]
    rfl
  have hcA : ∀ j v, (xs.drop (i * 2))[j]? = some v → w.drew.cell? ((⟨g, i * 2, none⟩ : Addr).add j) = some v := row_cell (w := w.drew) hg0 (fun j v h => by rw [List.getElem?_drop] at h; exact hget _ v h)
  have hcpA := fun ty dc sc => run_copy_rowN (P := Try.prog) w.drew 36 36 ty 40 2 g ((i + 1) * 2) (n - i) dc ⟨g, i * 2, none⟩ (n + 1 - i) sc L0 40 (xs.drop (i * 2)) Try.underlying36 size38 hg0 (by rw [List.length_drop, show Nat.min (n + 1 - i) (n - i) = n - i by simp only [Nat.min_def]; split <;> omega]; omega) hcA (by rw [List.length_drop]; omega) (fun u hu => h1x u (List.mem_of_mem_drop hu))
  obtain ⟨W2, hW2⟩ : ∃ W2, W2 = w.drew.setRow g (splice L0 ((i + 1) * 2) (xs.drop (i * 2))).toArray := ⟨_, rfl⟩
  rw [← hW2] at hcpA
  have hb2 : W2.heap[g]? = some (.cells (splice L0 ((i + 1) * 2) (xs.drop (i * 2))).toArray 40 (0, 0)) := by rw [hW2]; exact setRow_heap w.drew g _ _ 40 _ hg0
  have hcB : ∀ j v, ys[j]? = some v → W2.cell? ((⟨vb, 0, none⟩ : Addr).add j) = some v := row_cell (by rw [hW2, setRow_other _ _ _ _ hne]; exact hvb) (fun j v h => by simpa using h)
  have hl1 : (splice L0 ((i + 1) * 2) (xs.drop (i * 2))).length = c * 2 := by rw [splice_len (by rw [List.length_drop]; omega)]; exact hLl
  have hcpB := fun ty dc => run_copy_rowN (P := Try.prog) W2 36 36 ty 40 2 g (i * 2) (n + 1 - i) dc ⟨vb, 0, none⟩ 1 1 (splice L0 ((i + 1) * 2) (xs.drop (i * 2))) 40 ys Try.underlying36 size38 hb2 (by rw [hy, show Nat.min 1 (n + 1 - i) = 1 by simp only [Nat.min_def]; split <;> omega]) hcB (by omega) h1
  obtain ⟨W3, hW3⟩ : ∃ W3, W3 = W2.setRow g (splice (splice L0 ((i + 1) * 2) (xs.drop (i * 2))) (i * 2) ys).toArray := ⟨_, rfl⟩
  rw [← hW3] at hcpB
  have hfin : W3.ownsRow base 40 2 (.slice (some ⟨g, 0, none⟩) (n + 1) c) (n + 1) (xs.take (i * 2) ++ ys ++ xs.drop (i * 2)) ∧ Below base w0 W3 := by
    refine ⟨⟨?_, .inr ⟨g, c, (splice (splice L0 ((i + 1) * 2) (xs.drop (i * 2))) (i * 2) ys).toArray, rfl, hbase, ?_, hc, hcm, ?_, ?_⟩⟩, ?_⟩
    · simp; omega
    · rw [hW3]; exact setRow_heap _ _ _ _ 40 _ hb2
    · rw [List.size_toArray, splice_len (by rw [hl1]; omega), hl1]
    · have := splice_two' (L := L0) (X := xs.take (i * 2)) (Y := ys) (Z := xs.drop (i * 2)) (o := i * 2) hLt (by rw [hy, List.length_drop]; omega)
      rw [hy, List.length_drop, hxl] at this
      rw [show (i + 1) * 2 = i * 2 + 2 by omega, show (n + 1) * 2 = i * 2 + 2 + (n * 2 - i * 2) by omega]
      exact this
    · rw [hW3]
      refine below_setRow ?_ hbase _
      rw [hW2]
      refine below_setRow ?_ hbase _
      exact HB.drew
  have HF := Lib.hid hfin
  have HP := Lib.hid hcpA
  have HQ := Lib.hid hcpB
  have hc63 : c ≤ 9223372036854775807 := by simp only [maxLen] at hcm; omega
  clear hfin hcpA hcpB hcA hcB hb2 hW2 hW3 hl1 hLt hLl hL0 hg0 hg hget hvb HO HB h1 h1x hxl htake hcs hcm hnc
  have hci : ¬ (c = i) := by omega
  have hci2 : ¬ (c = i + 1) := by omega
  have hin : i ≤ n := by omega
  have hni : ¬ ((i : Int) = (n : Int)) := by omega
  have hcap : ¬ ((c : Int) < (n : Int) + 1) := by omega
  have hw1 : IntKind.i64.wrap ((i : Int) + 1) = (i : Int) + 1 := by rw [IntKind.wrap_i64]; omega
  have hb1 : (0 : Int) ≤ (i : Int) + 1 := by omega
  have hb2 : (i : Int) + 1 ≤ (n : Int) + 1 := by omega
  have hb3 : (i : Int) ≤ (n : Int) + 1 := by omega
  have hb4 : ((i : Int) + 1).toNat = i + 1 := by omega
  go_enter Try.func49, Try.ntmps49
  go_wp2_with (simp only [hov])
  go_region_law (refine step_copy_run rfl _ _ 36 36 rfl (.slice (some ⟨g, (i + 1) * 2, none⟩) (n - i) (c - (i + 1))) (.slice (some ⟨g, i * 2, none⟩) (n + 1 - i) (c - i)) (by simp [Act.eval, Act.put]) (by simp [Act.eval, Act.put]) (HP.out _ _ _) ?_)
  go_wp2_with fail
  rw [HQ.out]
  simp only [Result.andThen_ok]
  rw [Oper.upon_value]
  go_wp2_with fail
  all_goals go_ret
  all_goals exact ⟨_, rfl, HF.out⟩
end Go.Proofs.Ytmjggjccmbiheab
