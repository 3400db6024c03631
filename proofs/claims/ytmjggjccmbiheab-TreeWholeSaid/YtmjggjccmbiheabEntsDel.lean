/- slices.Insert of one entry, whole; slices.Delete of one, step by step; slices.Clone of entries. -/
import Derived.Test.YtmjggjccmbiheabEntsIns
namespace Go.Proofs.Ytmjggjccmbiheab
open Go.RowKit Go.Proofs Go.Sort
attribute [local go_sem] mk_list mk_size mk_data

theorem slices_Insert (w0 w : World) (base vb n i : Nat) (v : Value) (xs ys : List Value) (HO : w.ownsRow base 40 2 v n xs) (HB : Below base w0 w) (hbase : base ≤ w.heap.size)
    (hvb : w.heap[vb]? = some (.cells ys.toArray 40 (0, 0))) (hne : v.ownBlock ≠ some vb) (hy : ys.length = 2) (h1 : ∀ u ∈ ys, u.oneCell' = true) (h1x : ∀ u ∈ xs, u.oneCell' = true) (hn : n ≤ 1000000000000) (hi : i ≤ n) :
    Calls Try.prog 49 #[v, .int .i64 i, .slice (some ⟨vb, 0, none⟩) 1 1] w fun e w' => ∃ v', e = .returned v' ∧ w'.ownsRow base 40 2 v' (n + 1) (xs.take (i * 2) ++ ys ++ xs.drop (i * 2)) ∧ Below base w0 w' := by
  by_cases hin : i = n
  · subst hin
    rw [List.take_of_length_le (by rw [HO.1]; exact Nat.le_refl _), List.drop_of_length_le (by rw [HO.1]; exact Nat.le_refl _), List.append_nil]
    exact ins_end w0 w base vb v i xs ys HO HB hbase hvb hy h1 hn
  · rcases HO.2 with ⟨rfl, h0⟩ | ⟨g, cap, cur, rfl, hb, hg, hnc, hcm, hcs, ht⟩
    · omega
    · by_cases hc : n + 1 ≤ cap
      · exact ins_room w0 w base vb g n cap i xs ys HO HB hvb (by rintro rfl; exact hne rfl) hy h1 h1x hn (by omega) hc
      · obtain rfl : cap = n := by omega
        exact ins_grow w0 w base vb g cap i xs ys HO HB hbase hvb hy h1 h1x hn (by omega)

theorem zero2 : (Builtin.zeroCells (Value.agg #[.string ⟨#[]⟩, .int .i64 0]).cells 1).toList = [.string ⟨#[]⟩, .int .i64 0] := by kernel_rfl

set_option maxRecDepth 100000 in
set_option maxHeartbeats 2000000 in
theorem slices_Delete (w0 w : World) (base m i : Nat) (v : Value) (xs : List Value) (HO : w.ownsRow base 40 2 v (i + 1 + m) xs) (HB : Below base w0 w) (h1x : ∀ u ∈ xs, u.oneCell' = true) (hn : i + 1 + m ≤ 1000000000000) :
    Calls Try.prog 50 #[v, .int .i64 i, .int .i64 ((i : Int) + 1)] w fun e w' => ∃ v', e = .returned v' ∧ w'.ownsRow base 40 2 v' (i + m) (xs.take (i * 2) ++ xs.drop ((i + 1) * 2)) ∧ Below base w0 w' := by
  have hxl := HO.1
  rcases HO.2 with ⟨h0, h00⟩ | ⟨g, c, cur, rfl, hbase, hg, hnc, hcm, hcs, htake⟩
  · omega
  obtain ⟨L0, hL0⟩ : ∃ L0, L0 = cur.toList := ⟨_, rfl⟩
  have hg0 : w.heap[g]? = some (.cells L0.toArray 40 (0, 0)) := by rw [hL0]; simpa using hg
  have hLl : L0.length = c * 2 := by rw [hL0]; simpa using hcs
  rw [← hL0] at htake
  have hLt : L0.take (i * 2) = xs.take (i * 2) := by rw [← htake, List.take_take, Nat.min_eq_left (by omega)]
  have hget : ∀ (j : Nat) (v : Value), xs[j]? = some v → L0[j]? = some v := by
    intro j v hj
    rw [← htake, List.getElem?_take] at hj
    split at hj
    · exact hj
    · cases hj
  obtain ⟨i0, hi0, hzz⟩ := Option.map_eq_some_iff.1 info38
  simp only [Prod.mk.injEq] at hzz
  obtain ⟨hz0, hz1, hz2⟩ := hzz
  obtain ⟨ns, hns⟩ : ∃ ns, ns = xs.drop ((i + 1) * 2) := ⟨_, rfl⟩
  have hnl : ns.length = m * 2 := by rw [hns, List.length_drop]; omega
  have hcA : ∀ off, (m = 0 ∨ off = (i + 1) * 2) → ∀ j v, ns[j]? = some v → w.drew.cell? ((⟨g, off, none⟩ : Addr).add j) = some v := by
    intro off ho j v hj
    rcases ho with rfl | rfl
    · rw [List.eq_nil_of_length_eq_zero (l := ns) (by omega)] at hj; cases hj
    · exact row_cell (w := w.drew) hg0 (cs := ns) (fun j v h => by rw [hns, List.getElem?_drop] at h; exact hget _ v h) j v hj
  have hap := fun off sc ty ho => run_append_room (P := Try.prog) w.drew 36 ty 40 i0 Try.underlying36 hi0 g i c L0.toArray hg0 ⟨g, off, none⟩ m sc ns (by rw [hnl, hz1]) (hcA off ho) (fun u hu => h1x u (by rw [hns] at hu; exact List.mem_of_mem_drop hu)) (by omega) (by rw [hnl, hz1, List.size_toArray, hLl]; omega)
  have hsp : L0.toArray.toList.take (i * i0.size) ++ ns ++ L0.toArray.toList.drop (i * i0.size + ns.length) = splice L0 (i * 2) ns := by
    rw [hz1, List.append_assoc]; rfl
  rw [hsp] at hap
  obtain ⟨W2, hW2⟩ : ∃ W2, W2 = w.drew.setRow g (splice L0 (i * 2) ns).toArray := ⟨_, rfl⟩
  rw [← hW2] at hap
  have hb2 : W2.heap[g]? = some (.cells (splice L0 (i * 2) ns).toArray 40 (0, 0)) := by rw [hW2]; exact setRow_heap w.drew g _ _ 40 _ hg0
  have hl1 : (splice L0 (i * 2) ns).length = c * 2 := by rw [splice_len (by omega)]; exact hLl
  have hcl := fun ty sc => run_clear_row (P := Try.prog) W2 36 40 ty _ 2 g ((i + m) * 2) 1 sc Try.underlying36 Try.zeroValue40 rfl (by rw [zero2]; intro u hu; simp at hu; rcases hu with rfl | rfl <;> rfl) (by omega) (splice L0 (i * 2) ns) 40 hb2 (by omega)
  obtain ⟨zs, hzs⟩ : ∃ zs, zs = (Builtin.zeroCells (Value.agg #[.string ⟨#[]⟩, .int .i64 0]).cells 1).toList := ⟨_, rfl⟩
  obtain ⟨W3, hW3⟩ : ∃ W3, W3 = W2.setRow g (splice (splice L0 (i * 2) ns) ((i + m) * 2) zs).toArray := ⟨_, rfl⟩
  rw [← hzs, ← hW3] at hcl
  have hzl : zs.length = 2 := by rw [hzs, zero2]; rfl
  have hfin : W3.ownsRow base 40 2 (.slice (some ⟨g, 0, none⟩) (i + m) c) (i + m) (xs.take (i * 2) ++ ns) ∧ Below base w0 W3 := by
    refine ⟨⟨?_, .inr ⟨g, c, (splice (splice L0 (i * 2) ns) ((i + m) * 2) zs).toArray, rfl, hbase, ?_, by omega, hcm, ?_, ?_⟩⟩, ?_⟩
    · simp; omega
    · rw [hW3]; exact setRow_heap _ _ _ _ 40 _ hb2
    · rw [List.size_toArray, splice_len (by omega), hl1]
    · show (splice (splice L0 (i * 2) ns) ((i + m) * 2) zs).take ((i + m) * 2) = _
      rw [splice_take_le (Nat.le_refl _) (by omega)]
      have := splice_take (L := L0) (cs := ns) (o := i * 2) (by omega)
      rw [hnl, hLt] at this
      rw [show (i + m) * 2 = i * 2 + m * 2 by omega]
      exact this
    · rw [hW3]
      refine below_setRow ?_ hbase _
      rw [hW2]
      refine below_setRow ?_ hbase _
      exact HB.drew
  have HF := Lib.hid hfin
  have HP := Lib.hid hap
  have HQ := Lib.hid hcl
  have HN := Lib.hid hns
  have hc63 : c ≤ 9223372036854775807 := by simp only [maxLen] at hcm; omega
  clear hfin hap hcl hcA hb2 hW2 hW3 hzs hzl hsp hl1 hLt hLl hL0 hg0 hg hget HO HB h1x hxl htake hcs hcm hi0 hz0 hz1 hz2 hnl hns
  have hw1 : IntKind.i64.wrap ((i : Int) + 1) = (i : Int) + 1 := by rw [IntKind.wrap_i64]; omega
  have hb1 : (0 : Int) ≤ (i : Int) + 1 := by omega
  have hb4 : ((i : Int) + 1).toNat = i + 1 := by omega
  have hb5 : (i : Int) ≤ (i : Int) + 1 := by omega
  have hb6 : (i : Int) + 1 ≤ (i : Int) + 1 + (m : Int) := by omega
  have hb7 : (i : Int) ≤ (c : Int) := by omega
  have hcim : ¬ (c = i + m) := by omega
  have hcw : ((i : Int) + (m : Int)) ≤ (i : Int) + 1 + (m : Int) := by omega
  by_cases hcc : c = i + 1
  · have hm0 : m = 0 := by omega
    have HP2 := Lib.hid (fun sc ty => HP.out 0 sc ty (.inl hm0))
    subst hm0
    subst hcc
    rw [Nat.add_zero] at HF HQ HP2 ⊢
    go_enter Try.func50, Try.ntmps50
    go_wp2_with fail
    go_region_law (go_loud (refine step_append_run rfl _ _ 36 36 rfl (.slice (some ⟨g, 0, none⟩) i (i + 1)) (.slice (some ⟨g, 0, none⟩) 0 0) (by simp [Act.eval, Act.put]) (by simp [Act.eval, Act.put]) (HP2.out _ _) ?_))
    go_wp2_with fail
    rw [HQ.out]
    simp only [Result.andThen_ok]
    rw [Oper.upon_value]
    go_wp2_with fail
    all_goals go_ret
    all_goals exact ⟨_, rfl, by rw [← HN.out]; exact HF.out⟩
  · have HP2 := Lib.hid (fun sc ty => HP.out ((i + 1) * 2) sc ty (.inr rfl))
    go_enter Try.func50, Try.ntmps50
    go_wp2_with fail
    go_region_law (go_loud (refine step_append_run rfl _ _ 36 36 rfl (.slice (some ⟨g, 0, none⟩) i c) (.slice (some ⟨g, (i + 1) * 2, none⟩) m (c - (i + 1))) (by simp [Act.eval, Act.put]) (by simp [Act.eval, Act.put]) (HP2.out _ _) ?_))
    go_wp2_with fail
    rw [show i + 1 + m - (i + m) = 1 by omega, HQ.out]
    simp only [Result.andThen_ok]
    rw [Oper.upon_value]
    go_wp2_with fail
    all_goals go_ret
    all_goals exact ⟨_, rfl, by rw [← HN.out]; exact HF.out⟩

def encE (e : En) : List Value := [.string (mk e.1), .int .i64 e.2]
def cellsE (xs : List En) : List Value := xs.flatMap encE
theorem cellsE_cons (e : En) (xs : List En) : cellsE (e :: xs) = encE e ++ cellsE xs := rfl
theorem cellsE_append (xs ys : List En) : cellsE (xs ++ ys) = cellsE xs ++ cellsE ys := List.flatMap_append
theorem cellsE_length : ∀ xs : List En, (cellsE xs).length = xs.length * 2
  | [] => rfl
  | e :: xs => by rw [cellsE_cons, List.length_append, cellsE_length xs]; simp [encE]; omega
theorem cellsE_take (xs : List En) (i : Nat) : (cellsE xs).take (i * 2) = cellsE (xs.take i) := by
  induction xs generalizing i with
  | nil => simp [cellsE]
  | cons e xs ih =>
    cases i with
    | zero => simp [cellsE]
    | succ i =>
      rw [List.take_succ_cons, cellsE_cons, cellsE_cons, ← ih, show (i + 1) * 2 = 2 + i * 2 by omega, List.take_append, List.take_of_length_le (by simp [encE])]
      simp [encE]
theorem cellsE_drop (xs : List En) (i : Nat) : (cellsE xs).drop (i * 2) = cellsE (xs.drop i) := by
  induction xs generalizing i with
  | nil => simp [cellsE]
  | cons e xs ih =>
    cases i with
    | zero => simp
    | succ i =>
      rw [List.drop_succ_cons, cellsE_cons, ← ih, show (i + 1) * 2 = 2 + i * 2 by omega, List.drop_append]
      simp [encE]
theorem cellsE_at : ∀ (xs : List En) (j : Nat) (h : j < xs.length), (cellsE xs)[j * 2]? = some (.string (mk xs[j].1)) ∧ (cellsE xs)[j * 2 + 1]? = some (.int .i64 xs[j].2)
  | [], _, h => by simp at h
  | e :: xs, 0, _ => ⟨rfl, rfl⟩
  | e :: xs, j + 1, h => by
    have := cellsE_at xs j (by simpa using h)
    rw [cellsE_cons, show (j + 1) * 2 = j * 2 + 2 by omega, show j * 2 + 2 + 1 = (j * 2 + 1) + 2 by omega]
    rw [List.getElem?_append_right (by simp [encE]), List.getElem?_append_right (by simp [encE])]
    simpa [encE] using this
theorem cellsE_one (xs : List En) : ∀ u ∈ cellsE xs, u.oneCell' = true := by
  intro u hu
  obtain ⟨e, _, he⟩ := List.mem_flatMap.1 hu
  simp [encE] at he
  rcases he with rfl | rfl <;> rfl

/-- A row of the call's own, of entries. -/
def OwnE (w : World) (base : Nat) (v : Value) (xs : List En) : Prop := w.ownsRow base 40 2 v xs.length (cellsE xs)
theorem OwnE.at {w : World} {base : Nat} {v : Value} {xs : List En} (h : OwnE w base v xs) : ∃ a c, v = .slice a xs.length c ∧ EntsAt w a xs ∧ xs.length ≤ c := by
  rcases h.2 with ⟨rfl, h0⟩ | ⟨g, cap, cur, rfl, hb, hg, hn, hm, hs, ht⟩
  · exact ⟨none, 0, by rw [h0], .inl (List.eq_nil_of_length_eq_zero h0), by omega⟩
  · refine ⟨_, cap, rfl, ?_, hn⟩
    refine .inr ⟨g, 0, rfl, (Array.getElem?_eq_some_iff.1 hg).1, fun j hj => ?_⟩
    have h1 := h.cells (g := g) rfl (j * 2) _ (cellsE_at xs j hj).1
    have h2 := h.cells (g := g) rfl (j * 2 + 1) _ (cellsE_at xs j hj).2
    rw [show (⟨g, 0, none⟩ : Addr).add (j * 2) = ⟨g, 0 + j * 2, none⟩ from by unfold Addr.add; split <;> simp_all] at h1
    rw [show (⟨g, 0, none⟩ : Addr).add (j * 2 + 1) = ⟨g, 0 + j * 2 + 1, none⟩ from by unfold Addr.add; split <;> simp_all] at h2
    exact ⟨h1, h2⟩

theorem ents_cells {w : World} {b off : Nat} {xs : List En} (hc : ∀ (j : Nat) (h : j < xs.length), w.cell? ⟨b, off + j * 2, none⟩ = some (.string (mk xs[j].1)) ∧ w.cell? ⟨b, off + j * 2 + 1, none⟩ = some (.int .i64 xs[j].2)) :
    ∀ j u, (cellsE xs)[j]? = some u → w.cell? ⟨b, off + j, none⟩ = some u := by
  intro j u hj
  have hlt : j < xs.length * 2 := by
    have := (List.getElem?_eq_some_iff.1 hj).1
    rwa [cellsE_length] at this
  have h1 := cellsE_at xs (j / 2) (by omega)
  have h2 := hc (j / 2) (by omega)
  rcases Nat.mod_two_eq_zero_or_one j with hm | hm
  · rw [show j = j / 2 * 2 by omega] at hj ⊢
    rw [h1.1] at hj
    rw [h2.1]; exact hj
  · rw [show j = j / 2 * 2 + 1 by omega] at hj ⊢
    rw [h1.2] at hj
    rw [← Nat.add_assoc, h2.2]; exact hj

set_option maxRecDepth 100000 in
theorem clone_zero (ad : Addr) (c : Nat) (w : World) : Calls Try.prog 26 #[.slice (some ad) 0 c] w fun e w' => ∃ v', e = .returned v' ∧ OwnE w' w.heap.size v' [] ∧ Below w.heap.size w w' := by
  obtain ⟨i0, hi, hzz⟩ := Option.map_eq_some_iff.1 info38
  simp only [Prod.mk.injEq] at hzz
  have q36 : ∀ (w : World) (a : Option Addr) (n c n' c' : Nat), (binOp .eql 36 (.slice a n c) (.slice none n' c')).run Try.prog w = .ok (.bool a.isNone) w := fun w a n c n' c' => Lib.run_eql_slice_nil w _ _ a n c n' c' Try.underlying36
  have HZ := Lib.hid hzz
  clear hzz
  go_enter Try.func26, Try.ntmps26
  go_wp2_with (at_builtin; refine wpList_append_own _ rfl _ _ 36 rfl w.heap.size 40 i0 _ 2 24 Try.underlying36 hi HZ.out.1 HZ.out.2.1 HZ.out.2.2 rfl (by decide) _ _ _ rfl (World.ownsRow_made w #[] 0 (Nat.le_refl _) (Nat.zero_le _) rfl) ad 0 c [] rfl rfl (by intro j u hj; simp at hj) (by intro u hu; cases hu) (by unfold maxLen; omega) (by omega) (by simp) ?_)
  intro v' w1 hown hgrow hnil
  go_wp2
  go_ret
  refine ⟨v', rfl, by simpa [OwnE, cellsE] using hown, ?_⟩
  exact ((Below.refl _ _).alloc (Nat.le_refl _) _).grown hgrow (by simp) (fun k hk => by simp [Value.ownBlock] at hk; omega)

theorem ents_Clone (a : Option Addr) (c : Nat) (xs : List En) (w : World) (h : EntsAt w a xs) (hl : xs.length ≤ 1000000000000) :
    Calls Try.prog 26 #[.slice a xs.length c] w fun e w' => ∃ v', e = .returned v' ∧ OwnE w' w.heap.size v' xs ∧ Below w.heap.size w w' := by
  obtain ⟨i0, hi, hzz⟩ := Option.map_eq_some_iff.1 info38
  simp only [Prod.mk.injEq] at hzz
  cases a with
  | none =>
    have hx : xs = [] := by
      rcases h with h | ⟨b, off, e, _⟩
      · exact h
      · cases e
    subst hx
    refine (AnyE.slices_Clone_nil Try.laysCl26 0 c w).mono ?_
    rintro e w' ⟨rfl, rfl⟩
    exact ⟨_, rfl, World.ownsRow_nil w' _ 40 2, Below.refl _ _⟩
  | some ad =>
    rcases h with rfl | ⟨b, off, e, hlt, hc⟩
    · exact clone_zero ad c w
    · cases e
      refine (AnyE.slices_Clone Try.laysCl26 i0 _ 2 24 hi hzz.1 hzz.2.1 hzz.2.2 rfl (by decide) Try.sizeOf40 b off xs.length c (cellsE xs) w (cellsE_length xs) (by simp only [maxLen]; omega) (by omega) (ents_cells hc) (cellsE_one xs)).mono ?_
      rintro e w' ⟨v', rfl, ho, _, hb⟩
      exact ⟨v', rfl, ho, hb⟩
end Go.Proofs.Ytmjggjccmbiheab
