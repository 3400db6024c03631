/- Copy, step by step; a nil tree. -/
import Derived.Test.YtmjggjccmbiheabTreeMove
namespace Go.Proofs.Ytmjggjccmbiheab
open Go Go.RowKit Go.Proofs Go.Sort
attribute [local go_sem] mk_list mk_size mk_data field0 field1 field2 field3

/-- nodes[k] = x, x in block R. -/
theorem TreeAt.putAt {V : World} {t b : Nat} {S : TreeSt} (h : TreeAt V t b S) {k : Int} (hk : wfI k) (hc : S.cnt ≤ 1000000) (R : Nat) (kd up : Int) (da : Tx) (l : List En) (A : Option Addr) (c : Nat) (he : EntsAt V A l) (hR : V.heap[R]? = some (.cells #[.int .i64 kd, .int .i64 up, .string (mk da), .slice A l.length c] 51)) :
    ∃ w', (Instr.mapUpdate 52 (.map (some b)) (.int .i64 k) (.agg #[.int .i64 kd, .int .i64 up, .string (mk da), .slice A l.length c])).run Try.prog V.drew = .ok () w' ∧
      Hid (TreeAt w' t b (setM S k ⟨kd, up, da, l⟩) ∧ Keep t b V w') ∧ w'.cell? ⟨t, 0, none⟩ = some (.map (some b)) ∧ w'.cell? ⟨R, 0, none⟩ = some (.int .i64 kd) ∧ w'.cell? ⟨R, 1, none⟩ = some (.int .i64 up) ∧ w'.cell? ⟨R, 2, none⟩ = some (.string (mk da)) ∧ w'.cell? ⟨R, 3, none⟩ = some (.slice A l.length c) := by
  have hb1 : Below V.heap.size V V.drew := below_drewN (Below.refl _ _) 1
  obtain ⟨w', hrun, hT, hK⟩ := (h.below hb1).put hk hc ⟨kd, up, da, l⟩ A c (he.below hb1)
  have h0 := h
  obtain ⟨f, h1, h2, _⟩ := h
  have hRt : R ≠ t := by
    rintro rfl
    rw [h1] at hR
    simp at hR
  have hRb : R ≠ b := by
    rintro rfl
    have := blk_cell hR 0
    exact h2.noCell 0 _ this
  have hcell : ∀ i v, (#[.int .i64 kd, .int .i64 up, .string (mk da), .slice A l.length c] : Array Value)[i]? = some v → w'.cell? ⟨R, i, none⟩ = some v := fun i v hv => by
    rw [hK.cell (blk_lt hR) hRt hRb]
    show V.cell? _ = _
    rw [blk_cell hR]
    exact hv
  exact ⟨w', hrun, Lib.hid ⟨hT, (Keep.below hb1).trans hK⟩, hT.cell.1, hcell 0 _ rfl, hcell 1 _ rfl, hcell 2 _ rfl, hcell 3 _ rfl⟩

/-- How many nodes have numbers up to n. -/
def cntTo (S : TreeSt) : Nat → Nat
  | 0 => 0
  | n + 1 => cntTo S n + if (S.M ((n : Int) + 1)).isSome then 1 else 0
theorem cntTo_le (S : TreeSt) : ∀ n, cntTo S n ≤ n
  | 0 => Nat.le_refl _
  | n + 1 => by
    have := cntTo_le S n
    unfold cntTo
    split <;> omega
/-- The part of a tree with numbers up to n. -/
def upTo (S : TreeSt) (n : Nat) : TreeSt := ⟨fun k => if k ≤ n then S.M k else none, S.last, cntTo S n⟩
structure FullT (S : TreeSt) : Prop where
  low : ∀ k p, S.M k = some p → 1 ≤ k ∧ k ≤ S.last
  cnt : S.cnt = cntTo S S.last.toNat
  last : 0 ≤ S.last
theorem upTo_zero {S : TreeSt} (h : FullT S) : upTo S 0 = ⟨fun _ => none, S.last, 0⟩ := by
  unfold upTo cntTo
  congr 1
  funext k
  split
  · cases hm : S.M k with
    | none => rfl
    | some p => have := (h.low k p hm).1; rename_i hk; exact absurd hk (by omega)
  · rfl
theorem upTo_last {S : TreeSt} (h : FullT S) : upTo S S.last.toNat = S := by
  obtain ⟨M, last, cnt⟩ := S
  unfold upTo
  simp only
  have h1 := h.cnt
  have h2 := h.last
  simp only at h1 h2
  congr 1
  · funext k
    split
    · rfl
    · cases hm : M k with
      | none => rfl
      | some p => have := (h.low k p hm).2; rename_i hk; simp only at this; exact absurd this (by omega)
  · exact h1.symm
theorem upTo_none {S : TreeSt} {n : Nat} (h : S.M ((n : Int) + 1) = none) : upTo S (n + 1) = upTo S n := by
  unfold upTo
  congr 1
  · funext k
    by_cases e : k = (n : Int) + 1
    · subst e; rw [h]; simp
    · have : (k ≤ ((n + 1 : Nat) : Int)) ↔ (k ≤ (n : Int)) := by omega
      simp only [this]
  · show cntTo S n + _ = _
    rw [h]; simp
theorem upTo_some {S : TreeSt} {n : Nat} {p : PNode} (h : S.M ((n : Int) + 1) = some p) : upTo S (n + 1) = setM (upTo S n) ((n : Int) + 1) p := by
  unfold upTo setM
  simp only
  congr 1
  · funext k
    by_cases e : k = (n : Int) + 1
    · subst e; rw [h, upd_same]; simp
    · rw [upd_other _ _ e]
      have : (k ≤ ((n + 1 : Nat) : Int)) ↔ (k ≤ (n : Int)) := by omega
      simp only [this]
  · show cntTo S n + _ = _
    have hn : ¬ ((n : Int) + 1 ≤ (n : Int)) := by omega
    rw [h]
    simp [hn]
theorem TreeAt.nodeOk {W : World} {t b : Nat} {S : TreeSt} (h : TreeAt W t b S) {k : Int} (hk : wfI k) : ∃ A c, (∀ W', Below W.heap.size W W' → (Instr.lookup 52 (.map (some b)) (.int .i64 k) true).run Try.prog W' = .ok (.tuple #[.agg #[.int .i64 (pn (S.M k)).kind, .int .i64 (pn (S.M k)).up, .string (mk (pn (S.M k)).data), .slice A (pn (S.M k)).ents.length c], .bool (S.M k).isSome]) W') ∧ EntsAt W A (pn (S.M k)).ents := by
  obtain ⟨f, h1, h2, h3, h4⟩ := h
  have hl := fun W' hb => (h2.below (W' := W') hb).lookOk hk
  have h5 := h3 k
  cases hf : f k with
  | none =>
    rw [hf] at hl h5
    rw [← h5]
    exact ⟨none, 0, hl, .inl rfl⟩
  | some r =>
    rw [hf] at hl h5
    rw [← h5]
    exact ⟨r.A, r.c, hl, h4 k r hf⟩

def CopyTo (S : TreeSt) (W : World) (e : Ending) (w' : World) : Prop := (∃ t' b', e = .returned (.pointer (some ⟨t', 0, none⟩)) ∧ TreeAt w' t' b' S ∧ W.heap.size ≤ t' ∧ W.heap.size ≤ b') ∧ Below W.heap.size W w'
set_option maxRecDepth 100000 in
set_option maxHeartbeats 4000000 in
theorem tree_Copy (t b : Nat) (S : TreeSt) (W : World) (h : TreeAt W t b S) (hs : SmallT S) (hf : FullT S) :
    Calls Try.prog 15 #[.pointer (some ⟨t, 0, none⟩)] W (CopyTo S W) := by
  have HT := Lib.hid h
  have HS := Lib.hid (And.intro hs hf)
  obtain ⟨t0, t1, hlt⟩ := h.cell
  have hmm := @run_makeMap Try.prog
  obtain ⟨L, hL⟩ : ∃ L : Nat, S.last = L := ⟨S.last.toNat, by have := hf.last; omega⟩
  have HL := Lib.hid hL
  have hLb : (L : Int) ≤ 1000000 := by rw [← hL]; exact hs.last.2
  rw [hL] at t1
  clear h hs hf hL
  go_enter Try.func15, Try.ntmps15
  go_wp2_with fail
  obtain ⟨T, hT⟩ : ∃ T, W.heap.size + 1 = T := ⟨_, rfl⟩
  obtain ⟨B, hB⟩ : ∃ B, W.heap.size = B := ⟨_, rfl⟩
  have HTB : Hid (W.heap.size = B ∧ W.heap.size ≤ T) := Lib.hid ⟨hB, by omega⟩
  have H0 : Hid (TreeAt ((W.alloc (.map #[] 0)).alloc (.cells #[.map (some W.heap.size), .int .i64 (L : Int)] 54)) T B (upTo S 0) ∧ Below W.heap.size W ((W.alloc (.map #[] 0)).alloc (.cells #[.map (some W.heap.size), .int .i64 (L : Int)] 54))) := Lib.hid (by
    have hal : Below (W.alloc (.map #[] 0)).heap.size (W.alloc (.map #[] 0)) ((W.alloc (.map #[] 0)).alloc (.cells #[.map (some W.heap.size), .int .i64 (L : Int)] 54)) := (Below.refl _ _).alloc (Nat.le_refl _) _
    refine ⟨?_, ((Below.refl _ _).alloc (Nat.le_refl _) _).alloc (by simp) _⟩
    rw [upTo_zero HS.out.2, HL.out]
    refine ⟨fun _ => none, ?_, ?_, fun _ => rfl, fun k r hr => by cases hr⟩
    · have := heap_alloc_new (W.alloc (.map #[] 0)) (.cells #[.map (some W.heap.size), .int .i64 (L : Int)] 54)
      rw [World.size_alloc, hT] at this
      rw [← hB]
      exact this
    · rw [← hB]
      exact (MapAt.made W).below hal)
  obtain ⟨W0, hW0⟩ : ∃ W0, (W.alloc (.map #[] 0)).alloc (.cells #[.map (some W.heap.size), .int .i64 (L : Int)] 54) = W0 := ⟨_, rfl⟩
  rw [hW0] at H0 ⊢
  rw [hT]
  clear hW0 hT hB t0 t1 hlt
  go_loopg [4] L (fun g nv wx => ∃ k : Nat, k + g = L + 1 ∧ 1 ≤ k ∧ nv = .int .i64 k ∧ Hid (TreeAt wx T B (upTo S (k - 1))) ∧ Hid (Below W.heap.size W wx))
  case atStart => exact ⟨1, by omega, by omega, rfl, Lib.hid H0.out.1, Lib.hid H0.out.2⟩
  case round =>
    obtain ⟨k, hk, hk1, rfl, HC, HW⟩ := hrel
    have HT1 := Lib.hid (HT.out.below HW.out)
    obtain ⟨t0, t1, hlt⟩ := HT1.out.cell
    rw [HL.out] at t1
    cases gk with
    | zero =>
      obtain rfl : k = L + 1 := by omega
      have HC2 : Hid (TreeAt wr T B S) := Lib.hid (by
        have := HC.out
        rw [Nat.add_sub_cancel] at this
        have h2 := upTo_last HS.out.2
        rw [HL.out, Int.toNat_natCast] at h2
        rwa [h2] at this)
      go_wp2_with fail
      go_ret
      exact ⟨⟨T, B, rfl, HC2.out, HTB.out.2, Nat.le_of_eq HTB.out.1⟩, HW.out⟩
    | succ g =>
      have hkL : (k : Int) ≤ (L : Int) := by omega
      obtain ⟨m, rfl⟩ : ∃ m, k = m + 1 := ⟨k - 1, by omega⟩
      rw [Nat.add_sub_cancel] at HC
      obtain ⟨A, c, hln, he⟩ := HT1.out.nodeOk (k := ((m + 1 : Nat) : Int)) (wf_small (by omega) (by omega))
      have hln := hln _ (Below.refl _ _)
      have HE := Lib.hid he
      obtain ⟨q, hq⟩ : ∃ q : Int, ((m + 1 : Nat) : Int) = q := ⟨_, rfl⟩
      rw [hq] at hln HE hkL ⊢
      have HQ : Hid (q = (m : Int) + 1) := Lib.hid (by omega)
      have hq0 : 0 ≤ q := by omega
      clear he hq
      cases hm : S.M q with
      | none =>
        have HU : Hid (upTo S (m + 1) = upTo S m) := Lib.hid (upTo_none (by rw [← HQ.out]; exact hm))
        rw [hm] at hln
        simp only [Option.isSome_none, Ytmjggjccmbiheab.pn, Option.getD_none] at hln
        have hal : Below wr.heap.size wr (wr.alloc (.cells #[.int .i64 0, .int .i64 0, .string (mk []), .slice A 0 c] 51)) := (Below.refl _ _).alloc (Nat.le_refl _) _
        have HAL := Lib.hid hal
        clear hm hal
        simp only [List.length_nil] at hln
        go_wp2_with fail
        go_roundg g
        case measure => omega
        case rel => exact ⟨m + 1 + 1, by omega, by omega, by rw [HQ.out]; go_num, Lib.hid (by rw [Nat.add_sub_cancel, HU.out]; exact HC.out.below HAL.out), Lib.hid (ext_trans HW.out HAL.out)⟩
      | some p =>
        have HU : Hid (upTo S (m + 1) = setM (upTo S m) q p) := Lib.hid (by rw [HQ.out]; exact upTo_some (by rw [← HQ.out]; exact hm))
        rw [hm] at hln HE
        simp only [Option.isSome_some, Ytmjggjccmbiheab.pn, Option.getD_some] at hln HE
        have HPL := Lib.hid (HS.out.1.ents q p hm).1
        obtain ⟨kd, up, da, es⟩ := p
        simp only at hln HE HPL
        obtain ⟨W1, hW1⟩ : ∃ W1, wr.alloc (.cells #[.int .i64 kd, .int .i64 up, .string (mk da), .slice A es.length c] 51) = W1 := ⟨_, rfl⟩
        have HB1 : Hid (Below wr.heap.size wr W1 ∧ W1.heap[wr.heap.size]? = some (.cells #[.int .i64 kd, .int .i64 up, .string (mk da), .slice A es.length c] 51)) := Lib.hid (by rw [← hW1]; exact ⟨(Below.refl _ _).alloc (Nat.le_refl _) _, heap_alloc_new _ _⟩)
        have HCL := Lib.hid (ents_Clone A c es W1 (HE.out.below HB1.out.1) (by have := HPL.out; omega))
        have c3 := blk_cell HB1.out.2 3
        simp only [List.getElem?_toArray, List.getElem?_cons_zero, List.getElem?_cons_succ] at c3
        clear hm
        go_wp2_with fail
        refine HCL.out.mono ?_
        rintro e w2 ⟨v, rfl, ho, hb2⟩
        obtain ⟨A3, c3', rfl, he3, _⟩ := ho.at
        have HB2 := Lib.hid (hb2.block _ (blk_lt HB1.out.2) |>.trans HB1.out.2)
        have HWB : Hid (Below wr.heap.size wr w2) := Lib.hid (ext_trans HB1.out.1 hb2)
        have y3 := blk_cell HB2.out 3
        have z3 := blk_frozen HB2.out 3
        have hlt2 := blk_lt HB2.out
        simp only [List.getElem?_toArray, List.getElem?_cons_zero, List.getElem?_cons_succ] at y3
        obtain ⟨V, hV⟩ : ∃ V, w2.setCell ⟨wr.heap.size, 3, none⟩ (.slice A3 es.length c3') = V := ⟨_, rfl⟩
        have HV : Hid (V.heap[wr.heap.size]? = some (.cells #[.int .i64 kd, .int .i64 up, .string (mk da), .slice A3 es.length c3'] 51) ∧ Below wr.heap.size wr V ∧ Keep wr.heap.size wr.heap.size w2 V) := Lib.hid (by
          rw [← hV]
          exact ⟨heap_setCell_at HB2.out 3 _, HWB.out.setCell (p := ⟨wr.heap.size, 3, none⟩) (Nat.le_refl _) _, Keep.setR 3 _⟩)
        have HE3 : Hid (EntsAt V A3 es) := Lib.hid (by
          rcases he3 with h | ⟨g1, o1, h1, h2, h3⟩
          · exact .inl h
          · cases es with
            | nil => exact .inl rfl
            | cons x xs =>
              have hg : g1 ≠ wr.heap.size := by
                rintro rfl
                have h4 := h3 0 (by simp)
                rw [blk_cell HB2.out, blk_cell HB2.out] at h4
                match o1, h4 with
                | 0, h4 => simp at h4
                | 1, h4 => simp at h4
                | 2, h4 => simp at h4
                | 3, h4 => simp at h4
                | o + 4, h4 => simp at h4
              exact .inr ⟨g1, o1, h1, Nat.lt_of_lt_of_le h2 HV.out.2.2.size, fun j hj => ⟨(HV.out.2.2.cell h2 hg hg).trans (h3 j hj).1, (HV.out.2.2.cell h2 hg hg).trans (h3 j hj).2⟩⟩)
        obtain ⟨w', hrun, HR, s0, s1, s2, s3, s4⟩ := (HC.out.below HV.out.2.1).putAt (k := q) (wf_small hq0 (by omega)) (by show cntTo S m ≤ _; have := cntTo_le S m; omega) wr.heap.size kd up da es A3 c3' HE3.out HV.out.1
        have v0 : V.cell? ⟨T, 0, none⟩ = some (.map (some B)) := (HC.out.below HV.out.2.1).cell.1
        have v1 := blk_cell HV.out.1 0
        have v2 := blk_cell HV.out.1 1
        have v3 := blk_cell HV.out.1 2
        have v4 := blk_cell HV.out.1 3
        simp only [List.getElem?_toArray, List.getElem?_cons_zero, List.getElem?_cons_succ] at v1 v2 v3 v4
        rw [← HU.out] at HR
        clear ho hb2 he3 hln c3 t0 t1
        go_wp2_with fail
        try rw [hV]
        go_region_held3 (fun w' => w'.cell? ⟨T, 0, none⟩ = some (.map (some B)) ∧ w'.cell? ⟨wr.heap.size, 0, none⟩ = some (.int .i64 kd) ∧ w'.cell? ⟨wr.heap.size, 1, none⟩ = some (.int .i64 up) ∧ w'.cell? ⟨wr.heap.size, 2, none⟩ = some (.string (mk da)) ∧ w'.cell? ⟨wr.heap.size, 3, none⟩ = some (.slice A3 es.length c3')) (first | (with_reducible exact ⟨by assumption, by assumption, by assumption, by assumption, by assumption⟩) | go_keep) (fail)
        go_wp2_with fail
        go_roundg g
        case measure => omega
        case rel => exact ⟨m + 1 + 1, by omega, by omega, by rw [HQ.out]; go_num, Lib.hid (by rw [Nat.add_sub_cancel]; exact HR.out.1), Lib.hid (HR.out.2.under (ext_trans HW.out HV.out.2.1) HTB.out.2 (Nat.le_of_eq HTB.out.1) (Nat.le_trans HW.out.size HV.out.2.1.size))⟩
end Go.Proofs.Ytmjggjccmbiheab
