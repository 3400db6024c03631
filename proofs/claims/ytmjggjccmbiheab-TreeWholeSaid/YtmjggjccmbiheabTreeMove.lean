/- Move, step by step. -/
import Derived.Test.YtmjggjccmbiheabTreeRoom
namespace Go.Proofs.Ytmjggjccmbiheab
open Go Go.RowKit Go.Proofs Go.Sort
attribute [local go_sem] mk_list mk_size mk_data field0 field1 field2 field3

/-- Bounds that a few turns keep. -/
structure LenT (S : TreeSt) (N : Nat) : Prop where
  ents : ∀ k p, S.M k = some p → p.ents.length ≤ N
  cnt : S.cnt ≤ N
theorem SmallT.len {S : TreeSt} (h : SmallT S) : LenT S 100000 := ⟨fun k p hp => (h.ents k p hp).1, h.cnt⟩
theorem LenT.pn {S : TreeSt} {N : Nat} (h : LenT S N) (k : Int) : (pn (S.M k)).ents.length ≤ N := by
  cases hm : S.M k with
  | none => simp [Ytmjggjccmbiheab.pn]
  | some p => exact h.ents k p hm
theorem LenT.set {S : TreeSt} {N : Nat} (h : LenT S N) (k : Int) (p : PNode) (hp : p.ents.length ≤ N + 1) : LenT (setM S k p) (N + 1) := by
  refine ⟨fun n q hq => ?_, ?_⟩
  · unfold setM at hq
    simp only at hq
    by_cases e : n = k
    · subst e; rw [upd_same] at hq; cases hq; exact hp
    · rw [upd_other _ _ e] at hq; have := h.ents n q hq; omega
  · unfold setM
    simp only
    have := h.cnt
    split <;> omega
theorem LenT.del {S : TreeSt} {N : Nat} (h : LenT S N) (k : Int) : LenT (delM S k) N := by
  refine ⟨fun n q hq => ?_, ?_⟩
  · unfold delM at hq
    simp only at hq
    by_cases e : n = k
    · subst e; rw [upd_same] at hq; cases hq
    · rw [upd_other _ _ e] at hq; exact h.ents n q hq
  · unfold delM
    simp only
    have := h.cnt
    split <;> omega
theorem LenT.more {S : TreeSt} {N : Nat} (h : LenT S N) : LenT S (N + 1) := ⟨fun k p hp => Nat.le_succ_of_le (h.ents k p hp), Nat.le_succ_of_le h.cnt⟩
theorem LenT.enter {S : TreeSt} {N : Nat} (h : LenT S N) (d : Int) (l : List En) (hl : l.length ≤ N + 1) : LenT (enterS S d l) (N + 1) := h.set d _ hl
theorem LenT.cutS {S : TreeSt} {N : Nat} (h : LenT S N) (d : Int) (s : Tx) : LenT (cutS S d s).1 (N + 1) := by
  unfold Ytmjggjccmbiheab.cutS
  split
  · exact h.more
  · split
    · exact h.more
    · split
      · exact h.more
      · exact (h.del _).enter d _ (Nat.le_succ_of_le (Nat.le_trans (cutP_le _ _) ((h.del _).pn d)))
theorem LenT.room {S : TreeSt} {N : Nat} (h : LenT S N) (n to_ : Int) (as_ : Tx) : LenT (roomS S n to_ as_).1 (N + 1) := by
  unfold roomS
  split
  · exact h.more
  · split
    · exact h.more
    · split
      · exact h.more
      · split
        · exact h.more
        · exact h.cutS to_ as_

def move2 (S : TreeSt) (n to_ : Int) : TreeSt := setM S n { pn (S.M n) with up := to_ }
def move3 (S : TreeSt) (n from_ : Int) (s : Tx) (to_ : Int) : TreeSt := enterS (move2 S n to_) from_ (cutP (pn ((move2 S n to_).M from_)).ents s)
def moveEnd (S : TreeSt) (n from_ : Int) (s : Tx) (to_ : Int) (as_ : Tx) : TreeSt := enterS (move3 S n from_ s to_) to_ (putP (pn ((move3 S n from_ s to_).M to_)).ents (as_, n))
def moveS (S : TreeSt) (rk : Int → Nat) (from_ : Int) (s : Tx) (to_ : Int) (as_ : Tx) : TreeSt × Int :=
  if dirE S from_ ≠ 0 then (S, dirE S from_) else
  if dirE S to_ ≠ 0 then (S, dirE S to_) else
  if (findN S from_ s).2 = false then (S, 5) else
  if checkI as_ ≠ 0 then (S, checkI as_) else
  if ((pn (S.M (findN S from_ s).1)).kind == 1 && insF S (findN S from_ s).1 (rk to_) to_) = true then (S, 14) else
  if ((roomS S (findN S from_ s).1 to_ as_).2.1 || ((roomS S (findN S from_ s).1 to_ as_).2.2 != 0)) = true then ((roomS S (findN S from_ s).1 to_ as_).1, (roomS S (findN S from_ s).1 to_ as_).2.2) else
  (moveEnd (roomS S (findN S from_ s).1 to_ as_).1 (findN S from_ s).1 from_ s to_ as_, 0)
theorem LenT.move2 {S : TreeSt} {N : Nat} (h : LenT S N) (n to_ : Int) : LenT (move2 S n to_) (N + 1) := h.set n _ (Nat.le_succ_of_le (h.pn n))
theorem LenT.move3 {S : TreeSt} {N : Nat} (h : LenT S N) (n from_ : Int) (s : Tx) (to_ : Int) : LenT (move3 S n from_ s to_) (N + 2) :=
  (h.move2 n to_).enter from_ _ (Nat.le_succ_of_le (Nat.le_trans (cutP_le _ _) ((h.move2 n to_).pn from_)))

set_option maxRecDepth 100000 in
set_option maxHeartbeats 8000000 in
theorem tree_Move (t b : Nat) (S : TreeSt) (from_ : Int) (s : Tx) (to_ : Int) (as_ : Tx) (W : World) (h : TreeAt W t b S) (hs : SmallT S) (hf : wfI from_) (ht : wfI to_) (hla : as_.length ≤ 140737488351300)
    (rk : Int → Nat) (Good : Int → Prop) (hr : Ranked S rk Good) (hg : dirE S to_ = 0 → Good to_) :
    Calls Try.prog 20 #[.pointer (some ⟨t, 0, none⟩), .int .i64 from_, .string (mk s), .int .i64 to_, .string (mk as_)] W (OpTo t b (moveS S rk from_ s to_ as_) W) := by
  have HT := Lib.hid h
  have HK := Lib.hid (And.intro hf ht)
  have HSM := Lib.hid hs
  have HD1 : Hid (∀ W', Below W.heap.size W W' → Calls Try.prog 28 #[.pointer (some ⟨t, 0, none⟩), .int .i64 from_] W' fun e w' => e = .returned (.int .i64 (dirE S from_)) ∧ Below W'.heap.size W' w') := Lib.hid (fun W' hb => tree_dir t b S from_ W' (h.below hb) hf)
  have HD2 : Hid (∀ W', Below W.heap.size W W' → Calls Try.prog 28 #[.pointer (some ⟨t, 0, none⟩), .int .i64 to_] W' fun e w' => e = .returned (.int .i64 (dirE S to_)) ∧ Below W'.heap.size W' w') := Lib.hid (fun W' hb => tree_dir t b S to_ W' (h.below hb) ht)
  have HC := Lib.hid (fun w => name_Check as_ w hla)
  obtain ⟨q1, hq1⟩ : ∃ q, dirE S from_ = q := ⟨_, rfl⟩
  obtain ⟨q2, hq2⟩ : ∃ q, dirE S to_ = q := ⟨_, rfl⟩
  obtain ⟨ck, hck⟩ : ∃ ck, checkI as_ = ck := ⟨_, rfl⟩
  obtain ⟨fi, hfi⟩ : ∃ fi, findN S from_ s = fi := ⟨_, rfl⟩
  obtain ⟨n, ok⟩ := fi
  have HN : Hid (wfI n) := Lib.hid (by have := find_bnd hs from_ s; rw [hfi] at this; exact wf_small this.1 (by have := this.2; simp only at this; omega))
  have HFI := Lib.hid hfi
  obtain ⟨r, hrr⟩ : ∃ r, moveS S rk from_ s to_ as_ = r := ⟨_, rfl⟩
  have HR := Lib.hid hrr.symm
  unfold moveS at HR
  rw [hq1, hq2, hck, hfi] at HR
  have HIN : Hid (q2 = 0 → ∀ W', Below W.heap.size W W' → Calls Try.prog 39 #[.pointer (some ⟨t, 0, none⟩), .int .i64 to_, .int .i64 n] W' fun e w' => e = .returned (.bool (insF S n (rk to_) to_)) ∧ W' = w') := Lib.hid (fun h0 W' hb => tree_inside t b S to_ n W' (h.below hb) rk Good hr (hg (hq2.trans h0)))
  have HRO := Lib.hid (fun W' (hb : Below W.heap.size W W') => tree_room t b S n to_ as_ W' (h.below hb) hs HN.out ht)
  have HLR := Lib.hid (hs.len.room n to_ as_)
  rw [hrr]
  rw [hq1] at HD1
  rw [hq2] at HD2
  rw [hck] at HC
  simp only at HR
  obtain ⟨ins, hins⟩ : ∃ ins, insF S n (rk to_) to_ = ins := ⟨_, rfl⟩
  rw [hins] at HR HIN
  obtain ⟨ro, hro⟩ : ∃ ro, roomS S n to_ as_ = ro := ⟨_, rfl⟩
  rw [hro] at HR HRO HLR
  obtain ⟨S1, same, e1⟩ := ro
  simp only at HR HLR
  clear hrr hq1 hq2 hck hfi h hs hf ht hla hr hg hins hro
  go_enter Try.func20, Try.ntmps20
  go_wp2_with fail
  have HB0 : Hid (Below W.heap.size W (W.alloc (.cells #[.int .i64 from_, .int .i64 to_] 3))) := Lib.hid ((Below.refl _ _).alloc (Nat.le_refl _) _)
  obtain ⟨W0, hW0⟩ : ∃ W0, W.alloc (.cells #[.int .i64 from_, .int .i64 to_] 3) = W0 := ⟨_, rfl⟩
  have HW0 : Hid (W0.heap[W.heap.size]? = some (.cells #[.int .i64 from_, .int .i64 to_] 3)) := Lib.hid (by rw [← hW0]; exact heap_alloc_new _ _)
  rw [hW0] at HB0 ⊢
  clear hW0
  go_loopg [24] 2 (fun g kv wx => ∃ k : Nat, k + g = 2 ∧ kv = .int .i64 k ∧ Hid (1 ≤ k → q1 = 0) ∧ Hid (2 ≤ k → q2 = 0) ∧ Hid (Below W.heap.size W wx ∧ wx.heap[W.heap.size]? = some (.cells #[.int .i64 from_, .int .i64 to_] 3)))
  case atStart => exact ⟨0, by omega, rfl, Lib.hid (fun h => by omega), Lib.hid (fun h => by omega), Lib.hid ⟨HB0.out, HW0.out⟩⟩
  case round =>
    obtain ⟨k, hk, rfl, HQ1, HQ2, HW⟩ := hrel
    have c0 := blk_cell HW.out.2 0
    have c1 := blk_cell HW.out.2 1
    simp only [List.getElem?_toArray, List.getElem?_cons_zero, List.getElem?_cons_succ] at c0 c1
    cases gk with
    | succ g =>
      have hk2 : k = 0 ∨ k = 1 := by omega
      rcases hk2 with rfl | rfl
      · go_wp2_with fail
        refine (HD1.out _ HW.out.1).mono ?_
        rintro e w1 ⟨rfl, hb⟩
        have HB := Lib.hid (And.intro (ext_trans HW.out.1 hb) ((hb.block _ (blk_lt HW.out.2)).trans HW.out.2))
        clear hb c0 c1
        by_cases h0 : q1 = 0
        · have h0' : (q1 != 0) = false := by simpa using h0
          have H0 := Lib.hid h0
          clear h0
          go_wp2_with fail
          go_roundg g
          case measure => omega
          case rel => exact ⟨1, by omega, by go_num, Lib.hid (fun _ => H0.out), Lib.hid (fun h => by omega), HB⟩
        · have HR2 : Hid (r = (S, q1)) := Lib.hid (by rw [HR.out, if_pos h0])
          obtain rfl := HR2.out
          have h0' : (q1 != 0) = true := by simpa using h0
          clear h0
          go_wp2_with fail
          go_ret
          exact ⟨rfl, HT.out.below HB.out.1, Keep.below HB.out.1⟩
      · have H10 := Lib.hid (HQ1.out (Nat.le_refl _))
        go_wp2_with fail
        refine (HD2.out _ HW.out.1).mono ?_
        rintro e w1 ⟨rfl, hb⟩
        have HB := Lib.hid (And.intro (ext_trans HW.out.1 hb) ((hb.block _ (blk_lt HW.out.2)).trans HW.out.2))
        clear hb c0 c1
        by_cases h0 : q2 = 0
        · have h0' : (q2 != 0) = false := by simpa using h0
          have H0 := Lib.hid h0
          clear h0
          go_wp2_with fail
          go_roundg g
          case measure => omega
          case rel => exact ⟨2, by omega, by go_num, Lib.hid (fun _ => H10.out), Lib.hid (fun _ => H0.out), HB⟩
        · have HR2 : Hid (r = (S, q2)) := Lib.hid (by rw [HR.out, if_neg (by rw [H10.out]; simp), if_pos h0])
          obtain rfl := HR2.out
          have h0' : (q2 != 0) = true := by simpa using h0
          clear h0
          go_wp2_with fail
          go_ret
          exact ⟨rfl, HT.out.below HB.out.1, Keep.below HB.out.1⟩
    | zero =>
      obtain rfl : k = 2 := by omega
      have h10 := HQ1.out (by decide)
      have h20 := HQ2.out (by decide)
      subst h10
      subst h20
      have HR1 : Hid (r = if ok = false then (S, 5) else if ck ≠ 0 then (S, ck) else if ((pn (S.M n)).kind == 1 && ins) = true then (S, 14) else if (same || (e1 != 0)) = true then (S1, e1) else (moveEnd S1 n from_ s to_ as_, 0)) := HR
      clear HR HQ1 HQ2 c0 c1
      have HT2 := Lib.hid (HT.out.below HW.out.1)
      obtain ⟨t0, _, hlt⟩ := HT2.out.cell
      obtain ⟨A, c, hln, he⟩ := HT2.out.node HK.out.1
      have hln := hln _ (Below.refl _ _)
      have HF := Lib.hid (ents_Find A c _ s wr he (by have := (HSM.out.pn from_).1; omega))
      rw [show findE (allE (pn (S.M from_)).ents) s = (n, ok) from HFI.out] at HF
      generalize pn (S.M from_) = p at hln HF
      obtain ⟨kd, up, da, es⟩ := p
      simp only at hln HF
      clear he
      go_wp2_with fail
      refine HF.out.mono ?_
      rintro e w1 ⟨rfl, hb⟩
      have HB := Lib.hid (ext_trans HW.out.1 hb)
      clear hb hln t0 hlt
      cases ok with
      | false =>
        have HR2 : Hid (r = (S, 5)) := HR1
        obtain rfl := HR2.out
        go_wp2_with fail
        go_ret
        exact ⟨rfl, HT.out.below HB.out, Keep.below HB.out⟩
      | true =>
        have HR3 : Hid (r = if ck ≠ 0 then (S, ck) else if ((pn (S.M n)).kind == 1 && ins) = true then (S, 14) else if (same || (e1 != 0)) = true then (S1, e1) else (moveEnd S1 n from_ s to_ as_, 0)) := HR1
        clear HR1
        go_wp2_with fail
        refine (HC.out w1).mono ?_
        rintro e w2 ⟨rfl, hb⟩
        have HB2 := Lib.hid (ext_trans HB.out hb)
        clear hb
        by_cases hc0 : ck = 0
        · subst hc0
          have HR4 : Hid (r = if ((pn (S.M n)).kind == 1 && ins) = true then (S, 14) else if (same || (e1 != 0)) = true then (S1, e1) else (moveEnd S1 n from_ s to_ as_, 0)) := HR3
          clear HR3
          obtain ⟨t0, _, hlt⟩ := (HT.out.below HB2.out).cell
          obtain ⟨A2, c2, hl2, _⟩ := (HT.out.below HB2.out).node HN.out
          have hl2 := hl2 _ (Below.refl _ _)
          generalize pn (S.M n) = p2 at hl2 HR4
          obtain ⟨k2, u2, d2, e2⟩ := p2
          simp only at hl2 HR4
          cases hk2 : (k2 == 1)
          · rw [hk2] at HR4
            simp only [Bool.false_and, Bool.false_eq_true, if_false] at HR4
            have HR5 : Hid (r = if (same || (e1 != 0)) = true then (S1, e1) else (moveEnd S1 n from_ s to_ as_, 0)) := HR4
            go_wp2_with fail
            refine (HRO.out w2 HB2.out).mono ?_
            rintro e w4 ⟨rfl, hT4, hK4⟩
            have HT4 : Hid (TreeAt w4 t b S1 ∧ Keep t b W w4) := Lib.hid ⟨hT4, (Keep.below HB2.out).trans hK4⟩
            clear hT4 hK4 hl2 t0 hlt
            cases same with
            | true =>
              have HR6 : Hid (r = (S1, e1)) := HR5
              obtain rfl := HR6.out
              go_wp2_with fail
              go_ret
              exact ⟨rfl, HT4.out.1, HT4.out.2⟩
            | false =>
              by_cases he0 : e1 = 0
              · subst he0
                have HR6 : Hid (r = (moveEnd S1 n from_ s to_ as_, 0)) := HR5
                obtain rfl := HR6.out
                obtain ⟨t0, _, hlt⟩ := HT4.out.1.cell
                obtain ⟨A5, c5, hl5, he5⟩ := HT4.out.1.node HN.out
                have hl5 := hl5 _ (Below.refl _ _)
                obtain ⟨P5, hP5⟩ : ∃ P5, pn (S1.M n) = P5 := ⟨_, rfl⟩
                rw [hP5] at hl5 he5
                obtain ⟨k5, u5, d5, es5⟩ := P5
                simp only at hl5 he5
                have HM2 : Hid (move2 S1 n to_ = setM S1 n ⟨k5, to_, d5, es5⟩) := Lib.hid (by unfold move2; rw [hP5])
                obtain ⟨w5, hrun, HR7, s0, s1, s2, s3, s4⟩ := HT4.out.1.putLocal HN.out (by have := HLR.out.cnt; omega) k5 to_ d5 es5 A5 c5 he5
                rw [← HM2.out] at HR7
                clear hP5 he5
                go_wp2_with fail
                go_region_held3 (fun w' => w'.cell? ⟨t, 0, none⟩ = some (.map (some b)) ∧ w'.cell? ⟨w4.heap.size, 0, none⟩ = some (.int .i64 k5) ∧ w'.cell? ⟨w4.heap.size, 1, none⟩ = some (.int .i64 to_) ∧ w'.cell? ⟨w4.heap.size, 2, none⟩ = some (.string (mk d5)) ∧ w'.cell? ⟨w4.heap.size, 3, none⟩ = some (.slice A5 es5.length c5)) (first | (with_reducible exact ⟨by assumption, by assumption, by assumption, by assumption, by assumption⟩) | go_keep) (fail)
                clear s0 s1 s2 s3 s4 hrun hl5 t0 hlt
                obtain ⟨t0, _, hlt⟩ := HR7.out.1.cell
                obtain ⟨A6, c6, hl6, he6⟩ := HR7.out.1.node HK.out.1
                have hl6 := hl6 _ (Below.refl _ _)
                have HC6 := Lib.hid (ents_Cut A6 c6 _ s w5 he6 (by have := (HLR.out.move2 n to_).pn from_; omega))
                have HP6 : Hid (∀ w', ∀ A c, TreeAt w' t b (move2 S1 n to_) → EntsAt w' A (cutP (pn ((move2 S1 n to_).M from_)).ents s) → Calls Try.prog 32 #[.pointer (some ⟨t, 0, none⟩), .int .i64 from_, .slice A (cutP (pn ((move2 S1 n to_).M from_)).ents s).length c] w' fun e w2 => e = .returned (.tuple #[]) ∧ TreeAt w2 t b (move3 S1 n from_ s to_) ∧ Keep t b w' w2) := Lib.hid (fun w' A c h1 h2 => tree_enter t b _ from_ A c _ w' h1 HK.out.1 (by have := (HLR.out.move2 n to_).cnt; omega) h2)
                generalize pn ((move2 S1 n to_).M from_) = p6 at hl6 HC6 HP6
                obtain ⟨k6, u6, d6, es6⟩ := p6
                simp only at hl6 HC6 HP6
                clear he6
                go_wp2_with fail
                refine HC6.out.mono ?_
                rintro e w6 ⟨v, rfl, ho, hb6⟩
                obtain ⟨A7, c7, rfl, he7, _⟩ := ho.at
                have HE6 := Lib.hid (HP6.out w6 A7 c7 (HR7.out.1.below hb6) he7)
                have HK6 := Lib.hid ((HT4.out.2.trans HR7.out.2).trans (Keep.below hb6))
                clear ho hb6 he7 hl6 t0 hlt
                go_wp2_with fail
                refine HE6.out.mono ?_
                rintro e w7 ⟨rfl, hT7, hK7⟩
                have HT7 := Lib.hid (And.intro hT7 (HK6.out.trans hK7))
                clear hT7 hK7
                obtain ⟨t0, _, hlt⟩ := HT7.out.1.cell
                obtain ⟨A8, c8, hl8, he8⟩ := HT7.out.1.node HK.out.2
                have hl8 := hl8 _ (Below.refl _ _)
                have HC8 := Lib.hid (ents_Put A8 c8 _ as_ n w7 he8 (by have := (HLR.out.move3 n from_ s to_).pn to_; omega))
                have HP8 : Hid (∀ w', ∀ A c, TreeAt w' t b (move3 S1 n from_ s to_) → EntsAt w' A (putP (pn ((move3 S1 n from_ s to_).M to_)).ents (as_, n)) → Calls Try.prog 32 #[.pointer (some ⟨t, 0, none⟩), .int .i64 to_, .slice A (putP (pn ((move3 S1 n from_ s to_).M to_)).ents (as_, n)).length c] w' fun e w2 => e = .returned (.tuple #[]) ∧ TreeAt w2 t b (moveEnd S1 n from_ s to_ as_) ∧ Keep t b w' w2) := Lib.hid (fun w' A c h1 h2 => tree_enter t b _ to_ A c _ w' h1 HK.out.2 (by have := (HLR.out.move3 n from_ s to_).cnt; omega) h2)
                generalize pn ((move3 S1 n from_ s to_).M to_) = p8 at hl8 HC8 HP8
                obtain ⟨k8, u8, d8, es8⟩ := p8
                simp only at hl8 HC8 HP8
                clear he8
                go_wp2_with fail
                refine HC8.out.mono ?_
                rintro e w8 ⟨v, rfl, ho, hb8⟩
                obtain ⟨A9, c9, rfl, he9, _⟩ := ho.at
                have HE8 := Lib.hid (HP8.out w8 A9 c9 (HT7.out.1.below hb8) he9)
                have HK8 := Lib.hid (HT7.out.2.trans (Keep.below hb8))
                clear ho hb8 he9 hl8 t0 hlt
                go_wp2_with fail
                refine HE8.out.mono ?_
                rintro e w9 ⟨rfl, hT9, hK9⟩
                have HT9 := Lib.hid (And.intro hT9 (HK8.out.trans hK9))
                clear hT9 hK9
                go_wp2_with fail
                go_ret
                exact ⟨rfl, HT9.out.1, HT9.out.2⟩
              · have he1 : (e1 != 0) = true := by simpa using he0
                have HR6 : Hid (r = (S1, e1)) := Lib.hid (by rw [HR5.out, he1]; rfl)
                obtain rfl := HR6.out
                clear he0
                go_wp2_with fail
                go_ret
                exact ⟨rfl, HT4.out.1, HT4.out.2⟩
          · rw [hk2] at HR4
            simp only [Bool.true_and] at HR4
            go_wp2_with fail
            refine (HIN.out trivial _ HB2.out).mono ?_
            rintro e w3 ⟨rfl, rfl⟩
            cases ins with
            | true =>
              have HR5 : Hid (r = (S, 14)) := HR4
              obtain rfl := HR5.out
              go_wp2_with fail
              go_ret
              exact ⟨rfl, HT.out.below HB2.out, Keep.below HB2.out⟩
            | false =>
              have HR5 : Hid (r = if (same || (e1 != 0)) = true then (S1, e1) else (moveEnd S1 n from_ s to_ as_, 0)) := HR4
              go_wp2_with fail
              refine (HRO.out w2 HB2.out).mono ?_
              rintro e w4 ⟨rfl, hT4, hK4⟩
              have HT4 : Hid (TreeAt w4 t b S1 ∧ Keep t b W w4) := Lib.hid ⟨hT4, (Keep.below HB2.out).trans hK4⟩
              clear hT4 hK4 hl2 t0 hlt
              cases same with
              | true =>
                have HR6 : Hid (r = (S1, e1)) := HR5
                obtain rfl := HR6.out
                go_wp2_with fail
                go_ret
                exact ⟨rfl, HT4.out.1, HT4.out.2⟩
              | false =>
                by_cases he0 : e1 = 0
                · subst he0
                  have HR6 : Hid (r = (moveEnd S1 n from_ s to_ as_, 0)) := HR5
                  obtain rfl := HR6.out
                  obtain ⟨t0, _, hlt⟩ := HT4.out.1.cell
                  obtain ⟨A5, c5, hl5, he5⟩ := HT4.out.1.node HN.out
                  have hl5 := hl5 _ (Below.refl _ _)
                  obtain ⟨P5, hP5⟩ : ∃ P5, pn (S1.M n) = P5 := ⟨_, rfl⟩
                  rw [hP5] at hl5 he5
                  obtain ⟨k5, u5, d5, es5⟩ := P5
                  simp only at hl5 he5
                  have HM2 : Hid (move2 S1 n to_ = setM S1 n ⟨k5, to_, d5, es5⟩) := Lib.hid (by unfold move2; rw [hP5])
                  obtain ⟨w5, hrun, HR7, s0, s1, s2, s3, s4⟩ := HT4.out.1.putLocal HN.out (by have := HLR.out.cnt; omega) k5 to_ d5 es5 A5 c5 he5
                  rw [← HM2.out] at HR7
                  clear hP5 he5
                  go_wp2_with fail
                  go_region_held3 (fun w' => w'.cell? ⟨t, 0, none⟩ = some (.map (some b)) ∧ w'.cell? ⟨w4.heap.size, 0, none⟩ = some (.int .i64 k5) ∧ w'.cell? ⟨w4.heap.size, 1, none⟩ = some (.int .i64 to_) ∧ w'.cell? ⟨w4.heap.size, 2, none⟩ = some (.string (mk d5)) ∧ w'.cell? ⟨w4.heap.size, 3, none⟩ = some (.slice A5 es5.length c5)) (first | (with_reducible exact ⟨by assumption, by assumption, by assumption, by assumption, by assumption⟩) | go_keep) (fail)
                  clear s0 s1 s2 s3 s4 hrun hl5 t0 hlt
                  obtain ⟨t0, _, hlt⟩ := HR7.out.1.cell
                  obtain ⟨A6, c6, hl6, he6⟩ := HR7.out.1.node HK.out.1
                  have hl6 := hl6 _ (Below.refl _ _)
                  have HC6 := Lib.hid (ents_Cut A6 c6 _ s w5 he6 (by have := (HLR.out.move2 n to_).pn from_; omega))
                  have HP6 : Hid (∀ w', ∀ A c, TreeAt w' t b (move2 S1 n to_) → EntsAt w' A (cutP (pn ((move2 S1 n to_).M from_)).ents s) → Calls Try.prog 32 #[.pointer (some ⟨t, 0, none⟩), .int .i64 from_, .slice A (cutP (pn ((move2 S1 n to_).M from_)).ents s).length c] w' fun e w2 => e = .returned (.tuple #[]) ∧ TreeAt w2 t b (move3 S1 n from_ s to_) ∧ Keep t b w' w2) := Lib.hid (fun w' A c h1 h2 => tree_enter t b _ from_ A c _ w' h1 HK.out.1 (by have := (HLR.out.move2 n to_).cnt; omega) h2)
                  generalize pn ((move2 S1 n to_).M from_) = p6 at hl6 HC6 HP6
                  obtain ⟨k6, u6, d6, es6⟩ := p6
                  simp only at hl6 HC6 HP6
                  clear he6
                  go_wp2_with fail
                  refine HC6.out.mono ?_
                  rintro e w6 ⟨v, rfl, ho, hb6⟩
                  obtain ⟨A7, c7, rfl, he7, _⟩ := ho.at
                  have HE6 := Lib.hid (HP6.out w6 A7 c7 (HR7.out.1.below hb6) he7)
                  have HK6 := Lib.hid ((HT4.out.2.trans HR7.out.2).trans (Keep.below hb6))
                  clear ho hb6 he7 hl6 t0 hlt
                  go_wp2_with fail
                  refine HE6.out.mono ?_
                  rintro e w7 ⟨rfl, hT7, hK7⟩
                  have HT7 := Lib.hid (And.intro hT7 (HK6.out.trans hK7))
                  clear hT7 hK7
                  obtain ⟨t0, _, hlt⟩ := HT7.out.1.cell
                  obtain ⟨A8, c8, hl8, he8⟩ := HT7.out.1.node HK.out.2
                  have hl8 := hl8 _ (Below.refl _ _)
                  have HC8 := Lib.hid (ents_Put A8 c8 _ as_ n w7 he8 (by have := (HLR.out.move3 n from_ s to_).pn to_; omega))
                  have HP8 : Hid (∀ w', ∀ A c, TreeAt w' t b (move3 S1 n from_ s to_) → EntsAt w' A (putP (pn ((move3 S1 n from_ s to_).M to_)).ents (as_, n)) → Calls Try.prog 32 #[.pointer (some ⟨t, 0, none⟩), .int .i64 to_, .slice A (putP (pn ((move3 S1 n from_ s to_).M to_)).ents (as_, n)).length c] w' fun e w2 => e = .returned (.tuple #[]) ∧ TreeAt w2 t b (moveEnd S1 n from_ s to_ as_) ∧ Keep t b w' w2) := Lib.hid (fun w' A c h1 h2 => tree_enter t b _ to_ A c _ w' h1 HK.out.2 (by have := (HLR.out.move3 n from_ s to_).cnt; omega) h2)
                  generalize pn ((move3 S1 n from_ s to_).M to_) = p8 at hl8 HC8 HP8
                  obtain ⟨k8, u8, d8, es8⟩ := p8
                  simp only at hl8 HC8 HP8
                  clear he8
                  go_wp2_with fail
                  refine HC8.out.mono ?_
                  rintro e w8 ⟨v, rfl, ho, hb8⟩
                  obtain ⟨A9, c9, rfl, he9, _⟩ := ho.at
                  have HE8 := Lib.hid (HP8.out w8 A9 c9 (HT7.out.1.below hb8) he9)
                  have HK8 := Lib.hid (HT7.out.2.trans (Keep.below hb8))
                  clear ho hb8 he9 hl8 t0 hlt
                  go_wp2_with fail
                  refine HE8.out.mono ?_
                  rintro e w9 ⟨rfl, hT9, hK9⟩
                  have HT9 := Lib.hid (And.intro hT9 (HK8.out.trans hK9))
                  clear hT9 hK9
                  go_wp2_with fail
                  go_ret
                  exact ⟨rfl, HT9.out.1, HT9.out.2⟩
                · have he1 : (e1 != 0) = true := by simpa using he0
                  have HR6 : Hid (r = (S1, e1)) := Lib.hid (by rw [HR5.out, he1]; rfl)
                  obtain rfl := HR6.out
                  clear he0
                  go_wp2_with fail
                  go_ret
                  exact ⟨rfl, HT4.out.1, HT4.out.2⟩
        · have HR4 : Hid (r = (S, ck)) := Lib.hid (by rw [HR3.out, if_pos hc0])
          obtain rfl := HR4.out
          have hc1 : (ck != 0) = true := by simpa using hc0
          clear hc0
          go_wp2_with fail
          go_ret
          exact ⟨rfl, HT.out.below HB2.out, Keep.below HB2.out⟩
end Go.Proofs.Ytmjggjccmbiheab
