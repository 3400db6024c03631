/- The reference's Move, step by step. -/
import Derived.Test.YtmjggjccmbiheabRefPut
namespace Go.Proofs.Ytmjggjccmbiheab
open Go Go.RowKit Go.Proofs Go.Sort
attribute [local go_sem] mk_list mk_size mk_data nfield0 nfield1 nfield3

def upR (L : List NodeT) (n : Int) : Int := (atR L n).up
def insR (L : List NodeT) (n : Int) : Nat → Int → Bool
  | 0, k => k == n
  | f + 1, k => if k == n || k == 1 then k == n else insR L n f (upR L k)
def RankedR (L : List NodeT) (rk : Int → Nat) (Good : Int → Prop) : Prop := ∀ n, Good n → n ≠ 1 → rk (upR L n) < rk n ∧ Good (upR L n)
def moveX (L : List NodeT) (x : NodeT) (n to_ : Int) (as_ : Tx) : List NodeT × Int :=
  if inR L to_ as_ = n then (L, 0) else if 0 < inR L to_ as_ then
    (if (atR L (inR L to_ as_)).kind = 1 ∧ x.kind ≠ 1 then (L, 8) else if (atR L (inR L to_ as_)).kind ≠ 1 ∧ x.kind = 1 then (L, 7) else
      if (cutR L to_ as_).2 ≠ 0 then (L, (cutR L to_ as_).2) else (withR (cutR L to_ as_).1 ⟨x.num, to_, as_, x.kind, x.data⟩, 0))
  else (withR L ⟨x.num, to_, as_, x.kind, x.data⟩, 0)
def moveR (L : List NodeT) (fu : Nat) (from_ : Int) (s : Tx) (to_ : Int) (as_ : Tx) : List NodeT × Int :=
  if dirR L from_ ≠ 0 then (L, dirR L from_) else if dirR L to_ ≠ 0 then (L, dirR L to_) else if inR L from_ s = 0 then (L, 5) else if checkI as_ ≠ 0 then (L, checkI as_) else
  if ((atR L (inR L from_ s)).kind == 1 && insR L (inR L from_ s) fu to_) = true then (L, 14) else moveX L (atR L (inR L from_ s)) (inR L from_ s) to_ as_

theorem NodesAt.far5 {W W' : World} {A : Option Addr} {L : List NodeT} {R : Nat} {a b c d e : Value} {ty : TypeId} {fr : Nat × Nat} (h : NodesAt W A L) (h2 : 2 ≤ L.length) (hR : W.heap[R]? = some (.cells #[a, b, c, d, e] ty fr)) (k : Keep R R W W') : NodesAt W' A L := by
  rcases h with h | ⟨z, off, e', hlt, hc⟩
  · exact .inl h
  · have hb : z ≠ R := by
      rintro rfl
      have h3 := hc 1 (by omega) 0 (.int .i64 L[1].num) rfl
      rw [blk_cell hR] at h3
      have : 5 ≤ off + 1 * 5 + 0 := by omega
      rw [Array.getElem?_eq_none (show #[a, b, c, d, e].size ≤ _ from this)] at h3
      cases h3
    exact .inr ⟨z, off, e', Nat.lt_of_lt_of_le hlt k.size, fun j hj i w hw => (k.cell hlt hb hb).trans (hc j hj i w hw)⟩
abbrev Four (W : World) (tr res : Value × Value) (x : NodeT) (X : Nat) (w : World) : Prop :=
  Below W.heap.size W w ∧ w.heap[W.heap.size]? = some (.cells #[tr.1, tr.2] 29) ∧ w.heap[W.heap.size + 1]? = some (.cells #[res.1, res.2] 29) ∧ w.heap[X]? = some (.cells #[.int .i64 x.num, .int .i64 x.up, .string (mk x.name), .int .i64 x.kind, .string (mk x.data)] 56)
theorem four_step {W w w' : World} {a b c d a1 a2 a3 a4 a5 : Value} {X : Nat} {t1 t2 t3 : TypeId} {f1 f2 f3 : Nat × Nat}
    (h : Below W.heap.size W w ∧ w.heap[W.heap.size]? = some (.cells #[a, b] t1 f1) ∧ w.heap[W.heap.size + 1]? = some (.cells #[c, d] t2 f2) ∧ w.heap[X]? = some (.cells #[a1, a2, a3, a4, a5] t3 f3)) (hb : Below w.heap.size w w') :
    Below W.heap.size W w' ∧ w'.heap[W.heap.size]? = some (.cells #[a, b] t1 f1) ∧ w'.heap[W.heap.size + 1]? = some (.cells #[c, d] t2 f2) ∧ w'.heap[X]? = some (.cells #[a1, a2, a3, a4, a5] t3 f3) :=
  ⟨ext_trans h.1 hb, (hb.block _ (blk_lt h.2.1)).trans h.2.1, (hb.block _ (blk_lt h.2.2.1)).trans h.2.2.1, (hb.block _ (blk_lt h.2.2.2)).trans h.2.2.2⟩
theorem in_mem {L : List NodeT} {d : Int} {s : Tx} (h : inR L d s ≠ 0) : ∃ x ∈ L, x.num = inR L d s ∧ inR L d s ≠ 1 := by
  unfold inR at h ⊢
  cases hf : L.find? (inP d s) with
  | none => rw [hf] at h; exact absurd rfl h
  | some x =>
    have hp := List.find?_some hf
    refine ⟨x, List.mem_of_find?_eq_some hf, rfl, ?_⟩
    unfold inP at hp
    simp only [Bool.and_eq_true, bne_iff_ne, ne_eq] at hp
    exact hp.2
theorem two_of {L : List NodeT} {x y : NodeT} (hx : x ∈ L) (hy : y ∈ L) (h : x.num ≠ y.num) : 2 ≤ L.length := by
  match L, hx, hy with
  | [], hx, _ => cases hx
  | [a], hx, hy =>
    rw [List.mem_singleton] at hx hy
    subst hx hy
    exact absurd rfl h
  | _ :: _ :: _, _, _ => simp
theorem all_two {L : List NodeT} {d : Int} {s : Tx} {n : Int} (hroot : ∃ x ∈ L, x.num = 1) (h : inR L d s = n) (h0 : n ≠ 0) : 2 ≤ L.length := by
  subst h
  obtain ⟨x, hx, e, h1⟩ := in_mem h0
  obtain ⟨y, hy, e2⟩ := hroot
  exact two_of hx hy (by rw [e, e2]; exact h1)
theorem cut_two {L : List NodeT} {d : Int} {s : Tx} {n : Int} {to_ : Int} {as_ : Tx} {old : Int} (hroot : ∃ x ∈ L, x.num = 1) (h : inR L d s = n) (h0 : n ≠ 0) (ho : inR L to_ as_ = old) (hne : old ≠ n) (hf : (cutR L to_ as_).2 = 0) (hl : L.length ≤ 10000000) :
    2 ≤ (cutR L to_ as_).1.length ∧ (cutR L to_ as_).1.length ≤ 10000000 := by
  have hL : (cutR L to_ as_).1 = L.filter (fun x => x.num != old) ∧ old ≠ 0 := by
    unfold cutR at hf ⊢
    rw [ho] at hf ⊢
    split at hf
    · exact absurd hf (by assumption)
    · split at hf
      · cases hf
      · split at hf
        · cases hf
        · rename_i a b c
          rw [if_neg a, if_neg b, if_neg c]
          exact ⟨rfl, b⟩
  rw [hL.1]
  subst h
  obtain ⟨x, hx, e, h1⟩ := in_mem h0
  obtain ⟨y, hy, e2⟩ := hroot
  have hz : old ≠ 1 := by
    have := hL.2
    subst ho
    obtain ⟨_, _, _, h⟩ := in_mem this
    exact h
  exact ⟨two_of (x := x) (y := y) (List.mem_filter.2 ⟨hx, by rw [e]; simpa using Ne.symm hne⟩) (List.mem_filter.2 ⟨hy, by rw [e2]; simpa using Ne.symm hz⟩) (by rw [e, e2]; exact h1), Nat.le_trans (List.length_filter_le _ _) hl⟩
section
variable {W w : World} {a b c d a1 a2 a3 a4 a5 : Value} {X : Nat} {t1 t2 t3 : TypeId} {f1 f2 f3 : Nat × Nat} {A : Option Addr} {L : List NodeT}
theorem tail_x (h : Below W.heap.size W w ∧ w.heap[W.heap.size]? = some (.cells #[a, b] t1 f1) ∧ w.heap[W.heap.size + 1]? = some (.cells #[c, d] t2 f2) ∧ w.heap[X]? = some (.cells #[a1, a2, a3, a4, a5] t3 f3))
    (hn : NodesAt w A L) (h2 : 2 ≤ L.length) (hX : W.heap.size + 1 < X) (u v : Value) :
    NodesAt ((w.setCell ⟨X, 1, none⟩ u).setCell ⟨X, 2, none⟩ v) A L ∧ Below W.heap.size W ((w.setCell ⟨X, 1, none⟩ u).setCell ⟨X, 2, none⟩ v) ∧ ((w.setCell ⟨X, 1, none⟩ u).setCell ⟨X, 2, none⟩ v).heap[W.heap.size + 1]? = some (.cells #[c, d] t2 f2) := by
  have k : Keep X X w ((w.setCell ⟨X, 1, none⟩ u).setCell ⟨X, 2, none⟩ v) := (Keep.setR 1 _).trans (Keep.setR 2 _)
  exact ⟨hn.far5 h2 h.2.2.2 k, Keep.under h.1 k (by omega) (by omega) h.1.size, (k.block _ (blk_lt h.2.2.1) (by omega) (by omega)).trans h.2.2.1⟩
theorem tail_cut (h : Below W.heap.size W w ∧ w.heap[W.heap.size]? = some (.cells #[a, b] t1 f1) ∧ w.heap[W.heap.size + 1]? = some (.cells #[c, d] t2 f2) ∧ w.heap[X]? = some (.cells #[a1, a2, a3, a4, a5] t3 f3))
    (hn : NodesAt w A L) (h2 : 2 ≤ L.length) (hX : W.heap.size + 1 < X) (p q u v : Value) (o : Obj) :
    NodesAt (((((w.setCell ⟨W.heap.size, 0, none⟩ p).setCell ⟨W.heap.size, 1, none⟩ q).setCell ⟨X, 1, none⟩ u).setCell ⟨X, 2, none⟩ v).alloc o) A L ∧ Below W.heap.size W (((((w.setCell ⟨W.heap.size, 0, none⟩ p).setCell ⟨W.heap.size, 1, none⟩ q).setCell ⟨X, 1, none⟩ u).setCell ⟨X, 2, none⟩ v).alloc o) ∧
      (((((w.setCell ⟨W.heap.size, 0, none⟩ p).setCell ⟨W.heap.size, 1, none⟩ q).setCell ⟨X, 1, none⟩ u).setCell ⟨X, 2, none⟩ v).alloc o).heap[W.heap.size + 1]? = some (.cells #[c, d] t2 f2) := by
  have k1 : Keep W.heap.size W.heap.size w ((w.setCell ⟨W.heap.size, 0, none⟩ p).setCell ⟨W.heap.size, 1, none⟩ q) := (Keep.setR 0 _).trans (Keep.setR 1 _)
  have n1 : NodesAt ((w.setCell ⟨W.heap.size, 0, none⟩ p).setCell ⟨W.heap.size, 1, none⟩ q) A L := hn.far h.2.1 k1
  have r0 := heap_setCell_at (heap_setCell_at h.2.1 0 p) 1 q
  have hT := tail_x (t1 := t1) (f1 := f1) (a := p) (b := q) ⟨Keep.under h.1 k1 (Nat.le_refl _) (Nat.le_refl _) h.1.size, r0, (k1.block _ (blk_lt h.2.2.1) (by omega) (by omega)).trans h.2.2.1, (k1.block _ (blk_lt h.2.2.2) (by omega) (by omega)).trans h.2.2.2⟩ n1 h2 hX u v
  exact ⟨hT.1.below ((Below.refl _ _).alloc (Nat.le_refl _) _), hT.2.1.alloc hT.2.1.size _, heap_stay hT.2.2 _⟩
end
set_option maxRecDepth 100000 in
set_option maxHeartbeats 8000000 in
theorem ref_Move (A : Option Addr) (c : Nat) (L : List NodeT) (last from_ : Int) (s : Tx) (to_ : Int) (as_ : Tx) (W : World) (h : NodesAt W A L) (hl : L.length ≤ 10000000) (hls : as_.length ≤ 140737488351300) (hroot : ∃ x ∈ L, x.num = 1) (rk : Int → Nat) (Good : Int → Prop) (hrk : RankedR L rk Good) (hg : dirR L to_ = 0 → Good to_) :
    Calls Try.prog 25 #[.agg #[.slice A L.length c, .int .i64 last], .int .i64 from_, .string (mk s), .int .i64 to_, .string (mk as_)] W (RTo (moveR L (rk to_) from_ s to_ as_).1 last (moveR L (rk to_) from_ s to_ as_).2 W) := by
  have HN := Lib.hid (And.intro h hl)
  have HDI := Lib.hid (fun d w (hb : Below W.heap.size W w) => ref_dir A c L last d w (h.below hb) (by omega))
  have HIN := Lib.hid (fun d s w (hb : Below W.heap.size W w) => ref_In A c L last d s w (h.below hb) (by omega))
  have HATT := Lib.hid (fun n w (hb : Below W.heap.size W w) => ref_At A c L last n w (h.below hb) (by omega))
  have HCU := Lib.hid (fun w (hb : Below W.heap.size W w) => ref_Cut A c L last to_ as_ w (h.below hb) hl)
  have HC := Lib.hid (fun w => ref_Check as_ w hls)
  have HRK := Lib.hid hrk
  have HG := Lib.hid hg
  have HROOT := Lib.hid hroot
  obtain ⟨r, hr⟩ : ∃ r, moveR L (rk to_) from_ s to_ as_ = r := ⟨_, rfl⟩
  have HR := Lib.hid hr.symm
  unfold moveR at HR
  rw [hr]
  obtain ⟨m, hm⟩ : ∃ m, L.length = m := ⟨_, rfl⟩
  have HL := Lib.hid hm
  have hmb : m ≤ 10000000 := by omega
  have HDI1 := Lib.hid (HDI.out from_)
  have HDI2 := Lib.hid (HDI.out to_)
  have HIN1 := Lib.hid (HIN.out from_ s)
  obtain ⟨qd, hqd⟩ : ∃ q, dirR L from_ = q := ⟨_, rfl⟩
  obtain ⟨q2, hq2⟩ : ∃ q, dirR L to_ = q := ⟨_, rfl⟩
  obtain ⟨n, hn⟩ : ∃ n, inR L from_ s = n := ⟨_, rfl⟩
  have HNN := Lib.hid hn
  obtain ⟨ck, hck⟩ : ∃ ck, checkI as_ = ck := ⟨_, rfl⟩
  rw [hqd, hq2, hn, hck] at HR
  rw [hqd] at HDI1
  rw [hq2] at HDI2 HG
  rw [hn] at HIN1
  rw [hck] at HC
  rw [hm] at HDI1 HDI2 HIN1 HIN HATT HCU ⊢
  obtain ⟨W0, hW0⟩ : ∃ W0, (W.alloc (.cells #[.slice A m c, .int .i64 last] 29)).alloc (.cells #[.slice none 0 0, .int .i64 0] 29) = W0 := ⟨_, rfl⟩
  have HW := Lib.hid (two_new W (.cells #[.slice A m c, .int .i64 last] 29) (.cells #[.slice none 0 0, .int .i64 0] 29))
  rw [hW0] at HW
  have c0 := blk_cell HW.out.2.1 0
  have c1 := blk_cell HW.out.2.1 1
  have e0 := blk_cell HW.out.2.2 0
  have e1 := blk_cell HW.out.2.2 1
  have q0 := blk_frozen HW.out.2.2 0
  have q1 := blk_frozen HW.out.2.2 1
  have hl0 := blk_lt HW.out.2.1
  have hl1 := blk_lt HW.out.2.2
  simp only [List.getElem?_toArray, List.getElem?_cons_zero, List.getElem?_cons_succ] at c0 c1 e0 e1
  clear h hl hr hm hqd hq2 hn hck hls hroot hrk hg HDI
  go_enter Try.func25, Try.ntmps25
  go_wp2_with fail
  try rw [hW0]
  clear hW0
  refine (HDI1.out _ HW.out.1).mono ?_
  rintro e w1 ⟨rfl, hb⟩
  have HB := Lib.hid (And.intro (ext_trans HW.out.1 hb) (And.intro ((hb.block _ (blk_lt HW.out.2.1)).trans HW.out.2.1) ((hb.block _ (blk_lt HW.out.2.2)).trans HW.out.2.2)))
  clear hb c0 c1 e0 e1 q0 q1 hl0 hl1
  have c0 := blk_cell HB.out.2.1 0
  have c1 := blk_cell HB.out.2.1 1
  have e0 := blk_cell HB.out.2.2 0
  have e1 := blk_cell HB.out.2.2 1
  have q0 := blk_frozen HB.out.2.2 0
  have q1 := blk_frozen HB.out.2.2 1
  have hl0 := blk_lt HB.out.2.1
  have hl1 := blk_lt HB.out.2.2
  simp only [List.getElem?_toArray, List.getElem?_cons_zero, List.getElem?_cons_succ] at c0 c1 e0 e1
  by_cases h0 : qd = 0
  · subst h0
    go_wp2_with fail
    refine (HDI2.out _ HB.out.1).mono ?_
    rintro e w2 ⟨rfl, hb⟩
    have HB2 := Lib.hid (And.intro (ext_trans HB.out.1 hb) (And.intro ((hb.block _ (blk_lt HB.out.2.1)).trans HB.out.2.1) ((hb.block _ (blk_lt HB.out.2.2)).trans HB.out.2.2)))
    clear hb c0 c1 e0 e1 q0 q1 hl0 hl1
    have c0 := blk_cell HB2.out.2.1 0
    have c1 := blk_cell HB2.out.2.1 1
    have e0 := blk_cell HB2.out.2.2 0
    have e1 := blk_cell HB2.out.2.2 1
    have q0 := blk_frozen HB2.out.2.2 0
    have q1 := blk_frozen HB2.out.2.2 1
    have hl0 := blk_lt HB2.out.2.1
    have hl1 := blk_lt HB2.out.2.2
    simp only [List.getElem?_toArray, List.getElem?_cons_zero, List.getElem?_cons_succ] at c0 c1 e0 e1
    by_cases h2 : q2 = 0
    · subst h2
      have HGT : Hid (Good to_) := Lib.hid (HG.out rfl)
      go_wp2_with fail
      refine (HIN1.out _ HB2.out.1).mono ?_
      rintro e w3 ⟨rfl, hb⟩
      have HB3 := Lib.hid (And.intro (ext_trans HB2.out.1 hb) (And.intro ((hb.block _ (blk_lt HB2.out.2.1)).trans HB2.out.2.1) ((hb.block _ (blk_lt HB2.out.2.2)).trans HB2.out.2.2)))
      clear hb c0 c1 e0 e1 q0 q1 hl0 hl1
      have c0 := blk_cell HB3.out.2.1 0
      have c1 := blk_cell HB3.out.2.1 1
      have e0 := blk_cell HB3.out.2.2 0
      have e1 := blk_cell HB3.out.2.2 1
      have q0 := blk_frozen HB3.out.2.2 0
      have q1 := blk_frozen HB3.out.2.2 1
      have hl0 := blk_lt HB3.out.2.1
      have hl1 := blk_lt HB3.out.2.2
      simp only [List.getElem?_toArray, List.getElem?_cons_zero, List.getElem?_cons_succ] at c0 c1 e0 e1
      by_cases hn0 : n = 0
      · subst hn0
        have HR2 : Hid (r = (L, 5)) := HR
        obtain rfl := HR2.out
        go_wp2_with fail
        refine bodyPost_ret (v := .tuple #[.agg #[.slice A m c, .int .i64 last], .int .i64 5]) ?_ rfl ?_
        · rw [results_cell_tmp rfl]
          go_simp
        · have HD := ret_done HB3.out.1 (Nat.le_succ _) HB3.out.2.2 (HN.out.1.below HB3.out.1) (.slice A m c) (.int .i64 last)
          exact ⟨⟨A, c, by rw [HL.out], HD.1⟩, HD.2⟩
      · have hn1 : (n == 0) = false := by simpa using hn0
        have HN0 := Lib.hid (show n ≠ 0 from hn0)
        clear hn0
        go_wp2_with fail
        refine (HC.out w3).mono ?_
        rintro e w3' ⟨rfl, rfl⟩
        by_cases hc0 : ck = 0
        · subst hc0
          obtain ⟨x, hx⟩ : ∃ x, atR L n = x := ⟨_, rfl⟩
          have HAT1 := Lib.hid (HATT.out n)
          rw [hx] at HR HAT1
          obtain ⟨xn, xu, xs, xk, xd⟩ := x
          unfold nodeA at HAT1
          simp only at HAT1
          have HR2 : Hid (r = if (xk == 1 && insR L n (rk to_) to_) = true then (L, 14) else moveX L ⟨xn, xu, xs, xk, xd⟩ n to_ as_) := Lib.hid (by rw [HR.out]; simp [HN0.out])
          clear hx HR
          go_wp2_with fail
          refine (HAT1.out _ HB3.out.1).mono ?_
          rintro e w4 ⟨rfl, hb⟩
          have HB4 := Lib.hid (And.intro (ext_trans HB3.out.1 hb) (And.intro ((hb.block _ (blk_lt HB3.out.2.1)).trans HB3.out.2.1) ((hb.block _ (blk_lt HB3.out.2.2)).trans HB3.out.2.2)))
          clear hb c0 c1 e0 e1 q0 q1 hl0 hl1
          obtain ⟨wz, hwz⟩ : ∃ wz, w4.alloc (.cells #[.int .i64 xn, .int .i64 xu, .string (mk xs), .int .i64 xk, .string (mk xd)] 56) = wz := ⟨_, rfl⟩
          obtain ⟨X, hX⟩ : ∃ X, w4.heap.size = X := ⟨_, rfl⟩
          have HX : Hid (W.heap.size + 1 < X) := Lib.hid (by rw [← hX]; exact blk_lt HB4.out.2.2)
          have HB5 : Hid (Below W.heap.size W wz ∧ wz.heap[W.heap.size]? = some (.cells #[.slice A m c, .int .i64 last] 29) ∧ wz.heap[W.heap.size + 1]? = some (.cells #[.slice none 0 0, .int .i64 0] 29) ∧ wz.heap[X]? = some (.cells #[.int .i64 xn, .int .i64 xu, .string (mk xs), .int .i64 xk, .string (mk xd)] 56)) := Lib.hid (by
            rw [← hwz, ← hX]
            exact ⟨HB4.out.1.alloc HB4.out.1.size _, heap_stay HB4.out.2.1 _, heap_stay HB4.out.2.2 _, heap_alloc_new _ _⟩)
          clear HB4
          go_wp2_with fail
          try rw [hwz]
          try rw [hX]
          clear hwz hX
          clear HDI1 HDI2 HIN1 HC HG
          by_cases hk1 : xk = 1
          · subst hk1
            go_loopg [15] (rk to_) (fun g kv wx => ∃ k : Int, kv = .int .i64 k ∧ Hid (Good k) ∧ Hid (rk k ≤ g) ∧ Hid (insR L n (rk to_) to_ = insR L n g k) ∧ Hid (Below wz.heap.size wz wx))
            case atStart => exact ⟨to_, rfl, HGT, Lib.hid (Nat.le_refl _), Lib.hid rfl, Lib.hid (Below.refl _ _)⟩
            case round =>
              obtain ⟨k, rfl, HGK, HK, HQ, HBX⟩ := hrel
              have HBY := Lib.hid (four_step HB5.out HBX.out)
              have c0 := blk_cell HBY.out.2.1 0
              have c1 := blk_cell HBY.out.2.1 1
              have e0 := blk_cell HBY.out.2.2.1 0
              have e1 := blk_cell HBY.out.2.2.1 1
              have q0 := blk_frozen HBY.out.2.2.1 0
              have q1 := blk_frozen HBY.out.2.2.1 1
              have hl0 := blk_lt HBY.out.2.1
              have hl1 := blk_lt HBY.out.2.2.1
              have p0 := blk_frozen HBY.out.2.1 0
              have p1 := blk_frozen HBY.out.2.1 1
              have x0 := blk_cell HBY.out.2.2.2 0
              have x1 := blk_cell HBY.out.2.2.2 1
              have x2 := blk_cell HBY.out.2.2.2 2
              have x3 := blk_cell HBY.out.2.2.2 3
              have x4 := blk_cell HBY.out.2.2.2 4
              have z1 := blk_frozen HBY.out.2.2.2 1
              have z2 := blk_frozen HBY.out.2.2.2 2
              have hlx := blk_lt HBY.out.2.2.2
              simp only [List.getElem?_toArray, List.getElem?_cons_zero, List.getElem?_cons_succ] at c0 c1 e0 e1 x0 x1 x2 x3 x4
              cases hkn : (k == n)
              · cases hk1 : (k == 1)
                · have HU := Lib.hid (HRK.out k HGK.out (by simpa using hk1))
                  cases gk with
                  | zero => exact absurd HK.out (by have := HU.out.1; omega)
                  | succ g =>
                    have HQ2 : Hid (insR L n (rk to_) to_ = insR L n g (upR L k)) := Lib.hid (by
                      rw [HQ.out]
                      show (if (k == n || k == 1) = true then k == n else insR L n g (upR L k)) = _
                      rw [hkn, hk1]; rfl)
                    obtain ⟨y, hy⟩ : ∃ y, atR L k = y := ⟨_, rfl⟩
                    have HATK := Lib.hid (HATT.out k)
                    unfold upR at HQ2 HU
                    rw [hy] at HATK HQ2 HU
                    obtain ⟨yn, yu, ys, yk, yd⟩ := y
                    unfold nodeA at HATK
                    simp only at HATK HQ2 HU
                    clear hy
                    go_wp2_with fail
                    refine (HATK.out _ HBY.out.1).mono ?_
                    rintro e w7 ⟨rfl, hb⟩
                    have HBX7 := Lib.hid (ext_trans HBX.out hb)
                    clear hb
                    go_wp2_with fail
                    go_roundg g
                    case measure => omega
                    case rel => exact ⟨yu, rfl, Lib.hid HU.out.2, Lib.hid (by have := HU.out.1; have := HK.out; omega), HQ2, HBX7⟩
                · have HRX : Hid (r = moveX L ⟨xn, xu, xs, 1, xd⟩ n to_ as_) := Lib.hid (by
                    rw [HR2.out, HQ.out, if_neg]
                    cases gk with
                    | zero => rw [show insR L n 0 k = (k == n) from rfl, hkn]; simp
                    | succ g =>
                      rw [show insR L n (g + 1) k = (if (k == n || k == 1) = true then k == n else insR L n g (upR L k)) from rfl, hkn, hk1]; simp)
                  clear HR2 HQ HK HGK HB5
                  have HB5 := HBY
                  clear HBY
                  obtain ⟨old, hold⟩ : ∃ old, inR L to_ as_ = old := ⟨_, rfl⟩
                  have HIN2 := Lib.hid (HIN.out to_ as_)
                  rw [hold] at HIN2
                  have HOLD := Lib.hid hold
                  have HR4 : Hid (r = if old = n then (L, 0) else if 0 < old then (if (atR L old).kind = 1 ∧ (1 : Int) ≠ 1 then (L, 8) else if (atR L old).kind ≠ 1 ∧ (1 : Int) = 1 then (L, 7) else if (cutR L to_ as_).2 ≠ 0 then (L, (cutR L to_ as_).2) else (withR (cutR L to_ as_).1 ⟨xn, to_, as_, 1, xd⟩, 0)) else (withR L ⟨xn, to_, as_, 1, xd⟩, 0)) := Lib.hid (by rw [HRX.out]; unfold moveX; rw [hold] <;> try rfl)
                  clear hold HRX
                  go_wp2_with fail
                  refine (HIN2.out _ HB5.out.1).mono ?_
                  rintro e w6 ⟨rfl, hb⟩
                  have hltx : W.heap.size + 1 < X := HX.out
                  have HB6 := Lib.hid (four_step HB5.out hb)
                  clear hb c0 c1 e0 e1 q0 q1 hl0 hl1 p0 p1 x0 x1 x2 x3 x4 z1 z2 hlx
                  have c0 := blk_cell HB6.out.2.1 0
                  have c1 := blk_cell HB6.out.2.1 1
                  have e0 := blk_cell HB6.out.2.2.1 0
                  have e1 := blk_cell HB6.out.2.2.1 1
                  have q0 := blk_frozen HB6.out.2.2.1 0
                  have q1 := blk_frozen HB6.out.2.2.1 1
                  have hl0 := blk_lt HB6.out.2.1
                  have hl1 := blk_lt HB6.out.2.2.1
                  have p0 := blk_frozen HB6.out.2.1 0
                  have p1 := blk_frozen HB6.out.2.1 1
                  have x0 := blk_cell HB6.out.2.2.2 0
                  have x1 := blk_cell HB6.out.2.2.2 1
                  have x2 := blk_cell HB6.out.2.2.2 2
                  have x3 := blk_cell HB6.out.2.2.2 3
                  have x4 := blk_cell HB6.out.2.2.2 4
                  have z1 := blk_frozen HB6.out.2.2.2 1
                  have z2 := blk_frozen HB6.out.2.2.2 2
                  have hlx := blk_lt HB6.out.2.2.2
                  simp only [List.getElem?_toArray, List.getElem?_cons_zero, List.getElem?_cons_succ] at c0 c1 e0 e1 x0 x1 x2 x3 x4
                  by_cases ho : old = n
                  · have HR5 : Hid (r = (L, 0)) := Lib.hid (by rw [HR4.out, if_pos ho])
                    obtain rfl := HR5.out
                    have ho' : (old == n) = true := by simpa using ho
                    clear ho
                    go_wp2_with fail
                    refine bodyPost_ret (v := .tuple #[.agg #[.slice A m c, .int .i64 last], .int .i64 0]) ?_ rfl ?_
                    · rw [results_cell_tmp rfl]
                      go_simp
                    · have HD := ret_done HB6.out.1 (Nat.le_succ _) HB6.out.2.2.1 (HN.out.1.below HB6.out.1) (.slice A m c) (.int .i64 last)
                      exact ⟨⟨A, c, by rw [HL.out], HD.1⟩, HD.2⟩
                  · have ho' : (old == n) = false := by simpa using ho
                    have HO := Lib.hid (show old ≠ n from ho)
                    clear ho
                    by_cases hp : 0 < old
                    · have HP := Lib.hid hp
                      obtain ⟨y, hy⟩ : ∃ y, atR L old = y := ⟨_, rfl⟩
                      have HAT2 := Lib.hid (HATT.out old)
                      rw [hy] at HR4 HAT2
                      obtain ⟨yn, yu, ys, yk, yd⟩ := y
                      unfold nodeA at HAT2
                      simp only at HAT2 HR4
                      clear hy
                      go_wp2_with fail
                      refine (HAT2.out _ HB6.out.1).mono ?_
                      rintro e w7 ⟨rfl, hb⟩
                      have HB7 := Lib.hid (four_step HB6.out hb)
                      clear hb c0 c1 e0 e1 q0 q1 hl0 hl1 p0 p1 x0 x1 x2 x3 x4 z1 z2 hlx
                      have c0 := blk_cell HB7.out.2.1 0
                      have c1 := blk_cell HB7.out.2.1 1
                      have e0 := blk_cell HB7.out.2.2.1 0
                      have e1 := blk_cell HB7.out.2.2.1 1
                      have q0 := blk_frozen HB7.out.2.2.1 0
                      have q1 := blk_frozen HB7.out.2.2.1 1
                      have hl0 := blk_lt HB7.out.2.1
                      have hl1 := blk_lt HB7.out.2.2.1
                      have p0 := blk_frozen HB7.out.2.1 0
                      have p1 := blk_frozen HB7.out.2.1 1
                      have x0 := blk_cell HB7.out.2.2.2 0
                      have x1 := blk_cell HB7.out.2.2.2 1
                      have x2 := blk_cell HB7.out.2.2.2 2
                      have x3 := blk_cell HB7.out.2.2.2 3
                      have x4 := blk_cell HB7.out.2.2.2 4
                      have z1 := blk_frozen HB7.out.2.2.2 1
                      have z2 := blk_frozen HB7.out.2.2.2 2
                      have hlx := blk_lt HB7.out.2.2.2
                      simp only [List.getElem?_toArray, List.getElem?_cons_zero, List.getElem?_cons_succ] at c0 c1 e0 e1 x0 x1 x2 x3 x4
                      by_cases hy1 : yk = 1
                      · subst hy1
                        have HR5 : Hid (r = if (cutR L to_ as_).2 ≠ 0 then (L, (cutR L to_ as_).2) else (withR (cutR L to_ as_).1 ⟨xn, to_, as_, 1, xd⟩, 0)) := Lib.hid (by rw [HR4.out]; simp [HO.out, HP.out])
                        clear HR4
                        go_wp2_with fail
                        refine (HCU.out _ (HB7.out.1.alloc HB7.out.1.size _)).mono ?_
                        rintro e w8 ⟨⟨A5, c5, rfl, hn5⟩, hb⟩
                        have hb := ext_trans ((Below.refl _ _).alloc (Nat.le_refl _) _) hb
                        have HN5 := Lib.hid hn5
                        clear hn5
                        have HB8 := Lib.hid (four_step HB7.out hb)
                        clear hb c0 c1 e0 e1 q0 q1 hl0 hl1 p0 p1 x0 x1 x2 x3 x4 z1 z2 hlx
                        have c0 := blk_cell HB8.out.2.1 0
                        have c1 := blk_cell HB8.out.2.1 1
                        have e0 := blk_cell HB8.out.2.2.1 0
                        have e1 := blk_cell HB8.out.2.2.1 1
                        have q0 := blk_frozen HB8.out.2.2.1 0
                        have q1 := blk_frozen HB8.out.2.2.1 1
                        have hl0 := blk_lt HB8.out.2.1
                        have hl1 := blk_lt HB8.out.2.2.1
                        have p0 := blk_frozen HB8.out.2.1 0
                        have p1 := blk_frozen HB8.out.2.1 1
                        have x0 := blk_cell HB8.out.2.2.2 0
                        have x1 := blk_cell HB8.out.2.2.2 1
                        have x2 := blk_cell HB8.out.2.2.2 2
                        have x3 := blk_cell HB8.out.2.2.2 3
                        have x4 := blk_cell HB8.out.2.2.2 4
                        have z1 := blk_frozen HB8.out.2.2.2 1
                        have z2 := blk_frozen HB8.out.2.2.2 2
                        have hlx := blk_lt HB8.out.2.2.2
                        simp only [List.getElem?_toArray, List.getElem?_cons_zero, List.getElem?_cons_succ] at c0 c1 e0 e1 x0 x1 x2 x3 x4
                        by_cases hf : (cutR L to_ as_).2 = 0
                        · have HL5 : Hid (2 ≤ (cutR L to_ as_).1.length ∧ (cutR L to_ as_).1.length ≤ 10000000) := Lib.hid (cut_two HROOT.out HNN.out HN0.out HOLD.out HO.out hf HN.out.2)
                          rw [hf] at HR5 ⊢
                          obtain ⟨L5, hL5⟩ : ∃ L5, (cutR L to_ as_).1 = L5 := ⟨_, rfl⟩
                          rw [hL5] at HR5 HN5 HL5 ⊢
                          clear hL5 hf
                          have HR6 : Hid (r = (withR L5 ⟨xn, to_, as_, 1, xd⟩, 0)) := HR5
                          obtain rfl := HR6.out
                          have HWI := Lib.hid (fun w hw => ref_with A5 c5 L5 last ⟨xn, to_, as_, 1, xd⟩ w hw (by have := HL5.out.1; omega) HL5.out.2)
                          obtain ⟨m5, hm5⟩ : ∃ m5, L5.length = m5 := ⟨_, rfl⟩
                          have HM5 := Lib.hid hm5
                          unfold nodeA at HWI
                          simp only at HWI
                          rw [hm5] at HWI ⊢
                          clear hm5
                          have HT := Lib.hid (tail_cut HB8.out HN5.out HL5.out.1 hltx (.slice A5 m5 c5) (.int .i64 last) (.int .i64 to_) (.string (mk as_)) (.cells #[.slice A5 m5 c5, .int .i64 last] 29))
                          go_wp2_with fail
                          refine (HWI.out _ HT.out.1).mono ?_
                          have HT := Lib.hid HT.out.2
                          rintro e w9 ⟨⟨A9, c9, rfl, hn9⟩, hb9⟩
                          have HB9 := Lib.hid (And.intro (ext_trans HT.out.1 hb9) (And.intro ((hb9.block _ (blk_lt HT.out.2)).trans HT.out.2) hn9))
                          clear hb9 hn9 c0 c1 e0 e1 q0 q1 hl0 hl1 p0 p1 x0 x1 x2 x3 x4 z1 z2 hlx
                          have e0 := blk_cell HB9.out.2.1 0
                          have e1 := blk_cell HB9.out.2.1 1
                          have q0 := blk_frozen HB9.out.2.1 0
                          have q1 := blk_frozen HB9.out.2.1 1
                          have hl1 := blk_lt HB9.out.2.1
                          simp only [List.getElem?_toArray, List.getElem?_cons_zero, List.getElem?_cons_succ] at e0 e1
                          go_wp2_with fail
                          refine bodyPost_ret (v := .tuple #[.agg #[.slice A9 (withR L5 ⟨xn, to_, as_, 1, xd⟩).length c9, .int .i64 last], .int .i64 0]) ?_ rfl ?_
                          · rw [results_cell_tmp rfl]
                            go_simp
                          · have HD := ret_done HB9.out.1 (Nat.le_succ _) HB9.out.2.1 HB9.out.2.2 (.slice A9 (withR L5 ⟨xn, to_, as_, 1, xd⟩).length c9) (.int .i64 last)
                            exact ⟨⟨A9, c9, rfl, HD.1⟩, HD.2⟩
                        · have HR6 : Hid (r = (L, (cutR L to_ as_).2)) := Lib.hid (by rw [HR5.out, if_pos hf])
                          obtain rfl := HR6.out
                          obtain ⟨f, hff⟩ : ∃ f, (cutR L to_ as_).2 = f := ⟨_, rfl⟩
                          have HFF := Lib.hid hff
                          rw [hff] at hf ⊢
                          clear hff HR5
                          obtain ⟨m5, hm5⟩ : ∃ m5, (cutR L to_ as_).1.length = m5 := ⟨_, rfl⟩
                          rw [hm5]
                          have hf1 : (f == 0) = false := by simpa using hf
                          have hf2 : (f != 0) = true := by simpa using hf
                          clear hf
                          go_wp2_with fail
                          refine bodyPost_ret (v := .tuple #[.agg #[.slice A m c, .int .i64 last], .int .i64 f]) ?_ rfl ?_
                          · rw [results_cell_tmp rfl]
                            go_simp
                          · have HD := ret_done HB8.out.1 (Nat.le_succ _) HB8.out.2.2.1 (HN.out.1.below HB8.out.1) (.slice A m c) (.int .i64 last)
                            exact ⟨⟨A, c, by rw [HL.out, HFF.out], HD.1.below ((Below.refl _ _).alloc (Nat.le_refl _) _)⟩, HD.2.alloc HD.2.size _⟩
                      · have hy1' : (yk == 1) = false := by simpa using hy1
                        have hy2' : (yk != 1) = true := by simpa using hy1
                        have HR5 : Hid (r = (L, 7)) := Lib.hid (by rw [HR4.out]; simp [HO.out, HP.out, hy1])
                        obtain rfl := HR5.out
                        clear hy1
                        go_wp2_with fail
                        refine bodyPost_ret (v := .tuple #[.agg #[.slice A m c, .int .i64 last], .int .i64 7]) ?_ rfl ?_
                        · rw [results_cell_tmp rfl]
                          go_simp
                        · have HD := ret_done HB7.out.1 (Nat.le_succ _) HB7.out.2.2.1 (HN.out.1.below HB7.out.1) (.slice A m c) (.int .i64 last)
                          exact ⟨⟨A, c, by rw [HL.out], HD.1.below ((Below.refl _ _).alloc (Nat.le_refl _) _)⟩, HD.2.alloc HD.2.size _⟩
                    · have HR5 : Hid (r = (withR L ⟨xn, to_, as_, 1, xd⟩, 0)) := Lib.hid (by rw [HR4.out, if_neg HO.out, if_neg hp])
                      obtain rfl := HR5.out
                      have HL5 := Lib.hid (all_two HROOT.out HNN.out HN0.out)
                      have HWI := Lib.hid (fun w hw => ref_with A c L last ⟨xn, to_, as_, 1, xd⟩ w hw (by have := HL5.out; omega) HN.out.2)
                      rw [HL.out] at HWI
                      unfold nodeA at HWI
                      simp only at HWI
                      have HT := Lib.hid (tail_x HB6.out (HN.out.1.below HB6.out.1) HL5.out hltx (.int .i64 to_) (.string (mk as_)))
                      go_wp2_with fail
                      refine (HWI.out _ HT.out.1).mono ?_
                      have HT := Lib.hid HT.out.2
                      rintro e w9 ⟨⟨A9, c9, rfl, hn9⟩, hb9⟩
                      have HB9 := Lib.hid (And.intro (ext_trans HT.out.1 hb9) (And.intro ((hb9.block _ (blk_lt HT.out.2)).trans HT.out.2) hn9))
                      clear hb9 hn9 c0 c1 e0 e1 q0 q1 hl0 hl1 p0 p1 x0 x1 x2 x3 x4 z1 z2 hlx
                      have e0 := blk_cell HB9.out.2.1 0
                      have e1 := blk_cell HB9.out.2.1 1
                      have q0 := blk_frozen HB9.out.2.1 0
                      have q1 := blk_frozen HB9.out.2.1 1
                      have hl1 := blk_lt HB9.out.2.1
                      simp only [List.getElem?_toArray, List.getElem?_cons_zero, List.getElem?_cons_succ] at e0 e1
                      go_wp2_with fail
                      refine bodyPost_ret (v := .tuple #[.agg #[.slice A9 (withR L ⟨xn, to_, as_, 1, xd⟩).length c9, .int .i64 last], .int .i64 0]) ?_ rfl ?_
                      · rw [results_cell_tmp rfl]
                        go_simp
                      · have HD := ret_done HB9.out.1 (Nat.le_succ _) HB9.out.2.1 HB9.out.2.2 (.slice A9 (withR L ⟨xn, to_, as_, 1, xd⟩).length c9) (.int .i64 last)
                        exact ⟨⟨A9, c9, rfl, HD.1⟩, HD.2⟩
              · have HR3 : Hid (r = (L, 14)) := Lib.hid (by
                  rw [HR2.out, HQ.out, if_pos]
                  cases gk with
                  | zero => rw [show insR L n 0 k = (k == n) from rfl, hkn]; simp
                  | succ g =>
                    rw [show insR L n (g + 1) k = (if (k == n || k == 1) = true then k == n else insR L n g (upR L k)) from rfl, hkn]; simp)
                obtain rfl := HR3.out
                go_wp2_with fail
                refine bodyPost_ret (v := .tuple #[.agg #[.slice A m c, .int .i64 last], .int .i64 14]) ?_ rfl ?_
                · rw [results_cell_tmp rfl]
                  go_simp
                · have HD := ret_done HBY.out.1 (Nat.le_succ _) HBY.out.2.2.1 (HN.out.1.below HBY.out.1) (.slice A m c) (.int .i64 last)
                  exact ⟨⟨A, c, by rw [HL.out], HD.1⟩, HD.2⟩
          · have hk1' : (xk == 1) = false := by simpa using hk1
            have HK1 := Lib.hid (show xk ≠ 1 from hk1)
            have HRX : Hid (r = moveX L ⟨xn, xu, xs, xk, xd⟩ n to_ as_) := Lib.hid (by rw [HR2.out, if_neg (by simp [hk1'])])
            clear hk1 HR2
            go_loopg [15] 0 (fun g kv wx => kv = .int .i64 to_ ∧ wx = wz)
            case atStart => exact ⟨rfl, rfl⟩
            case round =>
              obtain ⟨rfl, rfl⟩ := hrel
              have c0 := blk_cell HB5.out.2.1 0
              have c1 := blk_cell HB5.out.2.1 1
              have e0 := blk_cell HB5.out.2.2.1 0
              have e1 := blk_cell HB5.out.2.2.1 1
              have q0 := blk_frozen HB5.out.2.2.1 0
              have q1 := blk_frozen HB5.out.2.2.1 1
              have hl0 := blk_lt HB5.out.2.1
              have hl1 := blk_lt HB5.out.2.2.1
              have p0 := blk_frozen HB5.out.2.1 0
              have p1 := blk_frozen HB5.out.2.1 1
              have x0 := blk_cell HB5.out.2.2.2 0
              have x1 := blk_cell HB5.out.2.2.2 1
              have x2 := blk_cell HB5.out.2.2.2 2
              have x3 := blk_cell HB5.out.2.2.2 3
              have x4 := blk_cell HB5.out.2.2.2 4
              have z1 := blk_frozen HB5.out.2.2.2 1
              have z2 := blk_frozen HB5.out.2.2.2 2
              have hlx := blk_lt HB5.out.2.2.2
              simp only [List.getElem?_toArray, List.getElem?_cons_zero, List.getElem?_cons_succ] at c0 c1 e0 e1 x0 x1 x2 x3 x4
              obtain ⟨old, hold⟩ : ∃ old, inR L to_ as_ = old := ⟨_, rfl⟩
              have HIN2 := Lib.hid (HIN.out to_ as_)
              rw [hold] at HIN2
              have HOLD := Lib.hid hold
              have HR4 : Hid (r = if old = n then (L, 0) else if 0 < old then (if (atR L old).kind = 1 ∧ (xk : Int) ≠ 1 then (L, 8) else if (atR L old).kind ≠ 1 ∧ (xk : Int) = 1 then (L, 7) else if (cutR L to_ as_).2 ≠ 0 then (L, (cutR L to_ as_).2) else (withR (cutR L to_ as_).1 ⟨xn, to_, as_, xk, xd⟩, 0)) else (withR L ⟨xn, to_, as_, xk, xd⟩, 0)) := Lib.hid (by rw [HRX.out]; unfold moveX; rw [hold] <;> try rfl)
              clear hold HRX
              go_wp2_with fail
              refine (HIN2.out _ HB5.out.1).mono ?_
              rintro e w6 ⟨rfl, hb⟩
              have hltx : W.heap.size + 1 < X := HX.out
              have HB6 := Lib.hid (four_step HB5.out hb)
              clear hb c0 c1 e0 e1 q0 q1 hl0 hl1 p0 p1 x0 x1 x2 x3 x4 z1 z2 hlx
              have c0 := blk_cell HB6.out.2.1 0
              have c1 := blk_cell HB6.out.2.1 1
              have e0 := blk_cell HB6.out.2.2.1 0
              have e1 := blk_cell HB6.out.2.2.1 1
              have q0 := blk_frozen HB6.out.2.2.1 0
              have q1 := blk_frozen HB6.out.2.2.1 1
              have hl0 := blk_lt HB6.out.2.1
              have hl1 := blk_lt HB6.out.2.2.1
              have p0 := blk_frozen HB6.out.2.1 0
              have p1 := blk_frozen HB6.out.2.1 1
              have x0 := blk_cell HB6.out.2.2.2 0
              have x1 := blk_cell HB6.out.2.2.2 1
              have x2 := blk_cell HB6.out.2.2.2 2
              have x3 := blk_cell HB6.out.2.2.2 3
              have x4 := blk_cell HB6.out.2.2.2 4
              have z1 := blk_frozen HB6.out.2.2.2 1
              have z2 := blk_frozen HB6.out.2.2.2 2
              have hlx := blk_lt HB6.out.2.2.2
              simp only [List.getElem?_toArray, List.getElem?_cons_zero, List.getElem?_cons_succ] at c0 c1 e0 e1 x0 x1 x2 x3 x4
              by_cases ho : old = n
              · have HR5 : Hid (r = (L, 0)) := Lib.hid (by rw [HR4.out, if_pos ho])
                obtain rfl := HR5.out
                have ho' : (old == n) = true := by simpa using ho
                clear ho
                go_wp2_with fail
                refine bodyPost_ret (v := .tuple #[.agg #[.slice A m c, .int .i64 last], .int .i64 0]) ?_ rfl ?_
                · rw [results_cell_tmp rfl]
                  go_simp
                · have HD := ret_done HB6.out.1 (Nat.le_succ _) HB6.out.2.2.1 (HN.out.1.below HB6.out.1) (.slice A m c) (.int .i64 last)
                  exact ⟨⟨A, c, by rw [HL.out], HD.1⟩, HD.2⟩
              · have ho' : (old == n) = false := by simpa using ho
                have HO := Lib.hid (show old ≠ n from ho)
                clear ho
                by_cases hp : 0 < old
                · have HP := Lib.hid hp
                  obtain ⟨y, hy⟩ : ∃ y, atR L old = y := ⟨_, rfl⟩
                  have HAT2 := Lib.hid (HATT.out old)
                  rw [hy] at HR4 HAT2
                  obtain ⟨yn, yu, ys, yk, yd⟩ := y
                  unfold nodeA at HAT2
                  simp only at HAT2 HR4
                  clear hy
                  go_wp2_with fail
                  refine (HAT2.out _ HB6.out.1).mono ?_
                  rintro e w7 ⟨rfl, hb⟩
                  have HB7 := Lib.hid (four_step HB6.out hb)
                  clear hb c0 c1 e0 e1 q0 q1 hl0 hl1 p0 p1 x0 x1 x2 x3 x4 z1 z2 hlx
                  have c0 := blk_cell HB7.out.2.1 0
                  have c1 := blk_cell HB7.out.2.1 1
                  have e0 := blk_cell HB7.out.2.2.1 0
                  have e1 := blk_cell HB7.out.2.2.1 1
                  have q0 := blk_frozen HB7.out.2.2.1 0
                  have q1 := blk_frozen HB7.out.2.2.1 1
                  have hl0 := blk_lt HB7.out.2.1
                  have hl1 := blk_lt HB7.out.2.2.1
                  have p0 := blk_frozen HB7.out.2.1 0
                  have p1 := blk_frozen HB7.out.2.1 1
                  have x0 := blk_cell HB7.out.2.2.2 0
                  have x1 := blk_cell HB7.out.2.2.2 1
                  have x2 := blk_cell HB7.out.2.2.2 2
                  have x3 := blk_cell HB7.out.2.2.2 3
                  have x4 := blk_cell HB7.out.2.2.2 4
                  have z1 := blk_frozen HB7.out.2.2.2 1
                  have z2 := blk_frozen HB7.out.2.2.2 2
                  have hlx := blk_lt HB7.out.2.2.2
                  simp only [List.getElem?_toArray, List.getElem?_cons_zero, List.getElem?_cons_succ] at c0 c1 e0 e1 x0 x1 x2 x3 x4
                  by_cases hy1 : yk = 1
                  · subst hy1
                    have HR5 : Hid (r = (L, 8)) := Lib.hid (by rw [HR4.out]; simp [HO.out, HP.out, HK1.out])
                    obtain rfl := HR5.out
                    go_wp2_with fail
                    refine bodyPost_ret (v := .tuple #[.agg #[.slice A m c, .int .i64 last], .int .i64 8]) ?_ rfl ?_
                    · rw [results_cell_tmp rfl]
                      go_simp
                    · have HD := ret_done HB7.out.1 (Nat.le_succ _) HB7.out.2.2.1 (HN.out.1.below HB7.out.1) (.slice A m c) (.int .i64 last)
                      exact ⟨⟨A, c, by rw [HL.out], HD.1.below ((Below.refl _ _).alloc (Nat.le_refl _) _)⟩, HD.2.alloc HD.2.size _⟩
                  · have hy1' : (yk == 1) = false := by simpa using hy1
                    have hy2' : (yk != 1) = true := by simpa using hy1
                    have HY1 := Lib.hid (show yk ≠ 1 from hy1)
                    clear hy1
                    have HR5 : Hid (r = if (cutR L to_ as_).2 ≠ 0 then (L, (cutR L to_ as_).2) else (withR (cutR L to_ as_).1 ⟨xn, to_, as_, xk, xd⟩, 0)) := Lib.hid (by rw [HR4.out]; simp [HO.out, HP.out, HK1.out, HY1.out])
                    clear HR4
                    go_wp2_with fail
                    refine (HCU.out _ (HB7.out.1.alloc HB7.out.1.size _)).mono ?_
                    rintro e w8 ⟨⟨A5, c5, rfl, hn5⟩, hb⟩
                    have hb := ext_trans ((Below.refl _ _).alloc (Nat.le_refl _) _) hb
                    have HN5 := Lib.hid hn5
                    clear hn5
                    have HB8 := Lib.hid (four_step HB7.out hb)
                    clear hb c0 c1 e0 e1 q0 q1 hl0 hl1 p0 p1 x0 x1 x2 x3 x4 z1 z2 hlx
                    have c0 := blk_cell HB8.out.2.1 0
                    have c1 := blk_cell HB8.out.2.1 1
                    have e0 := blk_cell HB8.out.2.2.1 0
                    have e1 := blk_cell HB8.out.2.2.1 1
                    have q0 := blk_frozen HB8.out.2.2.1 0
                    have q1 := blk_frozen HB8.out.2.2.1 1
                    have hl0 := blk_lt HB8.out.2.1
                    have hl1 := blk_lt HB8.out.2.2.1
                    have p0 := blk_frozen HB8.out.2.1 0
                    have p1 := blk_frozen HB8.out.2.1 1
                    have x0 := blk_cell HB8.out.2.2.2 0
                    have x1 := blk_cell HB8.out.2.2.2 1
                    have x2 := blk_cell HB8.out.2.2.2 2
                    have x3 := blk_cell HB8.out.2.2.2 3
                    have x4 := blk_cell HB8.out.2.2.2 4
                    have z1 := blk_frozen HB8.out.2.2.2 1
                    have z2 := blk_frozen HB8.out.2.2.2 2
                    have hlx := blk_lt HB8.out.2.2.2
                    simp only [List.getElem?_toArray, List.getElem?_cons_zero, List.getElem?_cons_succ] at c0 c1 e0 e1 x0 x1 x2 x3 x4
                    by_cases hf : (cutR L to_ as_).2 = 0
                    · have HL5 : Hid (2 ≤ (cutR L to_ as_).1.length ∧ (cutR L to_ as_).1.length ≤ 10000000) := Lib.hid (cut_two HROOT.out HNN.out HN0.out HOLD.out HO.out hf HN.out.2)
                      rw [hf] at HR5 ⊢
                      obtain ⟨L5, hL5⟩ : ∃ L5, (cutR L to_ as_).1 = L5 := ⟨_, rfl⟩
                      rw [hL5] at HR5 HN5 HL5 ⊢
                      clear hL5 hf
                      have HR6 : Hid (r = (withR L5 ⟨xn, to_, as_, xk, xd⟩, 0)) := HR5
                      obtain rfl := HR6.out
                      have HWI := Lib.hid (fun w hw => ref_with A5 c5 L5 last ⟨xn, to_, as_, xk, xd⟩ w hw (by have := HL5.out.1; omega) HL5.out.2)
                      obtain ⟨m5, hm5⟩ : ∃ m5, L5.length = m5 := ⟨_, rfl⟩
                      have HM5 := Lib.hid hm5
                      unfold nodeA at HWI
                      simp only at HWI
                      rw [hm5] at HWI ⊢
                      clear hm5
                      have HT := Lib.hid (tail_cut HB8.out HN5.out HL5.out.1 hltx (.slice A5 m5 c5) (.int .i64 last) (.int .i64 to_) (.string (mk as_)) (.cells #[.slice A5 m5 c5, .int .i64 last] 29))
                      go_wp2_with fail
                      refine (HWI.out _ HT.out.1).mono ?_
                      have HT := Lib.hid HT.out.2
                      rintro e w9 ⟨⟨A9, c9, rfl, hn9⟩, hb9⟩
                      have HB9 := Lib.hid (And.intro (ext_trans HT.out.1 hb9) (And.intro ((hb9.block _ (blk_lt HT.out.2)).trans HT.out.2) hn9))
                      clear hb9 hn9 c0 c1 e0 e1 q0 q1 hl0 hl1 p0 p1 x0 x1 x2 x3 x4 z1 z2 hlx
                      have e0 := blk_cell HB9.out.2.1 0
                      have e1 := blk_cell HB9.out.2.1 1
                      have q0 := blk_frozen HB9.out.2.1 0
                      have q1 := blk_frozen HB9.out.2.1 1
                      have hl1 := blk_lt HB9.out.2.1
                      simp only [List.getElem?_toArray, List.getElem?_cons_zero, List.getElem?_cons_succ] at e0 e1
                      go_wp2_with fail
                      refine bodyPost_ret (v := .tuple #[.agg #[.slice A9 (withR L5 ⟨xn, to_, as_, xk, xd⟩).length c9, .int .i64 last], .int .i64 0]) ?_ rfl ?_
                      · rw [results_cell_tmp rfl]
                        go_simp
                      · have HD := ret_done HB9.out.1 (Nat.le_succ _) HB9.out.2.1 HB9.out.2.2 (.slice A9 (withR L5 ⟨xn, to_, as_, xk, xd⟩).length c9) (.int .i64 last)
                        exact ⟨⟨A9, c9, rfl, HD.1⟩, HD.2⟩
                    · have HR6 : Hid (r = (L, (cutR L to_ as_).2)) := Lib.hid (by rw [HR5.out, if_pos hf])
                      obtain rfl := HR6.out
                      obtain ⟨f, hff⟩ : ∃ f, (cutR L to_ as_).2 = f := ⟨_, rfl⟩
                      have HFF := Lib.hid hff
                      rw [hff] at hf ⊢
                      clear hff HR5
                      obtain ⟨m5, hm5⟩ : ∃ m5, (cutR L to_ as_).1.length = m5 := ⟨_, rfl⟩
                      rw [hm5]
                      have hf1 : (f == 0) = false := by simpa using hf
                      have hf2 : (f != 0) = true := by simpa using hf
                      clear hf
                      go_wp2_with fail
                      refine bodyPost_ret (v := .tuple #[.agg #[.slice A m c, .int .i64 last], .int .i64 f]) ?_ rfl ?_
                      · rw [results_cell_tmp rfl]
                        go_simp
                      · have HD := ret_done HB8.out.1 (Nat.le_succ _) HB8.out.2.2.1 (HN.out.1.below HB8.out.1) (.slice A m c) (.int .i64 last)
                        exact ⟨⟨A, c, by rw [HL.out, HFF.out], HD.1.below ((Below.refl _ _).alloc (Nat.le_refl _) _)⟩, HD.2.alloc HD.2.size _⟩
                · have HR5 : Hid (r = (withR L ⟨xn, to_, as_, xk, xd⟩, 0)) := Lib.hid (by rw [HR4.out, if_neg HO.out, if_neg hp])
                  obtain rfl := HR5.out
                  have HL5 := Lib.hid (all_two HROOT.out HNN.out HN0.out)
                  have HWI := Lib.hid (fun w hw => ref_with A c L last ⟨xn, to_, as_, xk, xd⟩ w hw (by have := HL5.out; omega) HN.out.2)
                  rw [HL.out] at HWI
                  unfold nodeA at HWI
                  simp only at HWI
                  have HT := Lib.hid (tail_x HB6.out (HN.out.1.below HB6.out.1) HL5.out hltx (.int .i64 to_) (.string (mk as_)))
                  go_wp2_with fail
                  refine (HWI.out _ HT.out.1).mono ?_
                  have HT := Lib.hid HT.out.2
                  rintro e w9 ⟨⟨A9, c9, rfl, hn9⟩, hb9⟩
                  have HB9 := Lib.hid (And.intro (ext_trans HT.out.1 hb9) (And.intro ((hb9.block _ (blk_lt HT.out.2)).trans HT.out.2) hn9))
                  clear hb9 hn9 c0 c1 e0 e1 q0 q1 hl0 hl1 p0 p1 x0 x1 x2 x3 x4 z1 z2 hlx
                  have e0 := blk_cell HB9.out.2.1 0
                  have e1 := blk_cell HB9.out.2.1 1
                  have q0 := blk_frozen HB9.out.2.1 0
                  have q1 := blk_frozen HB9.out.2.1 1
                  have hl1 := blk_lt HB9.out.2.1
                  simp only [List.getElem?_toArray, List.getElem?_cons_zero, List.getElem?_cons_succ] at e0 e1
                  go_wp2_with fail
                  refine bodyPost_ret (v := .tuple #[.agg #[.slice A9 (withR L ⟨xn, to_, as_, xk, xd⟩).length c9, .int .i64 last], .int .i64 0]) ?_ rfl ?_
                  · rw [results_cell_tmp rfl]
                    go_simp
                  · have HD := ret_done HB9.out.1 (Nat.le_succ _) HB9.out.2.1 HB9.out.2.2 (.slice A9 (withR L ⟨xn, to_, as_, xk, xd⟩).length c9) (.int .i64 last)
                    exact ⟨⟨A9, c9, rfl, HD.1⟩, HD.2⟩
        · have HR2 : Hid (r = (L, ck)) := Lib.hid (by rw [HR.out]; simp [HN0.out, hc0])
          obtain rfl := HR2.out
          have hc1 : (ck == 0) = false := by simpa using hc0
          have hc2 : (ck != 0) = true := by simpa using hc0
          clear hc0
          go_wp2_with fail
          refine bodyPost_ret (v := .tuple #[.agg #[.slice A m c, .int .i64 last], .int .i64 ck]) ?_ rfl ?_
          · rw [results_cell_tmp rfl]
            go_simp
          · have HD := ret_done HB3.out.1 (Nat.le_succ _) HB3.out.2.2 (HN.out.1.below HB3.out.1) (.slice A m c) (.int .i64 last)
            exact ⟨⟨A, c, by rw [HL.out], HD.1⟩, HD.2⟩
    · have h2' : (q2 == 0) = false := by simpa using h2
      have h2'' : (q2 != 0) = true := by simpa using h2
      have HR2 : Hid (r = (L, q2)) := Lib.hid (by rw [HR.out, if_neg (by simp), if_pos h2])
      obtain rfl := HR2.out
      clear h2
      go_wp2_with fail
      refine (HIN1.out _ HB2.out.1).mono ?_
      rintro e w3 ⟨rfl, hb⟩
      have HB3 := Lib.hid (And.intro (ext_trans HB2.out.1 hb) (And.intro ((hb.block _ (blk_lt HB2.out.2.1)).trans HB2.out.2.1) ((hb.block _ (blk_lt HB2.out.2.2)).trans HB2.out.2.2)))
      clear hb c0 c1 e0 e1 q0 q1 hl0 hl1
      have c0 := blk_cell HB3.out.2.1 0
      have c1 := blk_cell HB3.out.2.1 1
      have e0 := blk_cell HB3.out.2.2 0
      have e1 := blk_cell HB3.out.2.2 1
      have q0 := blk_frozen HB3.out.2.2 0
      have q1 := blk_frozen HB3.out.2.2 1
      have hl0 := blk_lt HB3.out.2.1
      have hl1 := blk_lt HB3.out.2.2
      simp only [List.getElem?_toArray, List.getElem?_cons_zero, List.getElem?_cons_succ] at c0 c1 e0 e1
      go_wp2_with fail
      refine bodyPost_ret (v := .tuple #[.agg #[.slice A m c, .int .i64 last], .int .i64 q2]) ?_ rfl ?_
      · rw [results_cell_tmp rfl]
        go_simp
      · have HD := ret_done HB3.out.1 (Nat.le_succ _) HB3.out.2.2 (HN.out.1.below HB3.out.1) (.slice A m c) (.int .i64 last)
        exact ⟨⟨A, c, by rw [HL.out], HD.1⟩, HD.2⟩
  · have h0' : (qd == 0) = false := by simpa using h0
    have h0'' : (qd != 0) = true := by simpa using h0
    have HR2 : Hid (r = (L, qd)) := Lib.hid (by rw [HR.out, if_pos h0])
    obtain rfl := HR2.out
    clear h0
    go_wp2_with fail
    refine (HIN1.out _ HB.out.1).mono ?_
    rintro e w3 ⟨rfl, hb⟩
    have HB3 := Lib.hid (And.intro (ext_trans HB.out.1 hb) (And.intro ((hb.block _ (blk_lt HB.out.2.1)).trans HB.out.2.1) ((hb.block _ (blk_lt HB.out.2.2)).trans HB.out.2.2)))
    clear hb c0 c1 e0 e1 q0 q1 hl0 hl1
    have c0 := blk_cell HB3.out.2.1 0
    have c1 := blk_cell HB3.out.2.1 1
    have e0 := blk_cell HB3.out.2.2 0
    have e1 := blk_cell HB3.out.2.2 1
    have q0 := blk_frozen HB3.out.2.2 0
    have q1 := blk_frozen HB3.out.2.2 1
    have hl0 := blk_lt HB3.out.2.1
    have hl1 := blk_lt HB3.out.2.2
    simp only [List.getElem?_toArray, List.getElem?_cons_zero, List.getElem?_cons_succ] at c0 c1 e0 e1
    go_wp2_with fail
    refine bodyPost_ret (v := .tuple #[.agg #[.slice A m c, .int .i64 last], .int .i64 qd]) ?_ rfl ?_
    · rw [results_cell_tmp rfl]
      go_simp
    · have HD := ret_done HB3.out.1 (Nat.le_succ _) HB3.out.2.2 (HN.out.1.below HB3.out.1) (.slice A m c) (.int .i64 last)
      exact ⟨⟨A, c, by rw [HL.out], HD.1⟩, HD.2⟩
end Go.Proofs.Ytmjggjccmbiheab
