/- ents.Put, ents.Cut and ents.Merge, step by step. -/
import Derived.Test.YtmjggjccmbiheabEntsDel
namespace Go.Proofs.Ytmjggjccmbiheab
open Go.RowKit Go.Proofs Go.Sort
attribute [local go_sem] mk_list mk_size mk_data

theorem OwnE.mono {w : World} {base base' : Nat} {v : Value} {xs : List En} (h : OwnE w base v xs) (hb : base' ≤ base) : OwnE w base' v xs := by
  refine ⟨h.1, ?_⟩
  rcases h.2 with h0 | ⟨g, cap, cur, e, hbg, rest⟩
  · exact .inl h0
  · exact .inr ⟨g, cap, cur, e, Nat.le_trans hb hbg, rest⟩
theorem OwnE.below {w w1 : World} {base : Nat} {v : Value} {xs : List En} (h : OwnE w base v xs) (hb : Below w.heap.size w w1) : OwnE w1 base v xs := own_below h hb
theorem own_set {w : World} {base g n c k : Nat} {e : TypeId} {size : Nat} {xs : List Value} (h : w.ownsRow base e size (.slice (some ⟨g, 0, none⟩) n c) n xs) (u : Value) (_hk : k < n * size) :
    (w.setCell ⟨g, k, none⟩ u).ownsRow base e size (.slice (some ⟨g, 0, none⟩) n c) n (xs.set k u) := by
  refine ⟨by rw [List.length_set]; exact h.1, ?_⟩
  rcases h.2 with ⟨h0, _⟩ | ⟨g', cap', cur, hv, hb, hg, hn, hm, hs, ht⟩
  · cases h0
  cases hv
  refine .inr ⟨g, c, cur.setIfInBounds k u, rfl, hb, ?_, hn, hm, by simpa using hs, ?_⟩
  · rw [setCell_eq_setRow w g k cur e (0, 0) u hg]
    exact setRow_heap w g cur _ e _ hg
  · rw [Array.toList_setIfInBounds, List.take_set, ht]

def insE (xs : List En) (i : Nat) (e : En) : List En := xs.take i ++ [e] ++ xs.drop i
/-- Entries with one more. -/
def putE (xs : List En) (e : En) : List En := if atB xs e.1 then xs.set (atI xs e.1) e else insE xs (atI xs e.1) e
def putP (xs : List En) (e : En) : List En := putE (allE xs) e
def cutE (xs : List En) (s : Tx) : List En := if atB xs s then xs.take (atI xs s) ++ xs.drop (atI xs s + 1) else xs
def cutP (xs : List En) (s : Tx) : List En := cutE (allE xs) s
theorem putP_le (xs : List En) (e : En) : (putP xs e).length ≤ xs.length + 1 := by
  have := allE_le xs
  unfold putP putE insE
  split
  · simp; omega
  · simp; omega

def GivesE (xs : List En) (w : World) (e : Ending) (w' : World) : Prop := ∃ v', e = .returned v' ∧ OwnE w' w.heap.size v' xs ∧ Below w.heap.size w w'

theorem cellsE_set : ∀ (xs : List En) (i : Nat) (e : En), ((cellsE xs).set (i * 2) (.string (mk e.1))).set (i * 2 + 1) (.int .i64 e.2) = cellsE (xs.set i e)
  | [], i, e => by simp [cellsE]
  | x :: xs, 0, e => rfl
  | x :: xs, i + 1, e => by
    have := cellsE_set xs i e
    rw [List.set_cons_succ, cellsE_cons, cellsE_cons, ← this, show (i + 1) * 2 = i * 2 + 1 + 1 by omega]
    simp [encE]

theorem box_cells (w : World) (e : En) : let W := w.alloc (Obj.cells #[Value.string (mk e.1), Value.int IntKind.i64 e.2] 40)
    Below w.heap.size w W ∧ w.heap.size < W.heap.size ∧ W.cell? ⟨w.heap.size, 0, none⟩ = some (.string (mk e.1)) ∧ W.cell? ⟨w.heap.size, 1, none⟩ = some (.int .i64 e.2) := by
  intro W
  refine ⟨(Below.refl _ _).alloc (Nat.le_refl _) _, by simp [W], ?_, ?_⟩
  · exact (World.cell?_alloc_at (w := w) _ _ _ 0 rfl).trans rfl
  · exact (World.cell?_alloc_at (w := w) _ _ _ 1 rfl).trans rfl

set_option maxRecDepth 100000 in
set_option maxHeartbeats 2000000 in
theorem ents_Put (a : Option Addr) (c : Nat) (xs : List En) (s : Tx) (nd : Int) (w : World) (h : EntsAt w a xs) (hl : xs.length ≤ 1000000000) :
    Calls Try.prog 33 #[.slice a xs.length c, .agg #[.string (mk s), .int .i64 nd]] w (GivesE (putP xs (s, nd)) w) := by
  have h1 := fun W hW => ents_all a c xs W hW (by omega)
  have hr := rise_allE xs
  have hl2 := Nat.le_trans (allE_le xs) hl
  have HH := Lib.hid h
  have HP := Lib.hid (show putP xs (s, nd) = putE (allE xs) (s, nd) from rfl)
  obtain ⟨n, hn⟩ : ∃ n, xs.length = n := ⟨_, rfl⟩
  rw [hn] at h1 ⊢
  clear hn h hl
  obtain ⟨P, hP⟩ : ∃ P, putP xs (s, nd) = P := ⟨_, rfl⟩
  rw [hP] at HP ⊢
  clear hP
  generalize allE xs = ys at *
  obtain ⟨m, hm⟩ : ∃ m, ys.length = m := ⟨_, rfl⟩
  have HM := Lib.hid hm
  have HR := Lib.hid hr
  rw [hm] at h1 hl2
  clear hm hr
  go_enter Try.func33, Try.ntmps33
  go_wp2_with fail
  have HC := box_cells w (s, nd)
  obtain ⟨W0, hW0⟩ : ∃ W0, w.alloc (Obj.cells #[Value.string (mk s), Value.int IntKind.i64 nd] 40) = W0 := ⟨_, rfl⟩
  simp only [] at HC
  rw [hW0] at HC ⊢
  have HE := Lib.hid (HH.out.below HC.1)
  have HT : Hid (∀ w2, Below W0.heap.size W0 w2 → Below w.heap.size w w2) := Lib.hid fun w2 h => ext_trans HC.1 h
  have HS := Lib.hid HC.1.size
  replace HC := Lib.hid HC.2
  obtain ⟨B, hB⟩ : ∃ B, w.heap.size = B := ⟨_, rfl⟩
  rw [hB] at HC HS ⊢
  have HB := Lib.hid hB
  clear hW0 hB
  refine (h1 W0 HE.out).mono ?_
  rintro e w1 ⟨a1, c1, rfl, k1, q1, hw1⟩
  have b1 := Lib.hid (show Below W0.heap.size W0 w1 by rw [hw1]; exact below_drewN (Below.refl _ _) _)
  have K1 := Lib.hid k1
  clear h1 hw1 k1
  go_wp2_with fail
  have h2 := ents_Clone a1 c1 ys w1 K1.out (by have := HM.out; omega)
  rw [HM.out] at h2
  refine h2.mono ?_
  rintro e w2 ⟨v2, rfl, o2, bb2⟩
  have b2 := Lib.hid (ext_trans b1.out bb2)
  obtain ⟨a2, c2, rfl, k2, hlc⟩ := o2.at
  have HO2 := Lib.hid (o2.mono (Nat.le_trans HS.out b1.out.size))
  have K2 := Lib.hid k2
  clear h2 o2 k2 bb2
  rw [HM.out] at hlc ⊢
  have g1 := (b2.out.cell (p := ⟨B, 0, none⟩) HC.out.1).trans HC.out.2.1
  go_wp2_with fail
  have h3 := ents_at a2 c2 ys s w2 K2.out (by have := HM.out; omega) HR.out
  rw [HM.out] at h3
  obtain ⟨i, hi⟩ : ∃ i, atI ys s = i := ⟨_, rfl⟩
  obtain ⟨b, hb⟩ : ∃ b, atB ys s = b := ⟨_, rfl⟩
  have HI := Lib.hid (And.intro hi hb)
  rw [hi, hb] at h3
  have him : i ≤ m := by have h := atI_le ys s; rw [hi, HM.out] at h; exact h
  clear hi hb g1
  refine h3.mono ?_
  rintro e w3 ⟨rfl, bb3⟩
  have b3 := Lib.hid (ext_trans b2.out bb3)
  have HO3 := Lib.hid (HO2.out.below bb3)
  clear h3 bb3
  have g1 := (b3.out.cell (p := ⟨B, 0, none⟩) HC.out.1).trans HC.out.2.1
  have g2 := (b3.out.cell (p := ⟨B, 1, none⟩) HC.out.1).trans HC.out.2.2
  have HT3 := Lib.hid (HT.out w3 b3.out)
  cases b
  · have HP2 : Hid (P = insE ys i (s, nd)) := Lib.hid (by have := HP.out; unfold putE at this; rw [HI.out.2, HI.out.1] at this; simpa using this)
    have hbs : Hid (B ≤ w3.heap.size) := Lib.hid (Nat.le_trans HS.out b3.out.size)
    go_wp2_with fail
    have h4 := slices_Insert w (w3.alloc (Obj.cells #[Value.string (mk s), Value.int IntKind.i64 nd] 40)) B w3.heap.size m i (.slice a2 m c2) (cellsE ys) [.string (mk s), .int .i64 nd]
      (by have := HO3.out.alloc (Obj.cells #[Value.string (mk s), Value.int IntKind.i64 nd] 40); rwa [HM.out] at this)
      (by have := HT3.out; rw [HB.out] at this; exact this.alloc hbs.out _)
      (by have := hbs.out; simp; omega) (heap_alloc_new w3 _)
      (by intro e; have := HO3.out.lt w3.heap.size (by rw [← e, HM.out]); omega) rfl (by simp [Value.oneCell']) (cellsE_one _) (by omega) him
    refine h4.mono ?_
    rintro e w4 ⟨v4, rfl, ho4, bb4⟩
    have hfin : GivesE P w (.returned v4) w4 := by
      refine ⟨v4, rfl, ?_, by rw [HB.out]; exact bb4⟩
      rw [HP2.out, HB.out]
      have e1 : cellsE (insE ys i (s, nd)) = (cellsE ys).take (i * 2) ++ [.string (mk s), .int .i64 nd] ++ (cellsE ys).drop (i * 2) := by
        unfold insE
        rw [cellsE_append, cellsE_append, cellsE_take, cellsE_drop]
        rfl
      have e2 : (insE ys i (s, nd)).length = m + 1 := by have := HM.out; unfold insE; simp; omega
      unfold OwnE
      rw [e1, e2]
      exact ho4
    have HF := Lib.hid hfin
    clear hfin ho4 bb4 h4
    go_wp2_with fail
    go_ret
    exact HF.out
  · have HP2 : Hid (P = ys.set i (s, nd)) := Lib.hid (by have := HP.out; unfold putE at this; rw [HI.out.2, HI.out.1] at this; simpa using this)
    have hin : i < m := by obtain ⟨h, _⟩ := findE_in HR.out HI.out.2; rw [HI.out.1, HM.out] at h; exact h
    have hv : ∃ g, a2 = some ⟨g, 0, none⟩ := by
      rcases HO3.out.2 with ⟨h0, h1⟩ | ⟨g, cap, cur, e, _⟩
      · rw [HM.out] at h1; omega
      · cases e; exact ⟨g, rfl⟩
    obtain ⟨g, rfl⟩ := hv
    have HO4 := HO3.out
    rw [HM.out] at HO4
    unfold OwnE at HO4
    rw [HM.out] at HO4
    have hbg : B ≤ g := (HO4.lt g rfl).1
    have hc3 := (HO3.out.below (Below.refl _ _)).at
    obtain ⟨a5, c5, e5, k5, _⟩ := hc3
    cases e5
    rcases k5 with k5 | ⟨b5, o5, e5, l5, k5⟩
    · rw [k5] at HM; have := HM.out; simp at this; omega
    cases e5
    have f1 := (k5 i (by rw [HM.out]; exact hin)).1
    have f2 := (k5 i (by rw [HM.out]; exact hin)).2
    rw [Nat.zero_add] at f1 f2
    have hfz : ∀ k, w3.frozen? ⟨g, k, none⟩ = false := by
      rcases HO4.2 with ⟨h0, _⟩ | ⟨g', cap', cur, hv, _, hg, _⟩
      · cases h0
      · cases hv; intro k; simp [World.frozen?, hg]
    have z1 := hfz (i * 2)
    have z2 := hfz (i * 2 + 1)
    have HO := Lib.hid HO4
    have hbg' := Lib.hid hbg
    have hi0 : (0 : Int) ≤ (i : Int) := by omega
    have him' : (i : Int) < (m : Int) := by omega
    clear hfz HO4 k5 l5 hbg
    go_wp2_with fail
    go_ret
    refine ⟨_, rfl, ?_, ((HT3.out.setCell (p := ⟨g, i * 2, none⟩) (by rw [HB.out]; exact hbg'.out) _).setCell (p := ⟨g, i * 2 + 1, none⟩) (by rw [HB.out]; exact hbg'.out) _)⟩
    have h5 := own_set (own_set HO.out (k := i * 2) (.string (mk s)) (by omega)) (k := i * 2 + 1) (.int .i64 nd) (by omega)
    have e1 := cellsE_set ys i (s, nd)
    simp only [] at e1
    rw [e1] at h5
    rw [HP2.out, HB.out]
    unfold OwnE
    rw [List.length_set, HM.out]
    exact h5

set_option maxRecDepth 100000 in
set_option maxHeartbeats 2000000 in
theorem ents_Cut (a : Option Addr) (c : Nat) (xs : List En) (s : Tx) (w : World) (h : EntsAt w a xs) (hl : xs.length ≤ 1000000000) :
    Calls Try.prog 35 #[.slice a xs.length c, .string (mk s)] w (GivesE (cutP xs s) w) := by
  have h1 := ents_all a c xs w h (by omega)
  have hr := rise_allE xs
  have hl2 := Nat.le_trans (allE_le xs) hl
  have HP := Lib.hid (show cutP xs s = cutE (allE xs) s from rfl)
  obtain ⟨n, hn⟩ : ∃ n, xs.length = n := ⟨_, rfl⟩
  rw [hn] at h1 ⊢
  clear hn h hl
  obtain ⟨P, hP⟩ : ∃ P, cutP xs s = P := ⟨_, rfl⟩
  rw [hP] at HP ⊢
  clear hP
  generalize allE xs = ys at *
  obtain ⟨m, hm⟩ : ∃ m, ys.length = m := ⟨_, rfl⟩
  have HM := Lib.hid hm
  have HR := Lib.hid hr
  rw [hm] at h1 hl2
  clear hm hr
  go_enter Try.func35, Try.ntmps35
  go_wp2_with fail
  refine h1.mono ?_
  rintro e w1 ⟨a1, c1, rfl, k1, q1, hw1⟩
  have b1 := Lib.hid (show Below w.heap.size w w1 by rw [hw1]; exact below_drewN (Below.refl _ _) _)
  have K1 := Lib.hid k1
  clear h1 hw1 k1
  go_wp2_with fail
  have h2 := ents_Clone a1 c1 ys w1 K1.out (by have := HM.out; omega)
  rw [HM.out] at h2
  refine h2.mono ?_
  rintro e w2 ⟨v2, rfl, o2, bb2⟩
  have b2 := Lib.hid (ext_trans b1.out bb2)
  obtain ⟨a2, c2, rfl, k2, hlc⟩ := o2.at
  have HO2 := Lib.hid (o2.mono b1.out.size)
  have K2 := Lib.hid k2
  clear h2 o2 k2 bb2
  rw [HM.out] at hlc ⊢
  go_wp2_with fail
  have h3 := ents_at a2 c2 ys s w2 K2.out (by have := HM.out; omega) HR.out
  rw [HM.out] at h3
  obtain ⟨i, hi⟩ : ∃ i, atI ys s = i := ⟨_, rfl⟩
  obtain ⟨b, hb⟩ : ∃ b, atB ys s = b := ⟨_, rfl⟩
  have HI := Lib.hid (And.intro hi hb)
  rw [hi, hb] at h3
  clear hi hb
  refine h3.mono ?_
  rintro e w3 ⟨rfl, bb3⟩
  have b3 := Lib.hid (ext_trans b2.out bb3)
  have HO3 := Lib.hid (HO2.out.below bb3)
  clear h3 bb3
  cases b
  · have HP2 : Hid (P = ys) := Lib.hid (by have := HP.out; unfold cutE at this; rw [HI.out.2] at this; simpa using this)
    go_wp2_with fail
    go_ret
    refine ⟨_, rfl, ?_, b3.out⟩
    rw [HP2.out]
    have := HO3.out
    rw [HM.out] at this
    exact this
  · have HP2 : Hid (P = ys.take i ++ ys.drop (i + 1)) := Lib.hid (by have := HP.out; unfold cutE at this; rw [HI.out.2, HI.out.1] at this; simpa using this)
    have hin : i < m := by obtain ⟨h, _⟩ := findE_in HR.out HI.out.2; rw [HI.out.1, HM.out] at h; exact h
    obtain ⟨d, rfl⟩ : ∃ d, m = i + 1 + d := ⟨m - (i + 1), by omega⟩
    have h4 := slices_Delete w w3 w.heap.size d i (.slice a2 (i + 1 + d) c2) (cellsE ys) (by have := HO3.out; unfold OwnE at this; rwa [HM.out] at this) b3.out (cellsE_one _) (by omega)
    have H4 := Lib.hid h4
    clear h4
    go_wp2_with fail
    refine H4.out.mono ?_
    rintro e w4 ⟨v4, rfl, ho4, bb4⟩
    have hfin : GivesE P w (.returned v4) w4 := by
      refine ⟨v4, rfl, ?_, bb4⟩
      rw [HP2.out]
      unfold OwnE
      rw [cellsE_append, ← cellsE_take, ← cellsE_drop, show (ys.take i ++ ys.drop (i + 1)).length = i + d by have := HM.out; simp; omega]
      exact ho4
    have HF := Lib.hid hfin
    clear hfin ho4 bb4 H4
    go_wp2_with fail
    go_ret
    exact HF.out

/-- Entries of both. -/
def mergeP (a b : List En) : List En := (allE a).foldl putP (allE b)
theorem fold_le : ∀ (xs ys : List En), (xs.foldl putP ys).length ≤ ys.length + xs.length
  | [], ys => by simp
  | x :: xs, ys => by
    have h1 := fold_le xs (putP ys x)
    have h2 := putP_le ys x
    rw [List.foldl_cons]
    simp only [List.length_cons]
    omega

end Go.Proofs.Ytmjggjccmbiheab
