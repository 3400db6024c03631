/- ents.Find and ents.Next and the reference's, step by step: they answer alike. -/
import Derived.Test.YtmjggjccmbiheaaEntsAt
namespace Go.Proofs.Ytmjggjccmbiheaa
open Go.RowKit Go.Proofs Go.Sort
attribute [local go_sem] mk_list mk_size mk_data

/-- The node behind a name, if it stands there. -/
def findE (xs : List En) (s : Tx) : Int × Bool := match xs.find? (fun e => e.1 == s) with
  | some e => (e.2, true)
  | none => (0, false)
/-- The first entry behind a name. -/
def nextE (xs : List En) (s : Tx) : Option En := xs.find? (fun e => decide (s < e.1))
theorem findE_at {xs : List En} {s : Tx} {k : Nat} (hk : k < xs.length) (h0 : ∀ (j : Nat) (_ : j < k) (h' : j < xs.length), (xs[j].1 == s) = false) (h1 : (xs[k].1 == s) = true) : findE xs s = (xs[k].2, true) := by
  have : xs.find? (fun e => e.1 == s) = some xs[k] := List.find?_eq_some_iff_getElem.2 ⟨h1, k, hk, rfl, fun j hj => by simp [h0 j hj (by omega)]⟩
  unfold findE
  rw [this]
theorem findE_none {xs : List En} {s : Tx} (h0 : ∀ (j : Nat) (h' : j < xs.length), (xs[j].1 == s) = false) : findE xs s = (0, false) := by
  have : xs.find? (fun e => e.1 == s) = none := by
    rw [List.find?_eq_none]
    intro e he
    obtain ⟨j, hj, rfl⟩ := List.getElem_of_mem he
    simp [h0 j hj]
  unfold findE
  rw [this]
theorem nextE_at {xs : List En} {s : Tx} {k : Nat} (hk : k < xs.length) (h0 : ∀ (j : Nat) (_ : j < k) (h' : j < xs.length), ¬ s < xs[j].1) (h1 : s < xs[k].1) : nextE xs s = some xs[k] :=
  List.find?_eq_some_iff_getElem.2 ⟨decide_eq_true h1, k, hk, rfl, fun j hj => by simp [h0 j hj (by omega)]⟩
theorem nextE_none {xs : List En} {s : Tx} (h0 : ∀ (j : Nat) (h' : j < xs.length), ¬ s < xs[j].1) : nextE xs s = none := by
  unfold nextE
  rw [List.find?_eq_none]
  intro e he
  obtain ⟨j, hj, rfl⟩ := List.getElem_of_mem he
  simpa using h0 j hj

theorem ne_of_at {xs : List En} {s : Tx} (hr : rise xs = true) {j : Nat} (h : j < xs.length) (hne : j ≠ atI xs s ∨ atB xs s = false) : (xs[j].1 == s) = false := by
  rw [beq_eq_false_iff_ne]
  rintro rfl
  have hlt := at_iff (s := xs[j].1) hr h
  have h1 : ¬ j < atI xs xs[j].1 := fun hl => List.lt_irrefl _ (hlt.2 hl)
  have hle := Nat.le_of_not_lt h1
  rcases Nat.lt_or_eq_of_le hle with h2 | h2
  · have h3 : ¬ xs[atI xs xs[j].1].1 < xs[j].1 := fun hl => Nat.lt_irrefl _ ((at_iff (s := xs[j].1) hr (by omega)).1 hl)
    have h4 := List.pairwise_iff_getElem.1 (rise_pairwise hr) (atI xs xs[j].1) j (by simpa using by omega) (by simpa using h) h2
    simp only [List.getElem_map] at h4
    exact h3 h4
  · rcases hne with h3 | h3
    · exact h3 h2.symm
    · have := at_in (xs := xs) (s := xs[j].1) (by omega)
      rw [h3] at this
      simp [h2] at this
theorem findE_in {xs : List En} {s : Tx} (hr : rise xs = true) (hb : atB xs s = true) : ∃ h : atI xs s < xs.length, findE xs s = (xs[atI xs s].2, true) := by
  have h : atI xs s < xs.length := by
    by_cases h : atI xs s < xs.length
    · exact h
    · rw [at_out h] at hb; cases hb
  exact ⟨h, findE_at h (fun j hj h' => ne_of_at hr h' (.inl (by omega))) (by rw [at_in h, hb])⟩
theorem findE_out {xs : List En} {s : Tx} (hr : rise xs = true) (hb : atB xs s = false) : findE xs s = (0, false) :=
  findE_none fun _ h => ne_of_at hr h (.inr hb)

set_option maxHeartbeats 1000000 in
theorem ents_Find (a : Option Addr) (c : Nat) (xs : List En) (s : Tx) (w : World) (h : EntsAt w a xs) (hl : xs.length ≤ 1000000000000) :
    Calls Try.prog 33 #[.slice a xs.length c, .string (mk s)] w fun e w' => e = .returned (.tuple #[.int .i64 (findE (allE xs) s).1, .bool (findE (allE xs) s).2]) ∧ Below w.heap.size w w' := by
  have h1 := ents_all a c xs w h hl
  have hr := rise_allE xs
  have hl2 := Nat.le_trans (allE_le xs) hl
  obtain ⟨n, hn⟩ : ∃ n, xs.length = n := ⟨_, rfl⟩
  rw [hn] at h1 ⊢
  clear hn h hl
  generalize allE xs = ys at *
  obtain ⟨m, hm⟩ : ∃ m, ys.length = m := ⟨_, rfl⟩
  have HM := Lib.hid hm
  have HR := Lib.hid hr
  rw [hm] at h1 hl2
  clear hm hr
  go_enter Try.func33, Try.ntmps33
  go_wp2_with fail
  refine h1.mono ?_
  rintro e w1 ⟨a1, c1, rfl, k1, q1, hw1⟩
  have b1 : Below w.heap.size w w1 := by rw [hw1]; exact below_drewN (Below.refl _ _) _
  have K1 := Lib.hid k1
  clear h1 hw1 k1
  go_wp2_with fail
  have h2 := ents_at a1 c1 ys s w1 K1.out (by have := HM.out; omega) HR.out
  rw [HM.out] at h2
  obtain ⟨i, hi⟩ : ∃ i, atI ys s = i := ⟨_, rfl⟩
  obtain ⟨b, hb⟩ : ∃ b, atB ys s = b := ⟨_, rfl⟩
  have HI := Lib.hid (And.intro hi hb)
  rw [hi, hb] at h2
  clear hi hb
  refine h2.mono ?_
  rintro e w2 ⟨rfl, b2⟩
  clear h2
  cases b
  · have HF := Lib.hid (findE_out HR.out HI.out.2)
    go_wp2_with fail
    go_ret2
    exact ⟨ret_ib (by rw [HF.out]) (by rw [HF.out]), ext_trans b1 b2⟩
  · obtain ⟨hlt, hf⟩ := findE_in HR.out HI.out.2
    have hin : i < ys.length := by rw [← HI.out.1]; exact hlt
    have him : i < m := by have := HM.out; omega
    obtain ⟨bb, o1, rfl, l1, e1⟩ := (K1.out.below b2).cells hin
    have f1 := (e1 i hin).2
    have hv : ys[i].2 = (findE ys s).1 := by rw [hf]; simp [HI.out.1]
    have hv2 : (findE ys s).2 = true := by rw [hf]
    rw [hv] at f1
    have HV := Lib.hid hv2
    have hi0 : (0 : Int) ≤ (i : Int) := by omega
    have him' : (i : Int) < (m : Int) := by omega
    clear hf hv e1 l1 hv2 hlt
    go_wp2_with fail
    go_ret2
    exact ⟨ret_ib rfl HV.out.symm, ext_trans b1 b2⟩

set_option maxHeartbeats 1000000 in
theorem ref6_Find (a : Option Addr) (c : Nat) (xs : List En) (s : Tx) (w : World) (h : EntsAt w a xs) (hl : xs.length ≤ 1000000000000) :
    Calls Try.prog 40 #[.slice a xs.length c, .string (mk s)] w fun e w' => e = .returned (.tuple #[.int .i64 (findE (allE xs) s).1, .bool (findE (allE xs) s).2]) ∧ Below w.heap.size w w' := by
  have h1 := ref6_all a c xs w h hl
  have hl2 := Nat.le_trans (allE_le xs) hl
  obtain ⟨n, hn⟩ : ∃ n, xs.length = n := ⟨_, rfl⟩
  rw [hn] at h1 ⊢
  clear hn h hl
  generalize allE xs = ys at *
  obtain ⟨m, hm⟩ : ∃ m, ys.length = m := ⟨_, rfl⟩
  have HM := Lib.hid hm
  rw [hm] at h1 hl2
  clear hm
  go_enter Try.func40, Try.ntmps40
  go_wp2_with fail
  refine h1.mono ?_
  rintro e w1 ⟨a1, c1, rfl, k1, q1, hw1⟩
  have b1 : Below w.heap.size w w1 := by rw [hw1]; exact below_drewN (Below.refl _ _) _
  have K1 := Lib.hid k1
  clear h1 hw1 k1
  go_wp2_with fail
  go_loopg [6] m (fun g i wx => ∃ k : Nat, k + g = m ∧ i = .int .i64 k ∧ Hid (∀ (j : Nat) (_ : j < k) (h' : j < ys.length), (ys[j].1 == s) = false) ∧ wx = w1)
  case atStart => exact ⟨0, by omega, rfl, Lib.hid (fun j h => absurd h (Nat.not_lt_zero _)), rfl⟩
  case round =>
    obtain ⟨k, hk, rfl, hp, rfl⟩ := hrel
    cases gk with
    | zero =>
      obtain rfl : k = m := by omega
      have HF := Lib.hid (findE_none (xs := ys) (s := s) fun j h => hp.out j (by have := HM.out; omega) h)
      go_wp2
      go_ret2
      exact ⟨ret_ib (by rw [HF.out]) (by rw [HF.out]), b1⟩
    | succ g =>
      have hk1 : k < ys.length := by have := HM.out; omega
      obtain ⟨bb, o1, rfl, l1, e1⟩ := K1.out.cells hk1
      have f1 := (e1 k hk1).1
      have f2 := (e1 k hk1).2
      obtain ⟨x, hx⟩ : ∃ x, ys[k].1 = x := ⟨_, rfl⟩
      obtain ⟨v, hv⟩ : ∃ v, ys[k].2 = v := ⟨_, rfl⟩
      rw [hx] at f1
      rw [hv] at f2
      have HX := Lib.hid (And.intro hx hv)
      have hkn : (k : Int) < (m : Int) := by omega
      have hk0 : (0 : Int) ≤ (k : Int) := by omega
      clear hx hv e1 l1
      cases hb : (x == s)
      · go_wp2_with fail
        go_roundg g
        case measure => omega
        case rel => exact ⟨k + 1, by omega, by go_num, Lib.hid (fun j h h' => by
          by_cases e : j = k
          · subst e; rw [HX.out.1]; exact hb
          · exact hp.out j (by omega) h'), rfl⟩
      · have HF := Lib.hid (findE_at hk1 hp.out (by rw [HX.out.1]; exact hb))
        rw [HX.out.2] at HF
        go_wp2_with fail
        go_ret2
        exact ⟨ret_ib (by rw [HF.out]) (by rw [HF.out]), b1⟩

theorem nextE_i {xs : List En} {s : Tx} (hr : rise xs = true) (k : Nat) (hk : k = atI xs s + (if atB xs s then 1 else 0)) : nextE xs s = xs[k]? := by
  have hA : ∀ (j : Nat) (_ : j < k) (h' : j < xs.length), ¬ s < xs[j].1 := by
    intro j hj h' hl
    by_cases h1 : j < atI xs s
    · exact List.lt_irrefl _ (List.lt_trans hl ((at_iff hr h').2 h1))
    · cases hb : atB xs s
      · rw [hb] at hk; simp at hk; omega
      · rw [hb] at hk
        simp at hk
        obtain rfl : j = atI xs s := by omega
        have := at_in h'
        rw [hb] at this
        rw [beq_iff_eq] at this
        rw [this] at hl
        exact List.lt_irrefl _ hl
  by_cases h : k < xs.length
  · rw [List.getElem?_eq_getElem h]
    refine nextE_at h hA ?_
    have h1 : ¬ xs[k].1 < s := fun hl => by
      have := (at_iff hr h).1 hl
      split at hk <;> omega
    have h2 : (xs[k].1 == s) = false := by
      refine ne_of_at hr h ?_
      cases hb : atB xs s
      · exact .inr rfl
      · rw [hb] at hk; simp at hk; exact .inl (by omega)
    exact tx_lt_of (List.not_lt.1 h1) (fun e => by rw [e] at h2; simp at h2)
  · rw [List.getElem?_eq_none (by omega)]
    exact nextE_none fun j h' => hA j (by omega) h'

def encV (e : En) : Value := .agg #[.string (mk e.1), .int .i64 e.2]
def giveE (o : Option En) : Ending := .returned (.tuple #[encV (o.getD ([], 0)), .bool o.isSome])

theorem cell_new (w : World) : let W := w.alloc (Obj.cells #[Value.string { data := #[] }, Value.int IntKind.i64 0] 38)
    Below w.heap.size w W ∧ w.heap.size < W.heap.size ∧ W.cell? ⟨w.heap.size, 0, none⟩ = some (.string { data := #[] }) ∧ W.cell? ⟨w.heap.size, 1, none⟩ = some (.int .i64 0) ∧ W.frozen? ⟨w.heap.size, 0, none⟩ = false ∧ W.frozen? ⟨w.heap.size, 1, none⟩ = false := by
  intro W
  refine ⟨(Below.refl _ _).alloc (Nat.le_refl _) _, by simp [W], ?_, ?_, ?_, ?_⟩
  · exact (World.cell?_alloc_at (w := w) _ _ _ 0 rfl).trans rfl
  · exact (World.cell?_alloc_at (w := w) _ _ _ 1 rfl).trans rfl
  · exact World.frozen?_alloc_at (w := w) _ _ _ 0 rfl
  · exact World.frozen?_alloc_at (w := w) _ _ _ 1 rfl

set_option maxHeartbeats 1000000 in
theorem ents_Next (a : Option Addr) (c : Nat) (xs : List En) (s : Tx) (w : World) (h : EntsAt w a xs) (hl : xs.length ≤ 1000000000000) :
    Calls Try.prog 41 #[.slice a xs.length c, .string (mk s)] w fun e w' => e = giveE (nextE (allE xs) s) ∧ Below w.heap.size w w' := by
  have h1 := fun W hW => ents_all a c xs W hW hl
  have hr := rise_allE xs
  have hl2 := Nat.le_trans (allE_le xs) hl
  obtain ⟨n, hn⟩ : ∃ n, xs.length = n := ⟨_, rfl⟩
  rw [hn] at h1 ⊢
  have HH := Lib.hid h
  clear hn h hl
  generalize hys : allE xs = ys at *
  obtain ⟨m, hm⟩ : ∃ m, ys.length = m := ⟨_, rfl⟩
  have HM := Lib.hid hm
  have HR := Lib.hid hr
  rw [hm] at h1 hl2
  clear hm hr
  have HY := Lib.hid hys
  clear hys
  go_enter Try.func41, Try.ntmps41
  go_wp2_with fail
  have HC := cell_new w
  obtain ⟨W0, hW0⟩ : ∃ W0, w.alloc (Obj.cells #[Value.string { data := #[] }, Value.int IntKind.i64 0] 38) = W0 := ⟨_, rfl⟩
  rw [hW0] at HC ⊢
  have HE := Lib.hid (HH.out.below HC.1)
  have HT : Hid (∀ w2, Below W0.heap.size W0 w2 → Below w.heap.size w w2) := Lib.hid fun w2 h => ext_trans HC.1 h
  replace HC := Lib.hid HC.2
  obtain ⟨B, hB⟩ : ∃ B, w.heap.size = B := ⟨_, rfl⟩
  rw [hB] at HC ⊢
  have HB := Lib.hid hB
  clear hW0 hB
  refine (h1 W0 HE.out).mono ?_
  rintro e w1 ⟨a1, c1, rfl, k1, q1, hw1⟩
  have b1 : Below W0.heap.size W0 w1 := by rw [hw1]; exact below_drewN (Below.refl _ _) _
  have K1 := Lib.hid k1
  clear h1 hw1 k1
  go_wp2_with fail
  have h2 := ents_at a1 c1 ys s w1 K1.out (by have := HM.out; omega) HR.out
  rw [HM.out] at h2
  obtain ⟨i, hi⟩ : ∃ i, atI ys s = i := ⟨_, rfl⟩
  obtain ⟨b, hb⟩ : ∃ b, atB ys s = b := ⟨_, rfl⟩
  have HI := Lib.hid (And.intro hi hb)
  rw [hi, hb] at h2
  clear hi hb
  refine h2.mono ?_
  rintro e w2 ⟨rfl, b2⟩
  clear h2
  have b02 := ext_trans b1 b2
  have g1 := (b02.cell (p := ⟨B, 0, none⟩) HC.out.1).trans HC.out.2.1
  have g2 := (b02.cell (p := ⟨B, 1, none⟩) HC.out.1).trans HC.out.2.2.1
  have g3 := (b02.frozen (p := ⟨B, 0, none⟩) HC.out.1).trans HC.out.2.2.2.1
  have g4 := (b02.frozen (p := ⟨B, 1, none⟩) HC.out.1).trans HC.out.2.2.2.2
  have HB2 := Lib.hid (HT.out w2 b02)
  have him : i ≤ m := by have h := atI_le ys s; rw [HI.out.1, HM.out] at h; exact h
  have hii := nextE_i (s := s) HR.out
  have K2 := Lib.hid (K1.out.below b2)
  cases b
  · have hx := hii (i) (by rw [HI.out.1, HI.out.2]; rfl)
    by_cases hin : i < m
    · have hi : i < ys.length := by have := HM.out; omega
      obtain ⟨bb, o1, rfl, l1, e1⟩ := K2.out.cells hi
      have f1 := (e1 (i) hi).1
      have f2 := (e1 (i) hi).2
      rw [List.getElem?_eq_getElem hi] at hx
      obtain ⟨x, hx1⟩ : ∃ x, ys[i].1 = x := ⟨_, rfl⟩
      obtain ⟨v, hv⟩ : ∃ v, ys[i].2 = v := ⟨_, rfl⟩
      rw [hx1] at f1
      rw [hv] at f2
      rw [show ys[i] = (x, v) by rw [← hx1, ← hv]] at hx
      have HX := Lib.hid hx
      have hi0 : (0 : Int) ≤ (i : Int) := by omega
      have him' : (i : Int) < (m : Int) := by omega
      have hne : (i : Int) ≠ (m : Int) := by omega
      clear hx hx1 hv e1 l1 him hii
      go_wp2_with fail
      (try simp only [Exit.inBlock, Exit.then])
      refine bodyPost_ret (v := .tuple #[.agg #[.string (mk x), .int .i64 v], .bool true]) ?_ rfl ⟨?_, ?_⟩
      · rw [results_cell_tmp rfl]
        go_simp
      · rw [HX.out]; rfl
      · exact ((HB2.out.setCell (p := ⟨B, 0, none⟩) (Nat.le_of_eq HB.out) _).setCell (p := ⟨B, 1, none⟩) (Nat.le_of_eq HB.out) _)
    · have him'' : i = m := by omega
      rw [List.getElem?_eq_none (by have := HM.out; omega)] at hx
      have HX := Lib.hid hx
      have hne : (i : Int) = (m : Int) := by omega
      clear hx him'' hii
      go_wp2_with fail
      (try simp only [Exit.inBlock, Exit.then])
      refine bodyPost_ret (v := .tuple #[.agg #[.string ⟨#[]⟩, .int .i64 0], .bool false]) ?_ rfl ⟨?_, ?_⟩
      · rw [results_cell_tmp rfl]
        go_simp
      · rw [HX.out]; rfl
      · exact ((HB2.out.setCell (p := ⟨B, 0, none⟩) (Nat.le_of_eq HB.out) _).setCell (p := ⟨B, 1, none⟩) (Nat.le_of_eq HB.out) _)
  · have hx := hii (i + 1) (by rw [HI.out.1, HI.out.2]; rfl)
    by_cases hin : i + 1 < m
    · have hi : i + 1 < ys.length := by have := HM.out; omega
      obtain ⟨bb, o1, rfl, l1, e1⟩ := K2.out.cells hi
      have f1 := (e1 (i + 1) hi).1
      have f2 := (e1 (i + 1) hi).2
      rw [List.getElem?_eq_getElem hi] at hx
      obtain ⟨x, hx1⟩ : ∃ x, ys[i + 1].1 = x := ⟨_, rfl⟩
      obtain ⟨v, hv⟩ : ∃ v, ys[i + 1].2 = v := ⟨_, rfl⟩
      rw [hx1] at f1
      rw [hv] at f2
      rw [show ys[i + 1] = (x, v) by rw [← hx1, ← hv]] at hx
      have HX := Lib.hid hx
      have hi0 : (0 : Int) ≤ (i : Int) := by omega
      have him' : (i : Int) + 1 < (m : Int) := by omega
      have hne : (i : Int) + 1 ≠ (m : Int) := by omega
      clear hx hx1 hv e1 l1 him hii
      go_wp2_with fail
      (try simp only [Exit.inBlock, Exit.then])
      refine bodyPost_ret (v := .tuple #[.agg #[.string (mk x), .int .i64 v], .bool true]) ?_ rfl ⟨?_, ?_⟩
      · rw [results_cell_tmp rfl]
        go_simp
      · rw [HX.out]; rfl
      · exact ((HB2.out.setCell (p := ⟨B, 0, none⟩) (Nat.le_of_eq HB.out) _).setCell (p := ⟨B, 1, none⟩) (Nat.le_of_eq HB.out) _)
    · have him'' : i + 1 = m := by (have := findE_in HR.out HI.out.2; have h := this.1; have h2 := HI.out.1; have h3 := HM.out; omega)
      rw [List.getElem?_eq_none (by have := HM.out; omega)] at hx
      have HX := Lib.hid hx
      have hne : (i : Int) + 1 = (m : Int) := by omega
      clear hx him'' hii
      go_wp2_with fail
      (try simp only [Exit.inBlock, Exit.then])
      refine bodyPost_ret (v := .tuple #[.agg #[.string ⟨#[]⟩, .int .i64 0], .bool false]) ?_ rfl ⟨?_, ?_⟩
      · rw [results_cell_tmp rfl]
        go_simp
      · rw [HX.out]; rfl
      · exact ((HB2.out.setCell (p := ⟨B, 0, none⟩) (Nat.le_of_eq HB.out) _).setCell (p := ⟨B, 1, none⟩) (Nat.le_of_eq HB.out) _)
end Go.Proofs.Ytmjggjccmbiheaa
