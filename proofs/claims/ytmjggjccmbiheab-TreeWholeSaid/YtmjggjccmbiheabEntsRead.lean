/- ents.Find and ents.Next and the reference's, step by step: they answer alike. -/
import Derived.Test.YtmjggjccmbiheabEntsAt
namespace Go.Proofs.Ytmjggjccmbiheab
open Go.RowKit Go.Proofs Go.Sort
attribute [local go_sem] mk_list mk_size mk_data

/-- The node behind a name, if it stands there. -/
def findE (xs : List En) (s : Tx) : Int × Bool := match xs.find? (fun e => e.1 == s) with
  | some e => (e.2, true)
  | none => (0, false)
/-- The first entry behind a name. -/
def nextE (xs : List En) (s : Tx) : Option En := xs.find? (fun e => decide (s < e.1))
theorem findE_at {xs : List En} {s : Tx} {k : Nat} (hk : k < xs.length) (h0 : ∀ (j : Nat) (_ : j < k) (h' : j < xs.length), (xs[j].1 == s) = false) (h1 : (xs[k].1 == s) = true) : findE xs s = (xs[k].2, true) := by
  have : xs.find? (fun e => e.1 == s) = some xs[k] := List.find?_eq_some_iff_getElem.2 ⟨h1, k, hk, rfl, fun j hj => by simp [h0 j hj (by omega)]⟩
  unfold findE
  rw [this]
theorem findE_none {xs : List En} {s : Tx} (h0 : ∀ (j : Nat) (h' : j < xs.length), (xs[j].1 == s) = false) : findE xs s = (0, false) := by
  have : xs.find? (fun e => e.1 == s) = none := by
    rw [List.find?_eq_none]
    intro e he
    obtain ⟨j, hj, rfl⟩ := List.getElem_of_mem he
    simp [h0 j hj]
  unfold findE
  rw [this]
theorem nextE_at {xs : List En} {s : Tx} {k : Nat} (hk : k < xs.length) (h0 : ∀ (j : Nat) (_ : j < k) (h' : j < xs.length), ¬ s < xs[j].1) (h1 : s < xs[k].1) : nextE xs s = some xs[k] :=
  List.find?_eq_some_iff_getElem.2 ⟨decide_eq_true h1, k, hk, rfl, fun j hj => by simp [h0 j hj (by omega)]⟩
theorem nextE_none {xs : List En} {s : Tx} (h0 : ∀ (j : Nat) (h' : j < xs.length), ¬ s < xs[j].1) : nextE xs s = none := by
  unfold nextE
  rw [List.find?_eq_none]
  intro e he
  obtain ⟨j, hj, rfl⟩ := List.getElem_of_mem he
  simpa using h0 j hj

theorem ne_of_at {xs : List En} {s : Tx} (hr : rise xs = true) {j : Nat} (h : j < xs.length) (hne : j ≠ atI xs s ∨ atB xs s = false) : (xs[j].1 == s) = false := by
  rw [beq_eq_false_iff_ne]
  rintro rfl
  have hlt := at_iff (s := xs[j].1) hr h
  have h1 : ¬ j < atI xs xs[j].1 := fun hl => List.lt_irrefl _ (hlt.2 hl)
  have hle := Nat.le_of_not_lt h1
  rcases Nat.lt_or_eq_of_le hle with h2 | h2
  · have h3 : ¬ xs[atI xs xs[j].1].1 < xs[j].1 := fun hl => Nat.lt_irrefl _ ((at_iff (s := xs[j].1) hr (by omega)).1 hl)
    have h4 := List.pairwise_iff_getElem.1 (rise_pairwise hr) (atI xs xs[j].1) j (by simpa using by omega) (by simpa using h) h2
    simp only [List.getElem_map] at h4
    exact h3 h4
  · rcases hne with h3 | h3
    · exact h3 h2.symm
    · have := at_in (xs := xs) (s := xs[j].1) (by omega)
      rw [h3] at this
      simp [h2] at this
theorem findE_in {xs : List En} {s : Tx} (hr : rise xs = true) (hb : atB xs s = true) : ∃ h : atI xs s < xs.length, findE xs s = (xs[atI xs s].2, true) := by
  have h : atI xs s < xs.length := by
    by_cases h : atI xs s < xs.length
    · exact h
    · rw [at_out h] at hb; cases hb
  exact ⟨h, findE_at h (fun j hj h' => ne_of_at hr h' (.inl (by omega))) (by rw [at_in h, hb])⟩
theorem findE_out {xs : List En} {s : Tx} (hr : rise xs = true) (hb : atB xs s = false) : findE xs s = (0, false) :=
  findE_none fun _ h => ne_of_at hr h (.inr hb)

set_option maxHeartbeats 1000000 in
theorem ents_Find (a : Option Addr) (c : Nat) (xs : List En) (s : Tx) (w : World) (h : EntsAt w a xs) (hl : xs.length ≤ 1000000000000) :
    Calls Try.prog 34 #[.slice a xs.length c, .string (mk s)] w fun e w' => e = .returned (.tuple #[.int .i64 (findE (allE xs) s).1, .bool (findE (allE xs) s).2]) ∧ Below w.heap.size w w' := by
  have h1 := ents_all a c xs w h hl
  have hr := rise_allE xs
  have hl2 := Nat.le_trans (allE_le xs) hl
  obtain ⟨n, hn⟩ : ∃ n, xs.length = n := ⟨_, rfl⟩
  rw [hn] at h1 ⊢
  clear hn h hl
  generalize allE xs = ys at *
  obtain ⟨m, hm⟩ : ∃ m, ys.length = m := ⟨_, rfl⟩
  have HM := Lib.hid hm
  have HR := Lib.hid hr
  rw [hm] at h1 hl2
  clear hm hr
  go_enter Try.func34, Try.ntmps34
  go_wp2_with fail
  refine h1.mono ?_
  rintro e w1 ⟨a1, c1, rfl, k1, q1, hw1⟩
  have b1 : Below w.heap.size w w1 := by rw [hw1]; exact below_drewN (Below.refl _ _) _
  have K1 := Lib.hid k1
  clear h1 hw1 k1
  go_wp2_with fail
  have h2 := ents_at a1 c1 ys s w1 K1.out (by have := HM.out; omega) HR.out
  rw [HM.out] at h2
  obtain ⟨i, hi⟩ : ∃ i, atI ys s = i := ⟨_, rfl⟩
  obtain ⟨b, hb⟩ : ∃ b, atB ys s = b := ⟨_, rfl⟩
  have HI := Lib.hid (And.intro hi hb)
  rw [hi, hb] at h2
  clear hi hb
  refine h2.mono ?_
  rintro e w2 ⟨rfl, b2⟩
  clear h2
  cases b
  · have HF := Lib.hid (findE_out HR.out HI.out.2)
    go_wp2_with fail
    go_ret2
    exact ⟨ret_ib (by rw [HF.out]) (by rw [HF.out]), ext_trans b1 b2⟩
  · obtain ⟨hlt, hf⟩ := findE_in HR.out HI.out.2
    have hin : i < ys.length := by rw [← HI.out.1]; exact hlt
    have him : i < m := by have := HM.out; omega
    obtain ⟨bb, o1, rfl, l1, e1⟩ := (K1.out.below b2).cells hin
    have f1 := (e1 i hin).2
    have hv : ys[i].2 = (findE ys s).1 := by rw [hf]; simp [HI.out.1]
    have hv2 : (findE ys s).2 = true := by rw [hf]
    rw [hv] at f1
    have HV := Lib.hid hv2
    have hi0 : (0 : Int) ≤ (i : Int) := by omega
    have him' : (i : Int) < (m : Int) := by omega
    clear hf hv e1 l1 hv2 hlt
    go_wp2_with fail
    go_ret2
    exact ⟨ret_ib rfl HV.out.symm, ext_trans b1 b2⟩

theorem nextE_i {xs : List En} {s : Tx} (hr : rise xs = true) (k : Nat) (hk : k = atI xs s + (if atB xs s then 1 else 0)) : nextE xs s = xs[k]? := by
  have hA : ∀ (j : Nat) (_ : j < k) (h' : j < xs.length), ¬ s < xs[j].1 := by
    intro j hj h' hl
    by_cases h1 : j < atI xs s
    · exact List.lt_irrefl _ (List.lt_trans hl ((at_iff hr h').2 h1))
    · cases hb : atB xs s
      · rw [hb] at hk; simp at hk; omega
      · rw [hb] at hk
        simp at hk
        obtain rfl : j = atI xs s := by omega
        have := at_in h'
        rw [hb] at this
        rw [beq_iff_eq] at this
        rw [this] at hl
        exact List.lt_irrefl _ hl
  by_cases h : k < xs.length
  · rw [List.getElem?_eq_getElem h]
    refine nextE_at h hA ?_
    have h1 : ¬ xs[k].1 < s := fun hl => by
      have := (at_iff hr h).1 hl
      split at hk <;> omega
    have h2 : (xs[k].1 == s) = false := by
      refine ne_of_at hr h ?_
      cases hb : atB xs s
      · exact .inr rfl
      · rw [hb] at hk; simp at hk; exact .inl (by omega)
    exact tx_lt_of (List.not_lt.1 h1) (fun e => by rw [e] at h2; simp at h2)
  · rw [List.getElem?_eq_none (by omega)]
    exact nextE_none fun j h' => hA j (by omega) h'

def encV (e : En) : Value := .agg #[.string (mk e.1), .int .i64 e.2]
def giveE (o : Option En) : Ending := .returned (.tuple #[encV (o.getD ([], 0)), .bool o.isSome])

theorem cell_new (w : World) : let W := w.alloc (Obj.cells #[Value.string { data := #[] }, Value.int IntKind.i64 0] 40)
    Below w.heap.size w W ∧ w.heap.size < W.heap.size ∧ W.cell? ⟨w.heap.size, 0, none⟩ = some (.string { data := #[] }) ∧ W.cell? ⟨w.heap.size, 1, none⟩ = some (.int .i64 0) ∧ W.frozen? ⟨w.heap.size, 0, none⟩ = false ∧ W.frozen? ⟨w.heap.size, 1, none⟩ = false := by
  intro W
  refine ⟨(Below.refl _ _).alloc (Nat.le_refl _) _, by simp [W], ?_, ?_, ?_, ?_⟩
  · exact (World.cell?_alloc_at (w := w) _ _ _ 0 rfl).trans rfl
  · exact (World.cell?_alloc_at (w := w) _ _ _ 1 rfl).trans rfl
  · exact World.frozen?_alloc_at (w := w) _ _ _ 0 rfl
  · exact World.frozen?_alloc_at (w := w) _ _ _ 1 rfl

end Go.Proofs.Ytmjggjccmbiheab
