/- The reference's Sort, step by step; its answer is the sorted list, each text once. -/
import Derived.Test.YtmjggjccmbiheaaSorts
namespace Go.Proofs.Ytmjggjccmbiheaa
open Go.RowKit Go.Proofs Go.Sort

abbrev Tx := List UInt8
theorem tx_lt_of {x y : Tx} (h : x ≤ y) (hn : x ≠ y) : x < y := by
  rcases Decidable.em (x < y) with h1 | h1
  · exact h1
  · exact absurd (List.le_antisymm h (List.not_lt.1 h1)) hn

theorem compact_spec (zs : List Tx) (hs : zs.Pairwise (· ≤ ·)) : ∀ m, m ≤ zs.length →
    (Lib.compactUpTo zs.toArray m).Pairwise (· < ·) ∧ (∀ x, x ∈ Lib.compactUpTo zs.toArray m ↔ x ∈ zs.take m) ∧ (∀ x ∈ Lib.compactUpTo zs.toArray m, ∀ h : m - 1 < zs.length, x ≤ zs[m - 1])
  | 0, _ => ⟨by simp [Lib.compactUpTo], by simp [Lib.compactUpTo], by simp [Lib.compactUpTo]⟩
  | m + 1, hm => by
    obtain ⟨h1, h2, h3⟩ := compact_spec zs hs m (by omega)
    have hm' : m < zs.length := by omega
    have hg : zs.toArray[m]! = zs[m] := by simp [getElem!_pos, hm']
    rw [Lib.compactUpTo_succ]
    by_cases hk : Lib.keeps zs.toArray m = true
    · rw [if_pos hk, hg]
      have hlt : ∀ x ∈ Lib.compactUpTo zs.toArray m, x < zs[m] := by
        intro x hx
        have hm0 : m ≠ 0 := by rintro rfl; simp [Lib.compactUpTo] at hx
        have hne : zs[m - 1] ≠ zs[m] := by
          unfold Lib.keeps at hk
          simp [hm0] at hk
          intro e
          apply hk
          simp [hm', show m - 1 < zs.length by omega, e]
        have h4 : zs[m - 1] ≤ zs[m] := List.pairwise_iff_getElem.1 hs _ _ (by omega) hm' (by omega)
        have h5 := h3 x hx (by omega)
        refine tx_lt_of (List.le_trans h5 h4) ?_
        rintro rfl
        exact hne (List.le_antisymm h4 h5)
      refine ⟨?_, ?_, ?_⟩
      · rw [List.pairwise_append]
        exact ⟨h1, by simp, fun x hx y hy => by simp at hy; subst hy; exact hlt x hx⟩
      · intro x
        rw [List.take_succ_eq_append_getElem hm', List.mem_append, List.mem_append, h2]
      · intro x hx h
        simp only [Nat.add_sub_cancel]
        rw [List.mem_append] at hx
        rcases hx with hx | hx
        · exact List.le_of_lt (hlt x hx)
        · simp at hx; subst hx; exact List.le_refl _
    · have hk' : Lib.keeps zs.toArray m = false := by simpa using hk
      rw [if_neg hk, List.append_nil]
      have hm0 : m ≠ 0 := by rintro rfl; simp [Lib.keeps] at hk'
      have he : zs[m] = zs[m - 1] := by
        unfold Lib.keeps at hk'
        simp [hm0, hm', show m - 1 < zs.length by omega] at hk'
        exact hk'
      refine ⟨h1, ?_, ?_⟩
      · intro x
        rw [h2, List.take_succ_eq_append_getElem hm', List.mem_append]
        constructor
        · exact Or.inl
        · rintro (h | h)
          · exact h
          · simp at h
            subst h
            rw [he]
            exact List.mem_take_iff_getElem.2 ⟨m - 1, by omega, rfl⟩
      · intro x hx h
        simp only [Nat.add_sub_cancel]
        rw [he]
        exact h3 x hx (by omega)

theorem sorted_lt (l : List Tx) : (sorted l).Pairwise (· < ·) := by
  unfold sorted Lib.compact
  refine (compact_spec _ ?_ _ (Nat.le_refl _)).1
  have := List.pairwise_mergeSort (le := fun x y : Tx => decide (x ≤ y)) (fun a b c h1 h2 => by simp only [decide_eq_true_eq] at *; exact List.le_trans h1 h2) (fun a b => by simp only [Bool.or_eq_true, decide_eq_true_eq]; exact List.le_total a b) l
  exact this.imp (fun h => by simpa using h)
theorem mem_sorted (l : List Tx) (x : Tx) : x ∈ sorted l ↔ x ∈ l := by
  unfold sorted Lib.compact
  rw [(compact_spec _ ?_ _ (Nat.le_refl _)).2.1, List.take_length, List.mem_mergeSort]
  have := List.pairwise_mergeSort (le := fun x y : Tx => decide (x ≤ y)) (fun a b c h1 h2 => by simp only [decide_eq_true_eq] at *; exact List.le_trans h1 h2) (fun a b => by simp only [Bool.or_eq_true, decide_eq_true_eq]; exact List.le_total a b) l
  exact this.imp (fun h => by simpa using h)
theorem sorted_length (l : List Tx) : (sorted l).length ≤ l.length := by
  have := Lib.compact_length_le (l.mergeSort fun x y => decide (x ≤ y))
  rwa [List.length_mergeSort] at this

/-- May a text stand behind the k ones that are there? -/
def Cand (Y : List Tx) (k : Nat) (x : Tx) : Prop := k = 0 ∨ Y.getD (k - 1) [] < x
/-- What the round over l has found when j texts have been looked at. -/
def Seen (l Y : List Tx) (k j : Nat) (best : Tx) (found : Bool) : Prop :=
  (found = false ∧ best = [] ∧ ∀ (t : Nat) (h : t < l.length), t < j → ¬ Cand Y k (l[t]'h)) ∨
  (found = true ∧ best ∈ l ∧ Cand Y k best ∧ ∀ (t : Nat) (h : t < l.length), t < j → Cand Y k l[t] → best ≤ l[t])
theorem Seen.start (l Y : List Tx) (k : Nat) : Seen l Y k 0 [] false := .inl ⟨rfl, rfl, fun _ _ h => absurd h (Nat.not_lt_zero _)⟩
theorem Seen.skip {l Y : List Tx} {k j : Nat} {best : Tx} {found : Bool} (h : Seen l Y k j best found) (hj : j < l.length) (hc : Cand Y k l[j] → found = true ∧ ¬ l[j] < best) : Seen l Y k (j + 1) best found := by
  rcases h with ⟨rfl, h2, h3⟩ | ⟨rfl, h2, h3, h4⟩
  · refine .inl ⟨rfl, h2, fun t ht hlt => ?_⟩
    by_cases e : t = j
    · subst e; intro hh; have := (hc hh).1; simp at this
    · exact h3 t ht (by omega)
  · refine .inr ⟨rfl, h2, h3, fun t ht hlt hcc => ?_⟩
    by_cases e : t = j
    · subst e; exact List.not_lt.1 (hc hcc).2
    · exact h4 t ht (by omega) hcc
theorem Seen.take {l Y : List Tx} {k j : Nat} {best : Tx} {found : Bool} (h : Seen l Y k j best found) (hj : j < l.length) (hc : Cand Y k l[j]) (hb : found = false ∨ l[j] < best) : Seen l Y k (j + 1) l[j] true := by
  refine .inr ⟨rfl, List.getElem_mem hj, hc, fun t ht hlt hcc => ?_⟩
  by_cases e : t = j
  · subst e; exact List.le_refl _
  · rcases h with ⟨_, h2, h3⟩ | ⟨rfl, h2, h3, h4⟩
    · exact absurd hcc (h3 t ht (by omega))
    · rcases hb with hb | hb
      · simp at hb
      · exact List.le_trans (List.le_of_lt hb) (h4 t ht (by omega) hcc)
theorem Seen.none {l Y : List Tx} {k : Nat} {best : Tx} (hY : Y.Pairwise (· < ·)) (hm : ∀ x, x ∈ Y ↔ x ∈ l) (h : Seen l Y k l.length best false) (hk : k ≤ Y.length) : k = Y.length := by
  rcases h with ⟨_, _, h3⟩ | ⟨h, _⟩
  · apply Decidable.byContradiction
    intro hne
    have hk' : k < Y.length := by omega
    obtain ⟨t, ht, e⟩ := List.mem_iff_getElem.1 ((hm _).1 (List.getElem_mem hk'))
    refine h3 t ht ht ?_
    rw [e]
    by_cases k0 : k = 0
    · exact .inl k0
    · refine .inr ?_
      rw [List.getD_eq_getElem?_getD, List.getElem?_eq_getElem (by omega)]
      exact List.pairwise_iff_getElem.1 hY _ _ (by omega) hk' (by omega)
  · simp at h
theorem Seen.next {l Y : List Tx} {k : Nat} {best : Tx} (hY : Y.Pairwise (· < ·)) (hm : ∀ x, x ∈ Y ↔ x ∈ l) (h : Seen l Y k l.length best true) (hk : k ≤ Y.length) : ∃ h : k < Y.length, best = Y[k] := by
  rcases h with ⟨h, _⟩ | ⟨_, h2, h3, h4⟩
  · simp at h
  · obtain ⟨i, hi, e⟩ := List.mem_iff_getElem.1 ((hm _).2 h2)
    have hki : k ≤ i := by
      rcases h3 with rfl | h3
      · exact Nat.zero_le _
      · apply Decidable.byContradiction
        intro hlt
        rw [List.getD_eq_getElem?_getD, List.getElem?_eq_getElem (show k - 1 < Y.length by omega)] at h3
        simp only [Option.getD_some] at h3
        rw [← e] at h3
        rcases (by omega : i < k - 1 ∨ i = k - 1) with h5 | h5
        · exact List.lt_irrefl _ (List.lt_trans h3 (List.pairwise_iff_getElem.1 hY _ _ (by omega) (by omega) h5))
        · subst h5; exact List.lt_irrefl _ h3
    have hk' : k < Y.length := by omega
    refine ⟨hk', ?_⟩
    obtain ⟨t, ht, e2⟩ := List.mem_iff_getElem.1 ((hm _).1 (List.getElem_mem hk'))
    have hle : best ≤ Y[k] := by
      rw [← e2]
      refine h4 t ht ht ?_
      rw [e2]
      by_cases k0 : k = 0
      · exact .inl k0
      · refine .inr ?_
        rw [List.getD_eq_getElem?_getD, List.getElem?_eq_getElem (by omega)]
        exact List.pairwise_iff_getElem.1 hY _ _ (by omega) hk' (by omega)
    rcases (by omega : k < i ∨ i = k) with h5 | h5
    · have := List.pairwise_iff_getElem.1 hY _ _ hk' hi h5
      rw [e] at this
      exact List.le_antisymm hle (List.le_of_lt this)
    · subst h5; exact e.symm

theorem own_shape {w : World} {base : Nat} {e : TypeId} {size n : Nat} {v : Value} {xs : List Value} (h : w.ownsRow base e size v n xs) : ∃ A c, v = .slice A n c := by
  rcases h.2 with ⟨rfl, rfl⟩ | ⟨g, cap, cur, rfl, _⟩
  · exact ⟨none, 0, rfl⟩
  · exact ⟨_, cap, rfl⟩
theorem own_last {w : World} {base k : Nat} {v : Value} {Y : List Tx} (h : w.ownsRow base 9 1 v (k + 1) ((Y.take (k + 1)).map fun x => .string (mk x))) (hk : k < Y.length) :
    ∃ g cap, v = .slice (some ⟨g, 0, none⟩) (k + 1) cap ∧ w.cell? ⟨g, k, none⟩ = some (.string (mk Y[k])) := by
  rcases h.2 with ⟨rfl, h0⟩ | ⟨g, cap, cur, rfl, hb, hg, hn, hm, hs, ht⟩
  · omega
  · refine ⟨g, cap, rfl, ?_⟩
    have := h.cells (g := g) rfl k (.string (mk Y[k])) (by simp [List.getElem?_eq_getElem hk])
    rwa [show (⟨g, 0, none⟩ : Addr).add k = ⟨g, k, none⟩ from by unfold Addr.add; split <;> simp_all] at this
theorem info9 : (Try.prog.info? 9).map (fun i => (i.zero, i.size, i.bytes)) = some (some (.string ⟨#[]⟩), 1, 16) := by kernel_rfl
def OwnY (w : World) (base : Nat) (v : Value) (Y : List Tx) (k : Nat) : Prop := w.ownsRow base 9 1 v k ((Y.take k).map fun x => .string (mk x))

theorem own_next {w : World} {base k : Nat} {v : Value} {Y : List Tx} {b : Tx} (h : w.ownsRow base 9 1 v (k + 1) (((Y.take k).map fun x => .string (mk x)) ++ [.string (mk b)])) (hk : k < Y.length) (hb : b = Y[k]) : OwnY w base v Y (k + 1) := by
  unfold OwnY
  rw [List.take_succ_eq_append_getElem hk, List.map_append, ← hb]
  exact h

section
attribute [local go_sem] mk_list mk_size mk_data
set_option maxHeartbeats 4000000 in
set_option maxRecDepth 100000 in
theorem ref_Sort (a : Option Addr) (c : Nat) (l : List Tx) (w : World) (h : StrsAt w a l) (hn : l.length ≤ 1000000000) :
    Calls Try.prog 39 #[.slice a l.length c] w (GivesStrs (sorted l) w) := by
  obtain ⟨Y, hY⟩ : ∃ Y, sorted l = Y := ⟨_, rfl⟩
  have HP := Lib.hid (hY ▸ sorted_lt l)
  have HM := Lib.hid (fun x => hY ▸ mem_sorted l x)
  have hlen : Y.length ≤ l.length := hY ▸ sorted_length l
  rw [hY]
  clear hY
  obtain ⟨n, hnx⟩ : ∃ n, l.length = n := ⟨_, rfl⟩
  have HN := Lib.hid hnx
  rw [hnx] at hn hlen ⊢
  clear hnx
  go_enter Try.func39, Try.ntmps39
  go_wp2_with fail
  go_loopg [3] (Y.length + 1) (fun g v wx => ∃ k : Nat, k + g = Y.length + 1 ∧ k ≤ Y.length ∧ OwnY wx w.heap.size v Y k ∧ Below w.heap.size w wx)
  case atStart => exact ⟨0, by omega, by omega, World.ownsRow_nil _ _ _ _, Below.refl _ _⟩
  case round =>
    obtain ⟨k, hk, hkY, hown, hbel⟩ := hrel
    obtain ⟨W0, hW0⟩ : ∃ W0 : World, W0 = wr := ⟨_, rfl⟩
    subst hW0
    obtain ⟨A, cp, rfl⟩ := own_shape hown
    have HO := Lib.hid hown
    clear hown
    go_wp2_with fail
    go_loopg [4, 5, 6] n (fun g best fd i wx => ∃ (j : Nat) (bst : Tx) (fnd : Bool), j + g = n ∧ i = .int .i64 j ∧ best = .string (mk bst) ∧ fd = .bool fnd ∧ Hid (Seen l Y k j bst fnd) ∧ ∃ q, wx = W0.drewN q)
    case atStart => exact ⟨0, [], false, by omega, rfl, rfl, rfl, Lib.hid (Seen.start l Y k), 0, rfl⟩
    case round =>
      obtain ⟨j, bst, fnd, hj, rfl, rfl, rfl, hs, q, rfl⟩ := hrel
      cases gk with
      | zero =>
        obtain rfl : j = n := by omega
        obtain ⟨Wq, hWq⟩ : ∃ Wq, W0.drewN q = Wq := ⟨_, rfl⟩
        rw [hWq]
        have HWq := Lib.hid hWq
        clear hWq
        cases fnd with
        | false =>
          have hkk := Lib.hid (Seen.none HP.out HM.out (by have := hs.out; rwa [← HN.out] at this) hkY)
          go_wp2_with fail
          go_ret
          have hown := HO.out
          unfold OwnY at hown
          rw [hkk.out, List.take_of_length_le (Nat.le_refl _)] at hown
          obtain ⟨a', c', e', h1, h2, h3⟩ := StrsAt.own (xs := Y) hown
          simp only [Value.slice.injEq] at e'
          obtain ⟨rfl, _, rfl⟩ := e'
          rw [hkk.out]
          exact ⟨_, _, rfl, by rw [← HWq.out]; exact h1.drewN _, h2, by rw [← HWq.out]; exact below_drewN hbel _⟩
        | true =>
          obtain ⟨hkl, hb⟩ := Seen.next HP.out HM.out (by have := hs.out; rwa [← HN.out] at this) hkY
          have HBS := Lib.hid hb
          have hownq : Wq.ownsRow w.heap.size 9 1 (.slice A k cp) k ((Y.take k).map fun x => .string (mk x)) := by rw [← HWq.out]; exact HO.out
          have hbelq : Below w.heap.size w Wq := by rw [← HWq.out]; exact below_drewN hbel _
          have HOQ := Lib.hid (And.intro hownq hbelq)
          clear hb hownq hbelq hs
          go_wp2_with (at_builtin; refine put_one w.heap.size rfl _ _ 29 9 (.string ⟨#[]⟩) 1 16 rfl Try.underlying29 info9 rfl (by decide) (by decide) (.slice A k cp) k _ [.string (mk bst)] rfl rfl rfl (by simp [Value.oneCell']) HOQ.out.1 HOQ.out.2 HOQ.out.2.size (by omega) ?_; intro v1 w1 hown1 hb1 hg1)
          go_roundg (Y.length - k)
          case measure => omega
          case rel => exact ⟨k + 1, by omega, by omega, own_next hown1 hkl HBS.out, hb1⟩
      | succ g =>
        have hj1 : j < l.length := by have := HN.out; omega
        obtain ⟨b1, o1, rfl, l1, e1⟩ := h.cells hj1
        have f1 : (W0.drewN q).cell? ⟨b1, o1 + j, none⟩ = some (.string (mk l[j])) := (hbel.cell (p := ⟨b1, o1 + j, none⟩) l1).trans (e1 j hj1)
        obtain ⟨x, hx⟩ : ∃ x, l[j] = x := ⟨_, rfl⟩
        rw [hx] at f1
        have HX := Lib.hid hx
        have hjn : (j : Int) < (n : Int) := by omega
        have hj0 : (0 : Int) ≤ (j : Int) := by omega
        clear hx e1
        cases k with
        | zero =>
          have HC := Lib.hid (show Cand Y 0 (l[j]'hj1) from .inl rfl)
          obtain ⟨Wq, hWq⟩ : ∃ Wq, W0.drewN q = Wq := ⟨_, rfl⟩
          rw [hWq] at f1 ⊢
          have HWq := Lib.hid hWq
          clear hWq h hbel
          cases fnd with
          | false =>
            go_wp2_with fail
            go_quiet (fail)
            go_wp2_with fail
            go_roundg g
            case measure => omega
            case rel => exact ⟨j + 1, x, true, by omega, by go_num, rfl, rfl, Lib.hid (by have := hs.out.take hj1 HC.out (.inl rfl); rwa [HX.out] at this), _, by rw [← HWq.out]; exact World.drewN_drewN ..⟩
          | true =>
            have hlt := bytesLess_eq x bst
            cases hb : Op.bytesLess x bst
            · rw [hb] at hlt
              have HL := Lib.hid (of_decide_eq_false hlt.symm)
              clear hlt
              go_wp2_with fail
              go_quiet (fail)
              go_wp2_with fail
              go_roundg g
              case measure => omega
              case rel => exact ⟨j + 1, bst, true, by omega, by go_num, rfl, rfl, Lib.hid (hs.out.skip hj1 (fun _ => ⟨rfl, by rw [HX.out]; exact HL.out⟩)), _, by rw [← HWq.out]; exact World.drewN_drewN ..⟩
            · rw [hb] at hlt
              have HL := Lib.hid (of_decide_eq_true hlt.symm)
              clear hlt
              go_wp2_with fail
              go_quiet (fail)
              go_wp2_with fail
              go_roundg g
              case measure => omega
              case rel => exact ⟨j + 1, x, true, by omega, by go_num, rfl, rfl, Lib.hid (by have := hs.out.take hj1 HC.out (.inr (by rw [HX.out]; exact HL.out)); rwa [HX.out] at this), _, by rw [← HWq.out]; exact World.drewN_drewN ..⟩
        | succ k =>
          have hkl : k < Y.length := by omega
          obtain ⟨g0, cp0, e0, f2⟩ := own_last HO.out hkl
          simp only [Value.slice.injEq] at e0
          obtain ⟨rfl, _, rfl⟩ := e0
          have f2 : (W0.drewN q).cell? ⟨g0, k, none⟩ = some (.string (mk Y[k])) := f2
          obtain ⟨y, hy⟩ : ∃ y, Y[k] = y := ⟨_, rfl⟩
          rw [hy] at f2
          have HCD := Lib.hid (show Cand Y (k + 1) (l[j]'hj1) ↔ y < x by
            unfold Cand
            rw [HX.out, ← hy, Nat.add_sub_cancel, List.getD_eq_getElem?_getD, List.getElem?_eq_getElem hkl]
            simp)
          have hk0 : ((k : Int) + 1 == 0) = false := beq_eq_false_iff_ne.2 (by omega)
          have hk1 : (0 : Int) ≤ (k : Int) := by omega
          have hk2 : (k : Int) < (k : Int) + 1 := by omega
          obtain ⟨Wq, hWq⟩ : ∃ Wq, W0.drewN q = Wq := ⟨_, rfl⟩
          rw [hWq] at f1 f2 ⊢
          have HWq := Lib.hid hWq
          clear hWq h hbel hy
          have hlt1 := bytesLess_eq x y
          cases hb1 : Op.bytesLess x y
          · rw [hb1] at hlt1
            cases hb2 : (x == y)
            · have HC := Lib.hid (HCD.out.2 (tx_lt_of (List.not_lt.1 (of_decide_eq_false hlt1.symm)) (by rintro rfl; simp at hb2)))
              clear hlt1
              cases fnd with
              | false =>
                go_wp2_with fail
                go_quiet (fail)
                go_wp2_with fail
                go_roundg g
                case measure => omega
                case rel => exact ⟨j + 1, x, true, by omega, by go_num, rfl, rfl, Lib.hid (by have := hs.out.take hj1 HC.out (.inl rfl); rwa [HX.out] at this), _, by rw [← HWq.out]; exact World.drewN_drewN ..⟩
              | true =>
                have hlt := bytesLess_eq x bst
                cases hb : Op.bytesLess x bst
                · rw [hb] at hlt
                  have HL := Lib.hid (of_decide_eq_false hlt.symm)
                  clear hlt
                  go_wp2_with fail
                  go_quiet (fail)
                  go_wp2_with fail
                  go_roundg g
                  case measure => omega
                  case rel => exact ⟨j + 1, bst, true, by omega, by go_num, rfl, rfl, Lib.hid (hs.out.skip hj1 (fun _ => ⟨rfl, by rw [HX.out]; exact HL.out⟩)), _, by rw [← HWq.out]; exact World.drewN_drewN ..⟩
                · rw [hb] at hlt
                  have HL := Lib.hid (of_decide_eq_true hlt.symm)
                  clear hlt
                  go_wp2_with fail
                  go_quiet (fail)
                  go_wp2_with fail
                  go_roundg g
                  case measure => omega
                  case rel => exact ⟨j + 1, x, true, by omega, by go_num, rfl, rfl, Lib.hid (by have := hs.out.take hj1 HC.out (.inr (by rw [HX.out]; exact HL.out)); rwa [HX.out] at this), _, by rw [← HWq.out]; exact World.drewN_drewN ..⟩
            · have HC := Lib.hid (show ¬ Cand Y (k + 1) (l[j]'hj1) from fun hc => by have := HCD.out.1 hc; rw [eq_of_beq hb2] at this; exact List.lt_irrefl _ this)
              clear hlt1
              go_wp2_with fail
              go_quiet (fail)
              go_wp2_with fail
              go_roundg g
              case measure => omega
              case rel => exact ⟨j + 1, bst, fnd, by omega, by go_num, rfl, rfl, Lib.hid (hs.out.skip hj1 (fun hc => absurd hc HC.out)), _, by rw [← HWq.out]; exact World.drewN_drewN ..⟩
          · rw [hb1] at hlt1
            have HC := Lib.hid (show ¬ Cand Y (k + 1) (l[j]'hj1) from fun hc => List.lt_irrefl _ (List.lt_trans (HCD.out.1 hc) (of_decide_eq_true hlt1.symm)))
            clear hlt1
            go_wp2_with fail
            go_quiet (fail)
            go_wp2_with fail
            go_roundg g
            case measure => omega
            case rel => exact ⟨j + 1, bst, fnd, by omega, by go_num, rfl, rfl, Lib.hid (hs.out.skip hj1 (fun hc => absurd hc HC.out)), _, by rw [← HWq.out]; exact World.drewN_drewN ..⟩
end
end Go.Proofs.Ytmjggjccmbiheaa

