/- Slices of texts: how they lie, what name.Sort and the shared comparison make of them. -/
import Derived.Test.YtmjggjccmbiheaaBase
import Derived.Test.YtmjggjccmbiheaaShelf2
import Derived.Lib.Hide
import Derived.Sort.OwnSorted
import Derived.Sort.Grow
import Derived.Lib.OwnBridge
import Derived.Deep.QuietTactic
import Derived.BigQuiet
import Derived.IntWalk
import Derived.WalkLawsBesides
import Derived.Deep.LoopGhost
import Derived.Maps.AppendAt
import Derived.Deep.AppendLies
namespace Go.Proofs.Ytmjggjccmbiheaa
open Go.RowKit Go.Proofs Go.Sort

/-- The cells behind a slice's address read as these texts. -/
def StrsAt (w : World) (a : Option Addr) (xs : List (List UInt8)) : Prop :=
  xs = [] ∨ ∃ b off, a = some ⟨b, off, none⟩ ∧ b < w.heap.size ∧ ∀ (j : Nat) (h : j < xs.length), w.cell? ⟨b, off + j, none⟩ = some (.string (mk xs[j]))
theorem StrsAt.below {w w' : World} {a : Option Addr} {xs : List (List UInt8)} (h : StrsAt w a xs) (hb : Below w.heap.size w w') : StrsAt w' a xs := by
  rcases h with h | ⟨b, off, e, hlt, hc⟩
  · exact .inl h
  · exact .inr ⟨b, off, e, Nat.lt_of_lt_of_le hlt hb.size, fun j hj => (hb.cell (p := ⟨b, off + j, none⟩) hlt).trans (hc j hj)⟩
theorem StrsAt.drewN {w : World} {a : Option Addr} {xs : List (List UInt8)} (h : StrsAt w a xs) (n : Nat) : StrsAt (w.drewN n) a xs := h.below (below_drewN (Below.refl _ _) n)
theorem StrsAt.nil (w : World) (a : Option Addr) : StrsAt w a [] := .inl rfl
/-- A row of the call's own, read. -/
theorem StrsAt.own {w : World} {base n : Nat} {v : Value} {xs : List (List UInt8)} (h : w.ownsRow base 9 1 v n (xs.map fun x => .string (mk x))) :
    ∃ a c, v = .slice a xs.length c ∧ StrsAt w a xs ∧ xs.length ≤ c ∧ n = xs.length := by
  have hl : xs.length = n := by simpa using h.1
  subst hl
  rcases h.2 with ⟨rfl, h0⟩ | ⟨g, cap, cur, rfl, hb, hg, hn, hm, hs, ht⟩
  · refine ⟨none, 0, by rw [h0], .inl (List.eq_nil_of_length_eq_zero h0), by omega, rfl⟩
  · refine ⟨_, cap, rfl, ?_, hn, rfl⟩
    by_cases h0 : xs.length = 0
    · exact .inl (List.eq_nil_of_length_eq_zero h0)
    · refine .inr ⟨g, 0, rfl, (Array.getElem?_eq_some_iff.1 hg).1, fun j hj => ?_⟩
      have := h.cells (g := g) rfl j (.string (mk xs[j])) (by simp [List.getElem?_eq_getElem hj])
      rwa [show (⟨g, 0, none⟩ : Addr).add j = ⟨g, 0 + j, none⟩ from by unfold Addr.add; split <;> simp_all] at this

theorem own_base {w : World} {base : Nat} {e : TypeId} {size n : Nat} {v : Value} {xs : List Value} (h : w.ownsRow base e size v n xs) (k : Nat) (hk : some k = v.ownBlock) : base ≤ k := by
  rcases h.2 with ⟨rfl, _⟩ | ⟨g, cap, cur, rfl, hb, _⟩
  · simp [Value.ownBlock] at hk
  · have : k = g := by simpa [Value.ownBlock] using hk
    omega
theorem own_below {w w1 : World} {base : Nat} {e : TypeId} {size n : Nat} {v : Value} {xs : List Value} (h : w.ownsRow base e size v n xs) (hb : Below w.heap.size w w1) : w1.ownsRow base e size v n xs :=
  h.kept (row := none) ⟨hb.os, hb.tape, hb.output, hb.size, fun k hk _ => hb.block k hk⟩ (by cases v.ownBlock <;> simp)
theorem own_drewN {w : World} {base : Nat} {e : TypeId} {size n : Nat} {v : Value} {xs : List Value} (h : w.ownsRow base e size v n xs) (q : Nat) : (w.drewN q).ownsRow base e size v n xs := h

section
variable {P : Program} {ops : Array Oper} {rest : List Oper} {o : Oper} {a : Act} {Q : Exit → Act → World → Prop}
/-- append(v, x) of one element to a row of the call's own. -/
theorem put_one {w0 W : World} (base : Nat) (hgd : o.guard = none) (s x : Operand) (t e : TypeId) (z : Value) (size bytes : Nat)
    (ho : o.op = .call { callee := .builtin .append, args := #[s, x], argTypes := #[t, t] })
    (ht : P.underlying t = some (.slice e)) (hinfo : (P.info? e).map (fun i => (i.zero, i.size, i.bytes)) = some (some z, size, bytes)) (hz : z.cells.size = size) (hs0 : 0 < size) (hb0 : 0 < bytes)
    (v : Value) (n : Nat) (xs ys : List Value) (hs : a.eval s = v) (hx : a.eval x = .slice (some ⟨W.heap.size, 0, none⟩) 1 1) (hys : ys.length = size) (h1 : ∀ u ∈ ys, u.oneCell' = true)
    (HO : W.ownsRow base e size v n xs) (HB : Below base w0 W) (hbase : base ≤ W.heap.size) (hl : (n + 1) * bytes ≤ 140737488355328)
    (h : ∀ v1 w1, w1.ownsRow base e size v1 (n + 1) (xs ++ ys) → Below base w0 w1 → W.grownBy w1 v.ownBlock → wpList P ops Q rest (a.put o.dst v1) w1) :
    wpList P ops Q (o :: rest) a (W.alloc (.cells ys.toArray e)) := by
  obtain ⟨i0, hi, hzz⟩ := Option.map_eq_some_iff.1 hinfo
  simp only [Prod.mk.injEq] at hzz
  obtain ⟨hz0, hz1, hz2⟩ := hzz
  have hlen : n + 1 ≤ 140737488355328 := Nat.le_trans (Nat.le_mul_of_pos_right _ hb0) hl
  refine wpList_append_own (W.alloc (.cells ys.toArray e)) hgd s x t ho base e i0 z size bytes ht hi hz0 hz1 hz2 hz hs0 v n xs hs (HO.alloc _) ⟨W.heap.size, 0, none⟩ 1 1 ys hx (by rw [hys]; simp)
    (by simpa using World.news_of_block (cs := ys.toArray) (t := e) (fr := (0, 0)) (heap_alloc_new W (.cells ys.toArray e))) h1 (by simp only [maxLen]; omega) hl (by simp; omega) ?_
  intro v1 w1 hown hg _
  exact h v1 w1 hown ((HB.alloc hbase _).grown hg (by simp; omega) (fun k hk => own_base HO k hk.symm)) (World.grownBy.trans (World.grownBy_alloc W _ _) hg)
end

def sorted (ss : List (List UInt8)) : List (List UInt8) := Lib.compact (ss.mergeSort fun x y => decide (x ≤ y))
/-- From what the three contracts leave. -/
theorem left_of {w w1 : World} {g cap n nn q : Nat} {os : Array Obj} {ss : List (List UInt8)} (hown : w1.ownsRow w.heap.size 9 1 (.slice (some ⟨g, 0, none⟩) n cap) n (ss.map encStr)) (hbel : Below w.heap.size w w1) (hbg : w.heap.size ≤ g) (hlen : ss.length = n) :
    let W := putRow encStr (Sort.ahead (grow (putRow encStr (Sort.ahead w1 nn) g 0 (ss.mergeSort fun x y => decide (x ≤ y)).toArray) os) q) g 0 (sorted ss ++ List.replicate (n - (sorted ss).length) []).toArray
    W.ownsRow w.heap.size 9 1 (.slice (some ⟨g, 0, none⟩) (sorted ss).length cap) (sorted ss).length ((sorted ss).map encStr) ∧ Below w.heap.size w W := by
  unfold sorted
  have hl2 : (ss.mergeSort fun x y => decide (x ≤ y)).length = ss.length := List.length_mergeSort ss
  have hle := Lib.compact_length_le (ss.mergeSort fun x y => decide (x ≤ y))
  subst hlen
  rcases hown.2 with ⟨h0, _⟩ | ⟨g', cap', cur, hv, hbase, hb, h1, h2, h3, h4⟩
  · cases h0
  cases hv
  have hs := ownsRow_sorted (n := nn) (os := os) (ts := ss.mergeSort fun x y => decide (x ≤ y)) hl2 hbase hb h1 h2 h3
  have hc := Lib.ownsRow_putRow (q := q) (k := (Lib.compact (ss.mergeSort fun x y => decide (x ≤ y))).length) (ys := Lib.compact (ss.mergeSort fun x y => decide (x ≤ y)) ++ List.replicate (ss.length - (Lib.compact (ss.mergeSort fun x y => decide (x ≤ y))).length) []) hs (by simp; omega) (by omega)
  rw [List.take_left] at hc
  exact ⟨hc, Lib.below_putRow (hbel.grown (grownBy_sorted _) hbel.size (fun j hj => by cases hj; exact hbase)) hbg⟩

/-- A slice of these texts is handed back; what was there is as it was. -/
def GivesStrs (xs : List (List UInt8)) (w : World) (e : Ending) (w' : World) : Prop :=
  ∃ a c, e = .returned (.slice a xs.length c) ∧ StrsAt w' a xs ∧ xs.length ≤ c ∧ Below w.heap.size w w'

theorem strs_clone {w : World} {a : Option Addr} {xs : List (List UInt8)} {c : Nat} (h : StrsAt w a xs) (hn : xs.length ≤ 1000000000000) (he : xs ≠ []) :
    Calls Try.prog 83 #[.slice a xs.length c] w fun e w' => ∃ v', e = .returned v' ∧ w'.ownsRow w.heap.size 9 1 v' xs.length (xs.map encStr) ∧ v' ≠ .slice none 0 0 ∧ Below w.heap.size w w' := by
  rcases h with h | ⟨b, off, rfl, hlt, hc⟩
  · exact absurd h he
  refine (Try.slices_Clone_string b off xs.length c (xs.map mk) w (by simp) (by omega) (fun j hj => ?_)).mono ?_
  · have hj' : j < xs.length := by simpa using hj
    rw [hc j hj']
    simp [List.getD_eq_getElem?_getD, List.getElem?_eq_getElem hj']
  · rintro e w' ⟨v', rfl, h1, h2, h3⟩
    refine ⟨v', rfl, ?_, h2, h3⟩
    have : ((xs.map mk).take xs.length).map Value.string = xs.map encStr := by
      rw [List.take_of_length_le (by simp), List.map_map]; rfl
    rwa [this] at h1

set_option maxHeartbeats 1000000 in
set_option maxRecDepth 100000 in
theorem name_Sort (a : Option Addr) (c : Nat) (xs : List (List UInt8)) (w : World) (h : StrsAt w a xs) (hn : xs.length ≤ 1000000000000) :
    Calls Try.prog 36 #[.slice a xs.length c] w (GivesStrs (sorted xs) w) := by
  by_cases he : xs = []
  · subst he
    have hs : sorted [] = [] := List.eq_nil_of_length_eq_zero (Nat.le_zero.1 (Nat.le_trans (Lib.compact_length_le _) (by rw [List.length_mergeSort]; exact Nat.le_refl 0)))
    rw [hs]
    have hcl : Calls Try.prog 83 #[.slice a 0 c] w fun e w' => ∃ a' c', e = .returned (.slice a' 0 c') ∧ Below w.heap.size w w' := by
      cases a with
      | none => exact (Try.slices_Clone_string_nil 0 c w).mono (fun e w' ⟨h1, h2⟩ => ⟨none, 0, h1, by subst h2; exact Below.refl _ _⟩)
      | some a =>
        refine (Try.slices_Clone_string_zero a c w).mono ?_
        rintro e w' ⟨v', rfl, h1, h2, h3⟩
        rcases h1.2 with ⟨e0, _⟩ | ⟨g, cap, cur, rfl, _⟩
        · exact absurd e0 h2
        · exact ⟨_, _, rfl, h3⟩
    go_enter Try.func36, Try.ntmps36
    go_wp2_with fail
    refine hcl.mono ?_
    rintro e w1 ⟨a', c', rfl, hb⟩
    go_wp2_with fail
    refine (Try.slices_Sort_string_none a' c' w1).mono ?_
    rintro e w2 ⟨rfl, rfl⟩
    go_wp2_with fail
    refine (Try.slices_Compact_string_empty a' c' w2).mono ?_
    rintro e w3 ⟨rfl, rfl⟩
    go_wp2_with fail
    go_ret
    exact ⟨a', c', rfl, .inl rfl, Nat.zero_le _, hb⟩
  · have hcl := strs_clone (c := c) h hn he
    obtain ⟨n, hnx⟩ : ∃ n, xs.length = n := ⟨_, rfl⟩
    rw [hnx] at hcl ⊢
    go_enter Try.func36, Try.ntmps36
    go_wp2_with fail
    refine hcl.mono ?_
    rintro e w1 ⟨v1, rfl, hown, hnn, hbel⟩
    obtain ⟨g, cap, rfl, hbg, hgl, hncap, hcm, hlen, hH⟩ := Lib.holds_of_ownsRow hown hnn
    have HO := Lib.hid hown
    have HB := Lib.hid hbel
    have hl2 : (xs.mergeSort fun x y => decide (x ≤ y)).length = n := by rw [List.length_mergeSort]; exact hlen
    have hs := Try.slices_Sort_string g 0 cap xs w1 hH hgl (by omega)
    rw [hlen] at hs
    have hH2 := fun nn os => holds_grow encStr (putRow encStr (Sort.ahead w1 nn) g 0 (xs.mergeSort fun x y => decide (x ≤ y)).toArray) os g 0 _ (by simpa [putRow, mapBlock, Sort.ahead] using hgl) (holds_putRow encStr _ g 0 _ _ (holds_ahead encStr w1 nn g 0 _ hH) (by simp))
    have hc := fun nn os => Try.slices_Compact_string g 0 cap (xs.mergeSort fun x y => decide (x ≤ y)) _ (hH2 nn os) (by omega) (by omega)
    rw [hl2] at hc
    have HC := Lib.hid hc
    have HL := Lib.hid hlen
    clear hcl hc hH2 hH hown hbel h hnx hlen hl2
    go_wp2_with fail
    refine hs.mono ?_
    rintro e w2 ⟨rfl, nn, os, hw2⟩
    have hc := HC.out nn os
    rw [← hw2] at hc
    have HW2 := Lib.hid hw2
    clear hw2 hs
    go_wp2_with fail
    refine hc.mono ?_
    rintro e w3 ⟨rfl, q, hw3⟩
    have HW3 := Lib.hid hw3
    clear hw3 hc
    go_wp2_with fail
    go_ret
    have hfin := left_of (nn := nn) (os := os) (q := q) HO.out HB.out hbg HL.out
    simp only at hfin
    rw [← HW2.out] at hfin
    rw [show w3 = _ from HW3.out]
    obtain ⟨a', c', e', h1, h2, h3⟩ := StrsAt.own (xs := sorted xs) hfin.1
    cases e'
    exact ⟨_, _, rfl, h1, h2, hfin.2⟩

theorem StrsAt.cells {w : World} {a : Option Addr} {xs : List (List UInt8)} (h : StrsAt w a xs) {k : Nat} (hk : k < xs.length) : ∃ b off, a = some ⟨b, off, none⟩ ∧ b < w.heap.size ∧ ∀ (j : Nat) (h : j < xs.length), w.cell? ⟨b, off + j, none⟩ = some (.string (mk xs[j])) := by
  rcases h with rfl | h
  · simp at hk
  · exact h
theorem take_both {n k : Nat} {xs ys : List (List UInt8)} {x y : List UInt8} (hn : xs.length = n ∧ ys.length = n) (hk : k < n) (hp : xs.take k = ys.take k) (hx : xs[k]'(by omega) = x ∧ ys[k]'(by omega) = y) (hxy : (x == y) = true) : xs.take (k + 1) = ys.take (k + 1) := by
  rw [List.take_succ_eq_append_getElem (by omega), List.take_succ_eq_append_getElem (by omega), hp, hx.1, hx.2, eq_of_beq hxy]

/-! ### Two slices of texts held against each other -/
section
attribute [local go_sem] mk_list mk_size mk_data
set_option maxHeartbeats 2000000 in
theorem same_ (a1 a2 : Option Addr) (c1 c2 : Nat) (xs ys : List (List UInt8)) (w : World) (h1 : StrsAt w a1 xs) (h2 : StrsAt w a2 ys) (n1 : xs.length ≤ 1000000000000) :
    Calls Try.prog 28 #[.slice a1 xs.length c1, .slice a2 ys.length c2] w fun e w' => e = .returned (.bool (decide (xs = ys))) ∧ ∃ q, w' = w.drewN q := by
  by_cases hl : xs.length = ys.length
  · obtain ⟨n, hn⟩ : ∃ n, xs.length = n := ⟨_, rfl⟩
    have hn2 : ys.length = n := by omega
    have HN := Lib.hid (And.intro hn hn2)
    rw [hn, hn2]
    rw [hn] at n1
    clear hn hn2 hl
    go_enter Try.func28, Try.ntmps28
    go_wp2_with fail
    go_loopg [5] n (fun g i wx => ∃ k : Nat, k + g = n ∧ i = .int .i64 k ∧ Hid (xs.take k = ys.take k) ∧ ∃ q, wx = w.drewN q)
    case atStart => exact ⟨0, by omega, rfl, Lib.hid rfl, 0, rfl⟩
    case round =>
      obtain ⟨k, hk, rfl, hp, q, rfl⟩ := hrel
      cases gk with
      | zero =>
        obtain rfl : k = n := by omega
        have hf := Lib.hid (show decide (xs = ys) = true from decide_eq_true (by have := hp.out; rwa [List.take_of_length_le (by have := HN.out; omega), List.take_of_length_le (by have := HN.out; omega)] at this))
        go_wp2
        go_ret
        exact ⟨ret_bool (by rw [hf.out]), q, rfl⟩
      | succ g =>
        have hk1 : k < xs.length := by have := HN.out; omega
        have hk2 : k < ys.length := by have := HN.out; omega
        obtain ⟨b1, o1, rfl, l1, e1⟩ := h1.cells hk1
        obtain ⟨b2, o2, rfl, l2, e2⟩ := h2.cells hk2
        have f1 : (w.drewN q).cell? ⟨b1, o1 + k, none⟩ = some (.string (mk xs[k])) := e1 k hk1
        have f2 : (w.drewN q).cell? ⟨b2, o2 + k, none⟩ = some (.string (mk ys[k])) := e2 k hk2
        obtain ⟨x, hx⟩ : ∃ x, xs[k] = x := ⟨_, rfl⟩
        obtain ⟨y, hy⟩ : ∃ y, ys[k] = y := ⟨_, rfl⟩
        rw [hx] at f1
        rw [hy] at f2
        have HX := Lib.hid (And.intro hx hy)
        obtain ⟨W, hW⟩ : ∃ W, w.drewN q = W := ⟨_, rfl⟩
        rw [hW] at f1 f2 ⊢
        have HW := Lib.hid hW
        have hkn : (k : Int) < (n : Int) := by omega
        have hk0 : (0 : Int) ≤ (k : Int) := by omega
        clear hx hy hW e1 e2 h1 h2
        cases hxy : (x == y)
        · have hf := Lib.hid (show decide (xs = ys) = false from decide_eq_false (by
            rintro rfl
            have := HX.out
            rw [← this.1, ← this.2] at hxy
            simp at hxy))
          go_wp2_with fail
          go_quiet (fail)
          go_wp2_with fail
          go_ret
          exact ⟨ret_bool (by rw [hf.out]), _, by rw [← HW.out]; exact World.drewN_drewN ..⟩
        · go_wp2_with fail
          go_quiet (fail)
          go_wp2_with fail
          go_roundg g
          case measure => omega
          case rel => exact ⟨k + 1, by omega, by go_num, Lib.hid (take_both HN.out (by omega) hp.out HX.out hxy), _, by rw [← HW.out]; exact World.drewN_drewN ..⟩
  · have hf := Lib.hid (show decide (xs = ys) = false from decide_eq_false (by rintro rfl; exact hl rfl))
    have hl' : (xs.length == ys.length) = false := by simpa using hl
    have hl2 : ((xs.length : Int) != (ys.length : Int)) = true := by rw [bne_iff_ne]; omega
    go_enter Try.func28, Try.ntmps28
    go_wp2
    go_ret
    exact ⟨ret_bool (by rw [hf.out]), 0, rfl⟩
end
end Go.Proofs.Ytmjggjccmbiheaa
