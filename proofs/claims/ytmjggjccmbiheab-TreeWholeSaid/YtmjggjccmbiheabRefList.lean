/- The reference's tree: In, List, dir, New, step by step. -/
import Derived.Test.YtmjggjccmbiheabRefRead
import Derived.Deep.RegionHeld3
namespace Go.Proofs.Ytmjggjccmbiheab
open Go Go.RowKit Go.Proofs Go.Sort
attribute [local go_sem] mk_list mk_size mk_data

theorem nfield0 (a b c d e : Value) (w : World) : (Instr.field 56 (.agg #[a, b, c, d, e]) 0).run Try.prog w = .ok a w := by kernel_rfl
theorem nfield1 (a b c d e : Value) (w : World) : (Instr.field 56 (.agg #[a, b, c, d, e]) 1).run Try.prog w = .ok b w := by kernel_rfl
theorem nfield3 (a b c d e : Value) (w : World) : (Instr.field 56 (.agg #[a, b, c, d, e]) 3).run Try.prog w = .ok d w := by kernel_rfl
attribute [local go_sem] nfield0 nfield1 nfield3

set_option maxRecDepth 100000 in
set_option maxHeartbeats 2000000 in
theorem ref_In (A : Option Addr) (c : Nat) (L : List NodeT) (last d : Int) (s : Tx) (W : World) (h : NodesAt W A L) (hl : L.length ≤ 1000000000) :
    Calls Try.prog 43 #[.agg #[.slice A L.length c, .int .i64 last], .int .i64 d, .string (mk s)] W fun e w' => e = .returned (.int .i64 (inR L d s)) ∧ Below W.heap.size W w' := by
  obtain ⟨m, hm⟩ : ∃ m, L.length = m := ⟨_, rfl⟩
  obtain ⟨r, hr⟩ : ∃ r, inR L d s = r := ⟨_, rfl⟩
  have HM := Lib.hid hm
  have HF := Lib.hid hr
  have HN := Lib.hid h
  rw [hr]
  rw [hm] at hl ⊢
  obtain ⟨W0, hW0⟩ : ∃ W0, W.alloc (.cells #[.slice A m c, .int .i64 last] 29) = W0 := ⟨_, rfl⟩
  have HW : Hid (Below W.heap.size W W0 ∧ W0.heap[W.heap.size]? = some (.cells #[.slice A m c, .int .i64 last] 29)) := Lib.hid (by
    rw [← hW0]
    exact ⟨(Below.refl _ _).alloc (Nat.le_refl _) _, heap_alloc_new _ _⟩)
  have x0 := blk_cell HW.out.2 0
  simp only [List.getElem?_toArray, List.getElem?_cons_zero] at x0
  clear hm hr h
  go_enter Try.func43, Try.ntmps43
  go_wp2_with fail
  try rw [hW0]
  clear hW0
  go_loopg [7] m (fun g iv wx => ∃ k : Nat, k + g = m ∧ iv = .int .i64 k ∧ Hid ((L.take k).find? (inP d s) = none) ∧ wx = W0)
  case atStart => exact ⟨0, by omega, rfl, Lib.hid rfl, rfl⟩
  case round =>
    obtain ⟨k, hk, rfl, hno, rfl⟩ := hrel
    cases gk with
    | zero =>
      obtain rfl : k = m := by omega
      have HR : Hid (r = 0) := Lib.hid (by
        rw [← HF.out]
        have := hno.out
        rw [List.take_of_length_le (by have := HM.out; omega)] at this
        unfold inR; rw [this])
      obtain rfl := HR.out
      go_wp2_with fail
      go_ret
      exact ⟨rfl, HW.out.1⟩
    | succ g =>
      have hkl : k < L.length := by have := HM.out; omega
      obtain ⟨b, off, rfl, hb, f0, f1, f2, _, _⟩ := (HN.out.below HW.out.1).cells hkl
      have HST := Lib.hid (find_step hkl hno.out)
      obtain ⟨x, hx⟩ : ∃ x, L[k] = x := ⟨_, rfl⟩
      rw [hx] at f0 f1 f2 HST
      obtain ⟨xn, xu, xs, xk, xd⟩ := x
      simp only at f0 f1 f2
      have hkI : (k : Int) < (m : Int) := by omega
      have hk0 : (0 : Int) ≤ (k : Int) := by omega
      clear hx hb
      cases h1 : (xu == d)
      · have HQ := Lib.hid (HST.out.1 (by unfold inP; simp only [h1]; rfl))
        go_wp2_with fail
        go_roundg g
        case measure => omega
        case rel => exact ⟨k + 1, by omega, by go_num, HQ, rfl⟩
      · cases h2 : (xs == s)
        · have HQ := Lib.hid (HST.out.1 (by unfold inP; simp only [h1, h2]; rfl))
          go_wp2_with fail
          go_roundg g
          case measure => omega
          case rel => exact ⟨k + 1, by omega, by go_num, HQ, rfl⟩
        · cases h3 : (xn != 1)
          · have HQ := Lib.hid (HST.out.1 (by unfold inP; simp only [h1, h2, h3]; rfl))
            go_wp2_with fail
            go_roundg g
            case measure => omega
            case rel => exact ⟨k + 1, by omega, by go_num, HQ, rfl⟩
          · have HR : Hid (r = xn) := Lib.hid (by rw [← HF.out]; unfold inR; rw [HST.out.2 (by unfold inP; simp only [h1, h2, h3]; rfl)])
            obtain rfl := HR.out
            go_wp2_with fail
            go_ret
            exact ⟨rfl, HW.out.1⟩

def dirR (L : List NodeT) (n : Int) : Int := if (atR L n).kind = 0 then 5 else if (atR L n).kind = 1 then 0 else 7
set_option maxRecDepth 100000 in
theorem ref_dir (A : Option Addr) (c : Nat) (L : List NodeT) (last n : Int) (W : World) (h : NodesAt W A L) (hl : L.length ≤ 1000000000) :
    Calls Try.prog 41 #[.agg #[.slice A L.length c, .int .i64 last], .int .i64 n] W fun e w' => e = .returned (.int .i64 (dirR L n)) ∧ Below W.heap.size W w' := by
  have hal : Below W.heap.size W (W.alloc (.cells #[.slice A L.length c, .int .i64 last] 29)) := (Below.refl _ _).alloc (Nat.le_refl _) _
  have HA := Lib.hid (ref_At A c L last n _ (h.below hal) hl)
  have HAL := Lib.hid hal
  have HD : Hid (dirR L n = if (atR L n).kind = 0 then 5 else if (atR L n).kind = 1 then 0 else 7) := Lib.hid rfl
  obtain ⟨r, hr⟩ : ∃ r, dirR L n = r := ⟨_, rfl⟩
  rw [hr] at HD ⊢
  obtain ⟨x, hx⟩ : ∃ x, atR L n = x := ⟨_, rfl⟩
  rw [hx] at HA HD
  obtain ⟨xn, xu, xs, xk, xd⟩ := x
  obtain ⟨m, hm⟩ : ∃ m, L.length = m := ⟨_, rfl⟩
  rw [hm] at HA HAL ⊢
  unfold nodeA at HA
  simp only at HA HD
  clear h hl hal hr hx hm
  go_enter Try.func41, Try.ntmps41
  go_wp2_with fail
  refine HA.out.mono ?_
  rintro e w1 ⟨rfl, hb⟩
  have HB := Lib.hid (below_then HAL.out HAL.out.size hb)
  clear hb
  by_cases h0 : xk = 0
  · subst h0
    obtain rfl := HD.out
    go_wp2_with fail
    go_ret
    exact ⟨rfl, HB.out⟩
  · have h0' : (xk == 0) = false := by simpa using h0
    by_cases h1 : xk = 1
    · subst h1
      have HD2 : Hid (r = 0) := HD
      obtain rfl := HD2.out
      go_wp2_with fail
      go_ret
      exact ⟨rfl, HB.out⟩
    · have h1' : (xk != 1) = true := by simpa using h1
      have HD2 : Hid (r = 7) := Lib.hid (by rw [HD.out, if_neg h0, if_neg h1])
      obtain rfl := HD2.out
      clear h0 h1
      go_wp2_with fail
      go_ret
      exact ⟨rfl, HB.out⟩

def rootR : NodeT := ⟨1, 1, [], 1, []⟩
def NewTo (W : World) (e : Ending) (w' : World) : Prop := (∃ A c, e = .returned (.agg #[.slice A 1 c, .int .i64 1]) ∧ NodesAt w' A [rootR]) ∧ Below W.heap.size W w'
set_option maxRecDepth 100000 in
theorem ref_New (W : World) : Calls Try.prog 9 #[] W (NewTo W) := by
  have e0 : (⟨#[]⟩ : ByteArray) = mk [] := rfl
  go_enter Try.func9, Try.ntmps9
  go_wp2_with fail
  refine bodyPost_ret (v := .agg #[.slice (some ⟨W.heap.size + 1, 0, none⟩) 1 1, .int .i64 1]) ?_ rfl ⟨⟨some ⟨W.heap.size + 1, 0, none⟩, 1, rfl, .inr ⟨W.heap.size + 1, 0, rfl, by simp, fun j hj i v hv => ?_⟩⟩, ((Below.refl _ _).alloc (Nat.le_refl _) _).alloc (by simp) _⟩
  · rw [results_cell1 rfl]
    go_simp
  · obtain rfl : j = 0 := by simpa using hj
    have h := heap_alloc_new (W.alloc (.cells #[.slice (some ⟨W.heap.size + 1, 0, none⟩) 1 1, .int .i64 1] 29)) (.cells #[.int .i64 1, .int .i64 1, .string (mk []), .int .i64 1, .string (mk [])] 56)
    rw [World.size_alloc] at h
    rw [show (0 + 0 * 5 + i) = i by omega, blk_cell h, List.getElem?_toArray]
    exact hv

def listP (d : Int) (x : NodeT) : Bool := x.up == d && x.num != 1
def addR (out : List En) (x : NodeT) : List En := putP out (x.name, x.num)
def listR (L : List NodeT) (d : Int) : List En := (L.filter (listP d)).foldl addR []
theorem addR_len : ∀ (l : List NodeT) (out : List En), (l.foldl addR out).length ≤ out.length + l.length
  | [], out => by simp
  | x :: l, out => by
    have h1 := addR_len l (addR out x)
    have h2 := putP_le out (x.name, x.num)
    rw [List.foldl_cons, List.length_cons]
    unfold addR at h1 ⊢
    omega
theorem listR_len (L : List NodeT) (d : Int) : (listR L d).length ≤ L.length := by
  have h1 := addR_len (L.filter (listP d)) []
  have h2 := List.length_filter_le (listP d) L
  unfold listR
  simp only [List.length_nil] at h1
  omega
theorem listR_snoc {L : List NodeT} {k : Nat} (hk : k < L.length) (d : Int) : listR (L.take (k + 1)) d = if listP d L[k] then addR (listR (L.take k) d) L[k] else listR (L.take k) d := by
  unfold listR
  rw [List.take_succ_eq_append_getElem hk, List.filter_append, List.foldl_append]
  cases h : listP d L[k]
  · simp [h]
  · simp [h]
def ListTo (l : List En) (W : World) (e : Ending) (w' : World) : Prop := (∃ v, e = .returned v ∧ OwnE w' W.heap.size v l) ∧ Below W.heap.size W w'
set_option maxRecDepth 100000 in
set_option maxHeartbeats 4000000 in
theorem ref_List (A : Option Addr) (c : Nat) (L : List NodeT) (last d : Int) (W : World) (h : NodesAt W A L) (hl : L.length ≤ 10000000) :
    Calls Try.prog 37 #[.agg #[.slice A L.length c, .int .i64 last], .int .i64 d] W (ListTo (listR L d) W) := by
  obtain ⟨m, hm⟩ : ∃ m, L.length = m := ⟨_, rfl⟩
  obtain ⟨r, hr⟩ : ∃ r, listR L d = r := ⟨_, rfl⟩
  have HM := Lib.hid hm
  have HF := Lib.hid hr
  have HN := Lib.hid h
  rw [hr]
  rw [hm] at hl ⊢
  obtain ⟨W0, hW0⟩ : ∃ W0, W.alloc (.cells #[.slice A m c, .int .i64 last] 29) = W0 := ⟨_, rfl⟩
  have HW : Hid (Below W.heap.size W W0 ∧ W0.heap[W.heap.size]? = some (.cells #[.slice A m c, .int .i64 last] 29)) := Lib.hid (by
    rw [← hW0]
    exact ⟨(Below.refl _ _).alloc (Nat.le_refl _) _, heap_alloc_new _ _⟩)
  clear hm hr h
  go_enter Try.func37, Try.ntmps37
  go_wp2_with fail
  try rw [hW0]
  clear hW0
  go_loopg [5, 6] m (fun g ov iv wx => ∃ k : Nat, k + g = m ∧ iv = .int .i64 k ∧ Hid (OwnE wx W.heap.size ov (listR (L.take k) d)) ∧ Hid (Below W.heap.size W wx ∧ wx.heap[W.heap.size]? = some (.cells #[.slice A m c, .int .i64 last] 29)))
  case atStart => exact ⟨0, by omega, rfl, Lib.hid (World.ownsRow_nil _ _ _ _), HW⟩
  case round =>
    obtain ⟨k, hk, rfl, HO, HB⟩ := hrel
    have x0 := blk_cell HB.out.2 0
    simp only [List.getElem?_toArray, List.getElem?_cons_zero] at x0
    obtain ⟨A5, c5, rfl, he5, _⟩ := HO.out.at
    cases gk with
    | zero =>
      obtain rfl : k = m := by omega
      have HR : Hid (listR (L.take k) d = r) := Lib.hid (by rw [List.take_of_length_le (by have := HM.out; omega)]; exact HF.out)
      rw [HR.out] at HO ⊢
      clear he5
      go_wp2_with fail
      go_ret
      exact ⟨⟨_, rfl, HO.out⟩, HB.out.1⟩
    | succ g =>
      have hkl : k < L.length := by have := HM.out; omega
      obtain ⟨b, off, rfl, hb, f0, f1, f2, _, _⟩ := (HN.out.below HB.out.1).cells hkl
      have HST := Lib.hid (listR_snoc hkl d)
      have hlen : (listR (L.take k) d).length ≤ 100000000 := by
        have := listR_len (L.take k) d
        rw [List.length_take] at this
        omega
      obtain ⟨x, hx⟩ : ∃ x, L[k] = x := ⟨_, rfl⟩
      rw [hx] at f0 f1 f2 HST
      obtain ⟨xn, xu, xs, xk, xd⟩ := x
      simp only at f0 f1 f2
      obtain ⟨l, hll⟩ : ∃ l, listR (L.take k) d = l := ⟨_, rfl⟩
      rw [hll] at HO HST he5 hlen ⊢
      have hkI : (k : Int) < (m : Int) := by omega
      have hk0 : (0 : Int) ≤ (k : Int) := by omega
      have HBL := Lib.hid hb
      have HE5 := Lib.hid he5
      clear hx hll he5
      cases h1 : (xu == d)
      · have HQ : Hid (listR (L.take (k + 1)) d = l) := Lib.hid (by rw [HST.out]; unfold listP; simp only [h1]; rfl)
        go_wp2_with fail
        go_roundg g
        case measure => omega
        case rel => exact ⟨k + 1, by omega, by go_num, Lib.hid (by rw [HQ.out]; exact HO.out), HB⟩
      · cases h3 : (xn != 1)
        · have HQ : Hid (listR (L.take (k + 1)) d = l) := Lib.hid (by rw [HST.out]; unfold listP; simp only [h1, h3]; rfl)
          go_wp2_with fail
          go_roundg g
          case measure => omega
          case rel => exact ⟨k + 1, by omega, by go_num, Lib.hid (by rw [HQ.out]; exact HO.out), HB⟩
        · have HQ : Hid (listR (L.take (k + 1)) d = putP l (xs, xn)) := Lib.hid (by rw [HST.out]; unfold listP addR; simp only [h1, h3]; rfl)
          have HPU := Lib.hid (ref6_Put A5 c5 l xs xn wr.drew (HE5.out.below (below_drewN (Below.refl _ _) 1)) hlen)
          rw [rputP_eq] at HPU
          have HF3 := Lib.hid (And.intro x0 (And.intro f0 f2))
          go_wp2_with fail
          go_region_held3 (fun w' => w'.cell? ⟨W.heap.size, 0, none⟩ = some (.slice (some ⟨b, off, none⟩) m c) ∧ w'.cell? ⟨b, off + k * 5, none⟩ = some (.int .i64 xn) ∧ w'.cell? ⟨b, off + k * 5 + 2, none⟩ = some (.string (mk xs))) (first | (with_reducible exact ⟨by assumption, by assumption, by assumption⟩) | go_keep)
            ((go_at_call 51; refine HPU.out.mono ?_; rintro e w5 ⟨v, rfl, ho, hb5⟩; obtain ⟨A7, c7, rfl, _, _⟩ := ho.at; have HB5 : Hid (Below wr.heap.size wr w5) := Lib.hid (ext_trans (below_drewN (Below.refl wr.heap.size wr) 1) hb5); have HO5 := Lib.hid ho; have g0 := (HB5.out.cell (p := ⟨W.heap.size, 0, none⟩) (blk_lt HB.out.2)).trans HF3.out.1; have g1 := (HB5.out.cell (p := ⟨b, off + k * 5, none⟩) HBL.out).trans HF3.out.2.1; have g2 := (HB5.out.cell (p := ⟨b, off + k * 5 + 2, none⟩) HBL.out).trans HF3.out.2.2; clear ho hb5))
          go_wp2_with fail
          go_roundg g
          case measure => omega
          case rel => exact ⟨k + 1, by omega, by go_num, Lib.hid (by rw [HQ.out]; exact row_mono' HO5.out HB.out.1.size), Lib.hid ⟨ext_trans HB.out.1 HB5.out, (HB5.out.block _ (blk_lt HB.out.2)).trans HB.out.2⟩⟩
end Go.Proofs.Ytmjggjccmbiheab
