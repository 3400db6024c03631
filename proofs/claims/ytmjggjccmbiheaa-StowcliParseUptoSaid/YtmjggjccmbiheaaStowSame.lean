/- The reference's SameDeals and SameOpts at what is the same; the law's lives. -/
import Derived.Test.YtmjggjccmbiheaaStowParse
namespace Go.Proofs.Ytmjggjccmbiheaa
open Go Go.RowKit Go.Proofs Go.Sort
attribute [local go_sem] mk_list mk_size mk_data

theorem DealsAt.cells {W : World} {U : Nat} {A : Option Addr} {xs : List DealT} (h : DealsAt W U A xs) {k : Nat} (hk : k < xs.length) : ∃ b off, A = some ⟨b, off, none⟩ ∧ b < W.heap.size ∧ W.cell? ⟨b, off + k * 2, none⟩ = some (.int .i64 xs[k].1) ∧ W.cell? ⟨b, off + k * 2 + 1, none⟩ = some (.string (mk xs[k].2)) := by
  rcases h with rfl | ⟨b, off, h1, h2, _, h4⟩
  · simp at hk
  · exact ⟨b, off, h1, h2, (h4 k hk).1, (h4 k hk).2⟩
set_option maxHeartbeats 2000000 in
theorem same_deals (a1 a2 : Option Addr) (c1 c2 : Nat) (U1 U2 : Nat) (xs : List DealT) (w : World) (h1 : DealsAt w U1 a1 xs) (h2 : DealsAt w U2 a2 xs) (n1 : xs.length ≤ 1000000000000) :
    Calls Try.prog 68 #[.slice a1 xs.length c1, .slice a2 xs.length c2] w fun e w' => e = .returned (.bool true) ∧ ∃ q, w' = w.drewN q := by
  obtain ⟨n, hn⟩ : ∃ n, xs.length = n := ⟨_, rfl⟩
  have HN := Lib.hid hn
  rw [hn] at n1 ⊢
  clear hn
  go_enter Try.func68, Try.ntmps68
  go_wp2_with fail
  go_loopg [5] n (fun g i wx => ∃ k : Nat, k + g = n ∧ i = .int .i64 k ∧ ∃ q, wx = w.drewN q)
  case atStart => exact ⟨0, by omega, rfl, 0, rfl⟩
  case round =>
    obtain ⟨k, hk, rfl, q, rfl⟩ := hrel
    cases gk with
    | zero =>
      obtain rfl : k = n := by omega
      go_wp2
      go_ret
      exact ⟨rfl, q, rfl⟩
    | succ g =>
      have hk1 : k < xs.length := by have := HN.out; omega
      obtain ⟨b1, o1, rfl, l1, e1, e1'⟩ := h1.cells hk1
      obtain ⟨b2, o2, rfl, l2, e2, e2'⟩ := h2.cells hk1
      have f1 : (w.drewN q).cell? ⟨b1, o1 + k * 2, none⟩ = some (.int .i64 xs[k].1) := e1
      have f1' : (w.drewN q).cell? ⟨b1, o1 + k * 2 + 1, none⟩ = some (.string (mk xs[k].2)) := e1'
      have f2 : (w.drewN q).cell? ⟨b2, o2 + k * 2, none⟩ = some (.int .i64 xs[k].1) := e2
      have f2' : (w.drewN q).cell? ⟨b2, o2 + k * 2 + 1, none⟩ = some (.string (mk xs[k].2)) := e2'
      obtain ⟨x, hx⟩ : ∃ x, xs[k].1 = x := ⟨_, rfl⟩
      obtain ⟨u, hu⟩ : ∃ u, xs[k].2 = u := ⟨_, rfl⟩
      rw [hx] at f1 f2
      rw [hu] at f1' f2'
      obtain ⟨W, hW⟩ : ∃ W, w.drewN q = W := ⟨_, rfl⟩
      rw [hW] at f1 f2 f1' f2' ⊢
      have HW := Lib.hid hW
      have hkn : (k : Int) < (n : Int) := by omega
      have hk0 : (0 : Int) ≤ (k : Int) := by omega
      clear hx hu hW e1 e2 e1' e2' h1 h2 l1 l2
      go_wp2_with fail
      go_quiet (fail)
      go_wp2_with fail
      go_roundg g
      case measure => omega
      case rel => exact ⟨k + 1, by omega, by go_num, _, by rw [← HW.out]; exact World.drewN_drewN ..⟩

set_option maxRecDepth 100000 in
set_option maxHeartbeats 4000000 in
theorem same_opts (U1 U2 : Nat) (v1 v2 : Value) (d t : Tx) (fo ds ad : Bool) (ig df ov : List Tx) (w : World) (h1 : OptsAt w U1 v1 d t fo ds ad ig df ov) (h2 : OptsAt w U2 v2 d t fo ds ad ig df ov) (l1 : ig.length ≤ 1000000000000) (l2 : df.length ≤ 1000000000000) (l3 : ov.length ≤ 1000000000000) :
    Calls Try.prog 67 #[v1, v2] w fun e w' => e = .returned (.bool true) ∧ Below w.heap.size w w' := by
  obtain ⟨A1, c1, A2, c2, A3, c3, rfl, x1, x2, x3⟩ := h1
  obtain ⟨B1, d1, B2, d2, B3, d3, rfl, y1, y2, y3⟩ := h2
  have HS1 := Lib.hid (fun W (hb : Below w.heap.size w W) => same_ A1 B1 c1 d1 ig ig W ((x1.below hb).strs) ((y1.below hb).strs) l1)
  have HS2 := Lib.hid (fun W (hb : Below w.heap.size w W) => same_ A2 B2 c2 d2 df df W ((x2.below hb).strs) ((y2.below hb).strs) l2)
  have HS3 := Lib.hid (fun W (hb : Below w.heap.size w W) => same_ A3 B3 c3 d3 ov ov W ((x3.below hb).strs) ((y3.below hb).strs) l3)
  rw [show decide (ig = ig) = true by simp] at HS1
  rw [show decide (df = df) = true by simp] at HS2
  rw [show decide (ov = ov) = true by simp] at HS3
  clear x1 x2 x3 y1 y2 y3 l1 l2 l3
  go_enter Try.func67, Try.ntmps67
  go_wp2_with fail
  have hb2 : ∀ o1 o2 : Obj, Below w.heap.size w ((w.alloc o1).alloc o2) := fun o1 o2 => ((Below.refl _ _).alloc (Nat.le_refl _) _).alloc (by simp) _
  have HB2 := Lib.hid hb2
  clear hb2
  refine (HS1.out _ (HB2.out _ _)).mono ?_
  rintro e w2 ⟨rfl, q1, rfl⟩
  go_wp2_with fail
  refine (HS2.out _ (below_drewN (HB2.out _ _) _)).mono ?_
  rintro e w3 ⟨rfl, q2, rfl⟩
  go_wp2_with fail
  refine (HS3.out _ (below_drewN (HB2.out _ _) _)).mono ?_
  rintro e w4 ⟨rfl, q3, rfl⟩
  go_wp2_with fail
  go_ret
  exact ⟨rfl, below_drewN (HB2.out _ _) _⟩

def livesW : List Tx := [[45, 100], [47, 115], [45, 116], [47, 116], [112], [45, 68], [113]]
def livesC : CmdT := { dir := [47, 115], target := [47, 116], fold := true, dots := false, adopt := false, ign := [], defr := [], over := [], deals := [(1, [112]), (2, [113])], sim := false, quiet := false }
theorem stow_lives_eq : stowS livesW = .inl livesC := by rfl
set_option maxRecDepth 100000 in
set_option maxHeartbeats 4000000 in
theorem stow_lives (w : World) : Calls Try.prog 62 #[] w fun e w' => e = .returned (.bool true) ∧ Below w.heap.size w w' := by
  have e1 : (⟨#[45, 100]⟩ : ByteArray) = mk [45, 100] := rfl
  have e2 : (⟨#[47, 115]⟩ : ByteArray) = mk [47, 115] := rfl
  have e3 : (⟨#[45, 116]⟩ : ByteArray) = mk [45, 116] := rfl
  have e4 : (⟨#[47, 116]⟩ : ByteArray) = mk [47, 116] := rfl
  have e5 : (⟨#[112]⟩ : ByteArray) = mk [112] := rfl
  have e6 : (⟨#[45, 68]⟩ : ByteArray) = mk [45, 68] := rfl
  have e7 : (⟨#[113]⟩ : ByteArray) = mk [113] := rfl
  have HP := Lib.hid (stow_Parse (some ⟨w.heap.size, 0, none⟩) 7 livesW (w.alloc (.cells #[.string (mk [45, 100]), .string (mk [47, 115]), .string (mk [45, 116]), .string (mk [47, 116]), .string (mk [112]), .string (mk [45, 68]), .string (mk [113])] 9)) (strs_new w livesW 9) (by decide) (by decide))
  rw [stow_lives_eq] at HP
  go_enter Try.func62, Try.ntmps62
  simp only [e1, e2, e3, e4, e5, e6, e7]
  clear e1 e2 e3 e4 e5 e6 e7
  go_wp2_with fail
  refine HP.out.mono ?_
  rintro e w1 ⟨⟨v, rfl, hcm⟩, hb⟩
  obtain ⟨A1, c1, A2, c2, A3, c3, D, dc, rfl, _, _, _, hd⟩ := hcm
  have HB1 : Hid (Below w.heap.size w w1) := Lib.hid (below_then ((Below.refl _ _).alloc (Nat.le_refl _) _) (by simp) hb)
  obtain ⟨b, off, rfl, hlt, d1, d2⟩ := hd.cells (k := 1) (by decide)
  unfold livesC at *
  simp only at d1 d2
  clear hd hb HP
  go_wp2_with fail
  go_ret
  exact ⟨rfl, HB1.out.alloc HB1.out.size _⟩
end Go.Proofs.Ytmjggjccmbiheaa
