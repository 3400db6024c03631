/- The law's call StowcliParse. -/
import Derived.Test.YtmjggjccmbiheaaRefStow2
import Derived.Deep.QuietTactic
import Derived.BigQuiet
namespace Go.Proofs.Ytmjggjccmbiheaa
open Go Go.RowKit Go.Proofs Go.Sort
attribute [local go_sem] mk_list mk_size mk_data

theorem stow_bnd {ws : List Tx} {c : CmdT} (h : stowS ws = .inl c) : c.deals.length ≤ wt ws ∧ c.ign.length ≤ wt ws ∧ c.defr.length ≤ wt ws ∧ c.over.length ≤ wt ws := by
  unfold stowS at h
  cases hp : parseS stowL ws with
  | inr k => rw [hp] at h; cases h
  | inl l =>
    rw [hp] at h
    simp only at h
    split at h
    · cases h
    · cases h
      have hi := stow_items hp
      have hv := fun t => valuesS_len t l
      exact ⟨Nat.le_trans (foldD_len l) hi.1, Nat.le_trans (hv _) hi.2.1, Nat.le_trans (hv _) hi.2.1, Nat.le_trans (hv _) hi.2.1⟩
theorem opts_of {W : World} {U : Nat} {A1 A2 A3 : Option Addr} {c1 c2 c3 : Nat} {d t : Tx} {fo ds ad : Bool} {ig df ov : List Tx} (h1 : AboveAt W U A1 ig) (h2 : AboveAt W U A2 df) (h3 : AboveAt W U A3 ov) :
    OptsAt W U (.agg #[.string (mk d), .string (mk t), .bool fo, .bool ds, .bool ad, .slice A1 ig.length c1, .slice A2 df.length c2, .slice A3 ov.length c3]) d t fo ds ad ig df ov := ⟨A1, c1, A2, c2, A3, c3, rfl, h1, h2, h3⟩

set_option maxRecDepth 100000 in
set_option maxHeartbeats 8000000 in
theorem stow_parse (a1 : Option Addr) (c1 : Nat) (ws : List Tx) (w : World) (hw : StrsAt w a1 ws) (hc : ws.length ≤ c1) (hwt : wt ws ≤ 2000000) :
    Calls Try.prog 12 #[.slice a1 ws.length c1] w fun e w' => e = .returned (.bool true) ∧ Below w.heap.size w w' := by
  have HP := Lib.hid (fun W (hb : Below w.heap.size w W) => stow_Parse a1 c1 ws W (hw.below hb) hc (by omega))
  have HR := Lib.hid (fun W (hb : Below w.heap.size w W) => ref38_Parse a1 c1 ws W (hw.below hb) (by omega))
  obtain ⟨n, hn⟩ : ∃ n, ws.length = n := ⟨_, rfl⟩
  have HN := Lib.hid hn
  rw [hn] at HP HR ⊢
  have hnl : n ≤ 2000000 := by have := len_le_wt ws; omega
  obtain ⟨P, hP⟩ : ∃ P, stowS ws = P := ⟨_, rfl⟩
  rw [hP] at HP HR
  have HPP := Lib.hid hP
  have HWT := Lib.hid hwt
  clear hn hP hw hwt hc
  by_cases h100 : (100 : Int) < (n : Int)
  · go_enter Try.func12, Try.ntmps12
    go_wp2_with (go_at_call 62; refine (stow_lives _).mono ?_; rintro e w2 ⟨rfl, hb2⟩)
    go_ret
    exact ⟨rfl, hb2⟩
  · go_enter Try.func12, Try.ntmps12
    go_wp2_with fail
    refine (stow_Specs w).mono ?_
    rintro e w1 ⟨⟨A, c, rfl, hs⟩, b1⟩
    have B1 := Lib.hid b1
    have HS := Lib.hid hs
    clear b1 hs
    go_wp2_with fail
    refine (ref38_Specs w1).mono ?_
    rintro e w2 ⟨⟨A', c', rfl, hs'⟩, b2⟩
    have B2 := Lib.hid (ext_trans B1.out b2)
    have HSS := Lib.hid (And.intro (HS.out.below b2) hs')
    rw [show stowL.length = 13 from rfl]
    clear b2 hs'
    go_wp2_with fail
    go_loopg [5] 13 (fun g iv wx => ∃ k : Nat, k + g = 13 ∧ iv = .int .i64 k ∧ Hid (∃ q, wx = w2.drewN q))
    case atStart => exact ⟨0, by omega, rfl, Lib.hid ⟨0, rfl⟩⟩
    case round =>
      obtain ⟨k, hk, rfl, HQ⟩ := hrel
      cases gk with
      | succ g =>
        have hkl : k < stowL.length := by show k < 13; omega
        have hb : Below w2.heap.size w2 wr := by obtain ⟨q, hq⟩ := HQ.out; rw [hq]; exact below_drewN (Below.refl _ _) q
        obtain ⟨b3, o3, rfl, l3, f0, f1, f2⟩ := (HSS.out.1.below hb).cells hkl
        obtain ⟨b4, o4, rfl, l4, g0, g1, g2⟩ := (HSS.out.2.below hb).cells hkl
        obtain ⟨x, hx⟩ : ∃ x, stowL[k] = x := ⟨_, rfl⟩
        rw [hx] at f0 f1 f2 g0 g1 g2
        obtain ⟨xl, xs, xn⟩ := x
        simp only at f0 f1 f2 g0 g1 g2
        have hkI : (k : Int) < 13 := by omega
        have hk0 : (0 : Int) ≤ (k : Int) := by omega
        have hge : decide ((13 : Int) ≤ (k : Int)) = false := by simp; omega
        clear hx hb l3 l4
        go_wp2_with fail
        go_quiet (fail)
        go_wp2_with fail
        go_roundg g
        case measure => omega
        case rel => exact ⟨k + 1, by omega, by go_num, Lib.hid (by obtain ⟨q, hq⟩ := HQ.out; exact ⟨_, by rw [hq]; exact World.drewN_drewN ..⟩)⟩
      | zero =>
        obtain rfl : k = 13 := by omega
        have B3 : Hid (Below w.heap.size w wr) := Lib.hid (by obtain ⟨q, hq⟩ := HQ.out; rw [hq]; exact below_drewN B2.out q)
        have e0 : (⟨#[]⟩ : ByteArray) = mk [] := rfl
        clear hnl
        cases P with
        | inr j =>
          have hj0 : (0 : Int) ≤ (j : Int) := by omega
          go_wp2_with fail
          refine (HP.out wr B3.out).mono ?_
          rintro e w4 ⟨rfl, b4⟩
          have B4 := Lib.hid (ext_trans B3.out b4)
          unfold zeroCmd
          rw [e0]
          clear b4
          go_wp2_with fail
          obtain ⟨R1, hR1⟩ : ∃ R1, w4.heap.size = R1 := ⟨_, rfl⟩
          obtain ⟨w5, hw5⟩ : ∃ w5, w4.alloc (.cells #[.string (mk []), .string (mk []), .bool false, .bool false, .bool false, .slice none 0 0, .slice none 0 0, .slice none 0 0, .slice none 0 0, .bool false, .bool false] 73) = w5 := ⟨_, rfl⟩
          have B5 : Hid (Below w.heap.size w w5 ∧ w5.heap[R1]? = some (.cells #[.string (mk []), .string (mk []), .bool false, .bool false, .bool false, .slice none 0 0, .slice none 0 0, .slice none 0 0, .slice none 0 0, .bool false, .bool false] 73)) := Lib.hid (by rw [← hw5, ← hR1]; exact ⟨B4.out.alloc B4.out.size _, heap_alloc_new _ _⟩)
          rw [hw5, hR1]
          clear hw5 hR1
          refine (HR.out w5 B5.out.1).mono ?_
          rintro e w6 ⟨rfl, b6⟩
          have B6 : Hid (Below w.heap.size w w6 ∧ w6.heap[R1]? = some (.cells #[.string (mk []), .string (mk []), .bool false, .bool false, .bool false, .slice none 0 0, .slice none 0 0, .slice none 0 0, .slice none 0 0, .bool false, .bool false] 73)) := Lib.hid ⟨ext_trans B5.out.1 b6, (b6.block R1 (Array.getElem?_eq_some_iff.1 B5.out.2).1).trans B5.out.2⟩
          unfold zeroCmd
          rw [e0]
          clear b6
          go_upto_region 11 with (fail)
          obtain ⟨R2, hR2⟩ : ∃ R2, w6.heap.size = R2 := ⟨_, rfl⟩
          obtain ⟨w7, hw7⟩ : ∃ w7, w6.alloc (.cells #[.string (mk []), .string (mk []), .bool false, .bool false, .bool false, .slice none 0 0, .slice none 0 0, .slice none 0 0, .slice none 0 0, .bool false, .bool false] 76) = w7 := ⟨_, rfl⟩
          have B7 : Hid (Below w.heap.size w w7 ∧ w7.heap[R1]? = some (.cells #[.string (mk []), .string (mk []), .bool false, .bool false, .bool false, .slice none 0 0, .slice none 0 0, .slice none 0 0, .slice none 0 0, .bool false, .bool false] 73) ∧ w7.heap[R2]? = some (.cells #[.string (mk []), .string (mk []), .bool false, .bool false, .bool false, .slice none 0 0, .slice none 0 0, .slice none 0 0, .slice none 0 0, .bool false, .bool false] 76)) := Lib.hid (by rw [← hw7, ← hR2]; exact ⟨B6.out.1.alloc B6.out.1.size _, heap_stay B6.out.2 _, heap_alloc_new _ _⟩)
          rw [hw7, hR2]
          clear hw7 hR2
          have x0 := blk_cell B7.out.2.1 0
          have x1 := blk_cell B7.out.2.1 1
          have x2 := blk_cell B7.out.2.1 2
          have x3 := blk_cell B7.out.2.1 3
          have x4 := blk_cell B7.out.2.1 4
          have x5 := blk_cell B7.out.2.1 5
          have x6 := blk_cell B7.out.2.1 6
          have x7 := blk_cell B7.out.2.1 7
          have y0 := blk_cell B7.out.2.2 0
          have y1 := blk_cell B7.out.2.2 1
          have y2 := blk_cell B7.out.2.2 2
          have y3 := blk_cell B7.out.2.2 3
          have y4 := blk_cell B7.out.2.2 4
          have y5 := blk_cell B7.out.2.2 5
          have y6 := blk_cell B7.out.2.2 6
          have y7 := blk_cell B7.out.2.2 7
          simp only [List.getElem?_toArray, List.getElem?_cons_zero, List.getElem?_cons_succ] at x0 y0 x1 y1 x2 y2 x3 y3 x4 y4 x5 y5 x6 y6 x7 y7
          go_wp2_with fail
          refine (same_opts 0 0 _ _ [] [] false false false [] [] [] w7 ⟨none, 0, none, 0, none, 0, rfl, .inl rfl, .inl rfl, .inl rfl⟩ ⟨none, 0, none, 0, none, 0, rfl, .inl rfl, .inl rfl, .inl rfl⟩ (by simp) (by simp) (by simp)).mono ?_
          rintro e w8 ⟨rfl, b8⟩
          have B8 : Hid (Below w.heap.size w w8 ∧ w8.heap[R1]? = some (.cells #[.string (mk []), .string (mk []), .bool false, .bool false, .bool false, .slice none 0 0, .slice none 0 0, .slice none 0 0, .slice none 0 0, .bool false, .bool false] 73) ∧ w8.heap[R2]? = some (.cells #[.string (mk []), .string (mk []), .bool false, .bool false, .bool false, .slice none 0 0, .slice none 0 0, .slice none 0 0, .slice none 0 0, .bool false, .bool false] 76) ∧ Below w7.heap.size w7 w8) := Lib.hid ⟨ext_trans B7.out.1 b8, (b8.block R1 (Array.getElem?_eq_some_iff.1 B7.out.2.1).1).trans B7.out.2.1, (b8.block R2 (Array.getElem?_eq_some_iff.1 B7.out.2.2).1).trans B7.out.2.2, b8⟩
          clear b8 x0 y0 x1 y1 x2 y2 x3 y3 x4 y4 x5 y5 x6 y6 x7 y7
          have x8 := blk_cell B8.out.2.1 8
          have y8 := blk_cell B8.out.2.2.1 8
          simp only [List.getElem?_toArray, List.getElem?_cons_zero, List.getElem?_cons_succ] at x8 y8
          go_wp2_with fail
          refine (same_deals none none 0 0 0 0 [] w8 (.inl rfl) (.inl rfl) (by simp)).mono ?_
          rintro e w9 ⟨rfl, q, hq⟩
          have B9 : Hid (Below w.heap.size w w9 ∧ w9.heap[R1]? = some (.cells #[.string (mk []), .string (mk []), .bool false, .bool false, .bool false, .slice none 0 0, .slice none 0 0, .slice none 0 0, .slice none 0 0, .bool false, .bool false] 73) ∧ w9.heap[R2]? = some (.cells #[.string (mk []), .string (mk []), .bool false, .bool false, .bool false, .slice none 0 0, .slice none 0 0, .slice none 0 0, .slice none 0 0, .bool false, .bool false] 76)) := Lib.hid (by rw [hq]; exact ⟨below_drewN B8.out.1 q, B8.out.2.1, B8.out.2.2.1⟩)
          clear hq x8 y8
          have x9 := blk_cell B9.out.2.1 9
          have y9 := blk_cell B9.out.2.2 9
          have x10 := blk_cell B9.out.2.1 10
          have y10 := blk_cell B9.out.2.2 10
          simp only [List.getElem?_toArray, List.getElem?_cons_zero, List.getElem?_cons_succ] at x9 x10 y9 y10
          go_wp2_with fail
          refine (stow_lives w9).mono ?_
          rintro e w10 ⟨rfl, b10⟩
          have B10 := Lib.hid (ext_trans B9.out.1 b10)
          clear b10
          go_wp2_with fail
          go_ret
          exact ⟨rfl, B10.out⟩
        | inl cm =>
          have HBN : Hid (cm.deals.length ≤ 1000000000000 ∧ cm.ign.length ≤ 1000000000000 ∧ cm.defr.length ≤ 1000000000000 ∧ cm.over.length ≤ 1000000000000) := Lib.hid (by
            have h1 := stow_bnd HPP.out
            have := HWT.out
            omega)
          go_wp2_with fail
          refine (HP.out wr B3.out).mono ?_
          rintro e w4 ⟨⟨v, rfl, hcm⟩, b4⟩
          have B4 := Lib.hid (ext_trans B3.out b4)
          obtain ⟨A1, p1, A2, p2, A3, p3, A4, p4, rfl, u1, u2, u3, u4⟩ := hcm
          have U4 := Lib.hid (And.intro u1 (And.intro u2 (And.intro u3 u4)))
          clear b4 u1 u2 u3 u4
          go_wp2_with fail
          obtain ⟨R1, hR1⟩ : ∃ R1, w4.heap.size = R1 := ⟨_, rfl⟩
          obtain ⟨w5, hw5⟩ : ∃ w5, w4.alloc (.cells #[.string (mk cm.dir), .string (mk cm.target), .bool cm.fold, .bool cm.dots, .bool cm.adopt, .slice A1 cm.ign.length p1, .slice A2 cm.defr.length p2, .slice A3 cm.over.length p3, .slice A4 cm.deals.length p4, .bool cm.sim, .bool cm.quiet] 73) = w5 := ⟨_, rfl⟩
          have B5 : Hid (Below w.heap.size w w5 ∧ w5.heap[R1]? = some (.cells #[.string (mk cm.dir), .string (mk cm.target), .bool cm.fold, .bool cm.dots, .bool cm.adopt, .slice A1 cm.ign.length p1, .slice A2 cm.defr.length p2, .slice A3 cm.over.length p3, .slice A4 cm.deals.length p4, .bool cm.sim, .bool cm.quiet] 73) ∧ Below w4.heap.size w4 w5) := Lib.hid (by rw [← hw5, ← hR1]; exact ⟨B4.out.alloc B4.out.size _, heap_alloc_new _ _, (Below.refl _ _).alloc (Nat.le_refl _) _⟩)
          rw [hw5, hR1]
          clear hw5 hR1
          refine (HR.out w5 B5.out.1).mono ?_
          rintro e w6 ⟨⟨v, rfl, hcm⟩, b6⟩
          have B6 : Hid (Below w.heap.size w w6 ∧ w6.heap[R1]? = some (.cells #[.string (mk cm.dir), .string (mk cm.target), .bool cm.fold, .bool cm.dots, .bool cm.adopt, .slice A1 cm.ign.length p1, .slice A2 cm.defr.length p2, .slice A3 cm.over.length p3, .slice A4 cm.deals.length p4, .bool cm.sim, .bool cm.quiet] 73) ∧ Below w4.heap.size w4 w6) := Lib.hid ⟨ext_trans B5.out.1 b6, (b6.block R1 (Array.getElem?_eq_some_iff.1 B5.out.2.1).1).trans B5.out.2.1, ext_trans B5.out.2.2 b6⟩
          obtain ⟨D1, q1, D2, q2, D3, q3, D4, q4, rfl, u1, u2, u3, u4⟩ := hcm
          have U6 := Lib.hid (And.intro u1 (And.intro u2 (And.intro u3 u4)))
          clear b6 u1 u2 u3 u4
          go_upto_region 11 with (fail)
          obtain ⟨R2, hR2⟩ : ∃ R2, w6.heap.size = R2 := ⟨_, rfl⟩
          obtain ⟨w7, hw7⟩ : ∃ w7, w6.alloc (.cells #[.string (mk cm.dir), .string (mk cm.target), .bool cm.fold, .bool cm.dots, .bool cm.adopt, .slice D1 cm.ign.length q1, .slice D2 cm.defr.length q2, .slice D3 cm.over.length q3, .slice D4 cm.deals.length q4, .bool cm.sim, .bool cm.quiet] 76) = w7 := ⟨_, rfl⟩
          have B7 : Hid (Below w.heap.size w w7 ∧ w7.heap[R1]? = some (.cells #[.string (mk cm.dir), .string (mk cm.target), .bool cm.fold, .bool cm.dots, .bool cm.adopt, .slice A1 cm.ign.length p1, .slice A2 cm.defr.length p2, .slice A3 cm.over.length p3, .slice A4 cm.deals.length p4, .bool cm.sim, .bool cm.quiet] 73) ∧ w7.heap[R2]? = some (.cells #[.string (mk cm.dir), .string (mk cm.target), .bool cm.fold, .bool cm.dots, .bool cm.adopt, .slice D1 cm.ign.length q1, .slice D2 cm.defr.length q2, .slice D3 cm.over.length q3, .slice D4 cm.deals.length q4, .bool cm.sim, .bool cm.quiet] 76)) := Lib.hid (by rw [← hw7, ← hR2]; exact ⟨B6.out.1.alloc B6.out.1.size _, heap_stay B6.out.2.1 _, heap_alloc_new _ _⟩)
          have B7b : Hid (Below w4.heap.size w4 w7 ∧ Below w6.heap.size w6 w7) := Lib.hid (by rw [← hw7]; exact ⟨B6.out.2.2.alloc B6.out.2.2.size _, (Below.refl _ _).alloc (Nat.le_refl _) _⟩)
          have UA : Hid (OptsAt w7 wr.heap.size (.agg #[.string (mk cm.dir), .string (mk cm.target), .bool cm.fold, .bool cm.dots, .bool cm.adopt, .slice A1 cm.ign.length p1, .slice A2 cm.defr.length p2, .slice A3 cm.over.length p3]) cm.dir cm.target cm.fold cm.dots cm.adopt cm.ign cm.defr cm.over ∧ DealsAt w7 wr.heap.size A4 cm.deals) := Lib.hid ⟨opts_of (U4.out.1.below B7b.out.1) (U4.out.2.1.below B7b.out.1) (U4.out.2.2.1.below B7b.out.1), U4.out.2.2.2.below B7b.out.1⟩
          have UD : Hid (OptsAt w7 w5.heap.size (.agg #[.string (mk cm.dir), .string (mk cm.target), .bool cm.fold, .bool cm.dots, .bool cm.adopt, .slice D1 cm.ign.length q1, .slice D2 cm.defr.length q2, .slice D3 cm.over.length q3]) cm.dir cm.target cm.fold cm.dots cm.adopt cm.ign cm.defr cm.over ∧ DealsAt w7 w5.heap.size D4 cm.deals) := Lib.hid ⟨opts_of (U6.out.1.below B7b.out.2) (U6.out.2.1.below B7b.out.2) (U6.out.2.2.1.below B7b.out.2), U6.out.2.2.2.below B7b.out.2⟩
          rw [hw7, hR2]
          clear hw7 hR2
          have x0 := blk_cell B7.out.2.1 0
          have x1 := blk_cell B7.out.2.1 1
          have x2 := blk_cell B7.out.2.1 2
          have x3 := blk_cell B7.out.2.1 3
          have x4 := blk_cell B7.out.2.1 4
          have x5 := blk_cell B7.out.2.1 5
          have x6 := blk_cell B7.out.2.1 6
          have x7 := blk_cell B7.out.2.1 7
          have y0 := blk_cell B7.out.2.2 0
          have y1 := blk_cell B7.out.2.2 1
          have y2 := blk_cell B7.out.2.2 2
          have y3 := blk_cell B7.out.2.2 3
          have y4 := blk_cell B7.out.2.2 4
          have y5 := blk_cell B7.out.2.2 5
          have y6 := blk_cell B7.out.2.2 6
          have y7 := blk_cell B7.out.2.2 7
          simp only [List.getElem?_toArray, List.getElem?_cons_zero, List.getElem?_cons_succ] at x0 y0 x1 y1 x2 y2 x3 y3 x4 y4 x5 y5 x6 y6 x7 y7
          go_wp2_with fail
          refine (same_opts _ _ _ _ cm.dir cm.target cm.fold cm.dots cm.adopt cm.ign cm.defr cm.over w7 UA.out.1 UD.out.1 HBN.out.2.1 HBN.out.2.2.1 HBN.out.2.2.2).mono ?_
          rintro e w8 ⟨rfl, b8⟩
          have B8 : Hid (Below w.heap.size w w8 ∧ w8.heap[R1]? = some (.cells #[.string (mk cm.dir), .string (mk cm.target), .bool cm.fold, .bool cm.dots, .bool cm.adopt, .slice A1 cm.ign.length p1, .slice A2 cm.defr.length p2, .slice A3 cm.over.length p3, .slice A4 cm.deals.length p4, .bool cm.sim, .bool cm.quiet] 73) ∧ w8.heap[R2]? = some (.cells #[.string (mk cm.dir), .string (mk cm.target), .bool cm.fold, .bool cm.dots, .bool cm.adopt, .slice D1 cm.ign.length q1, .slice D2 cm.defr.length q2, .slice D3 cm.over.length q3, .slice D4 cm.deals.length q4, .bool cm.sim, .bool cm.quiet] 76) ∧ Below w7.heap.size w7 w8) := Lib.hid ⟨ext_trans B7.out.1 b8, (b8.block R1 (Array.getElem?_eq_some_iff.1 B7.out.2.1).1).trans B7.out.2.1, (b8.block R2 (Array.getElem?_eq_some_iff.1 B7.out.2.2).1).trans B7.out.2.2, b8⟩
          clear b8 x0 y0 x1 y1 x2 y2 x3 y3 x4 y4 x5 y5 x6 y6 x7 y7
          have x8 := blk_cell B8.out.2.1 8
          have y8 := blk_cell B8.out.2.2.1 8
          simp only [List.getElem?_toArray, List.getElem?_cons_zero, List.getElem?_cons_succ] at x8 y8
          go_wp2_with fail
          refine (same_deals A4 D4 p4 q4 _ _ cm.deals w8 (UA.out.2.below B8.out.2.2.2) (UD.out.2.below B8.out.2.2.2) HBN.out.1).mono ?_
          rintro e w9 ⟨rfl, q, hq⟩
          have B9 : Hid (Below w.heap.size w w9 ∧ w9.heap[R1]? = some (.cells #[.string (mk cm.dir), .string (mk cm.target), .bool cm.fold, .bool cm.dots, .bool cm.adopt, .slice A1 cm.ign.length p1, .slice A2 cm.defr.length p2, .slice A3 cm.over.length p3, .slice A4 cm.deals.length p4, .bool cm.sim, .bool cm.quiet] 73) ∧ w9.heap[R2]? = some (.cells #[.string (mk cm.dir), .string (mk cm.target), .bool cm.fold, .bool cm.dots, .bool cm.adopt, .slice D1 cm.ign.length q1, .slice D2 cm.defr.length q2, .slice D3 cm.over.length q3, .slice D4 cm.deals.length q4, .bool cm.sim, .bool cm.quiet] 76)) := Lib.hid (by rw [hq]; exact ⟨below_drewN B8.out.1 q, B8.out.2.1, B8.out.2.2.1⟩)
          clear hq x8 y8
          have x9 := blk_cell B9.out.2.1 9
          have y9 := blk_cell B9.out.2.2 9
          have x10 := blk_cell B9.out.2.1 10
          have y10 := blk_cell B9.out.2.2 10
          simp only [List.getElem?_toArray, List.getElem?_cons_zero, List.getElem?_cons_succ] at x9 x10 y9 y10
          go_wp2_with fail
          refine (stow_lives w9).mono ?_
          rintro e w10 ⟨rfl, b10⟩
          have B10 := Lib.hid (ext_trans B9.out.1 b10)
          clear b10
          go_wp2_with fail
          go_ret
          exact ⟨rfl, B10.out⟩
end Go.Proofs.Ytmjggjccmbiheaa
