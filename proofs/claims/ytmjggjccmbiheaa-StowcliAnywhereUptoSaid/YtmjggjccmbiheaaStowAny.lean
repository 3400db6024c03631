/- The law's call StowcliAnywhere. -/
import Derived.Test.YtmjggjccmbiheaaStowAnyR
import Derived.Deep.DeepCutAuto
namespace Go.Proofs.Ytmjggjccmbiheaa
open Go Go.RowKit Go.Proofs Go.Sort
attribute [local go_sem] mk_list mk_size mk_data

set_option maxRecDepth 100000 in
set_option maxHeartbeats 40000000 in
theorem stow_any (a1 : Option Addr) (c1 : Nat) (ws : List Tx) (how : Tx) (at_ : Int) (w : World) (hw : StrsAt w a1 ws) (hc : ws.length ≤ c1) (hwt : wt ws ≤ 2000000) (hh : how.length ≤ 2000000) :
    Calls Try.prog 13 #[.slice a1 ws.length c1, .string (mk how), .int .i64 at_] w fun e w' => e = .returned (.bool true) ∧ Below w.heap.size w w' := by
  have HP := Lib.hid (stow_Parse a1 c1 ws w hw hc (by omega))
  have HW := Lib.hid hw
  have HWT := Lib.hid hwt
  have HC1 := Lib.hid hc
  obtain ⟨n, hn⟩ : ∃ n, ws.length = n := ⟨_, rfl⟩
  have HN := Lib.hid hn
  rw [hn] at HP ⊢
  have hnl : n ≤ 2000000 := by have := len_le_wt ws; omega
  obtain ⟨P, hP⟩ : ∃ P, stowS ws = P := ⟨_, rfl⟩
  rw [hP] at HP
  have HPP := Lib.hid hP
  have k1 : (⟨#[45, 45, 115, 105, 109, 117, 108, 97, 116, 101]⟩ : ByteArray) = mk simW := rfl
  have k2 : (⟨#[45, 45, 97, 100, 111, 112, 116]⟩ : ByteArray) = mk adoptW := rfl
  have k3 : (⟨#[45, 45, 100, 111, 116, 102, 105, 108, 101, 115]⟩ : ByteArray) = mk dotsW := rfl
  have k4 : (⟨#[45, 45, 110, 111, 45, 102, 111, 108, 100, 105, 110, 103]⟩ : ByteArray) = mk nofoldW := rfl
  have k5 : (⟨#[45, 113]⟩ : ByteArray) = mk quietW := rfl
  have k6 : (⟨#[45, 45]⟩ : ByteArray) = mk [45, 45] := rfl
  clear hn hP hw hwt hc
  cases P with
  | inr k =>
    by_cases h100 : (100 : Int) < (n : Int)
    all_goals go_enter Try.func13, Try.ntmps13
    all_goals go_wp2_with fail
    all_goals refine HP.out.mono ?_
    all_goals rintro e w1 ⟨rfl, hb⟩
    all_goals have HB1 := Lib.hid hb
    all_goals clear hb
    all_goals unfold zeroCmd
    all_goals go_wp2_with (go_at_call 62; refine (stow_lives _).mono ?_; rintro e w2 ⟨rfl, hb2⟩; have HB2 := Lib.hid hb2; clear hb2)
    all_goals go_ret
    all_goals exact ⟨rfl, below_then (HB1.out.alloc HB1.out.size _) (by have := HB1.out.size; simp; omega) HB2.out⟩
  | inl cm =>
    go_enter Try.func13, Try.ntmps13
    simp only [k1, k2, k3, k4, k5, k6]
    clear k1 k2 k3 k4 k5 k6
    go_wp2_with fail
    refine HP.out.mono ?_
    rintro e w1 ⟨⟨v, rfl, hcm⟩, hb⟩
    have HB1 := Lib.hid hb
    obtain ⟨A1, d1, A2, d2, A3, d3, D, dc, rfl, x1, x2, x3, x4⟩ := hcm
    have HD := Lib.hid x4
    clear hb x1 x2 x3 x4
    go_upto_region 2 with (fail)
    go_cut [49] (fun s49 wx => s49 = .bool (decide (100 < (n : Int)) || !isFlag how) ∧ wx = w1.alloc (.cells #[.string (mk cm.dir), .string (mk cm.target), .bool cm.fold, .bool cm.dots, .bool cm.adopt, .slice A1 cm.ign.length d1, .slice A2 cm.defr.length d2, .slice A3 cm.over.length d3, .slice D cm.deals.length dc, .bool cm.sim, .bool cm.quiet] 73))
    case first =>
      go_wp2_with (fail)
      all_goals try subst_vars
      all_goals go_meet
      all_goals refine ⟨?_, rfl⟩
      all_goals first | (simp [isFlag]; done) | (simp [isFlag, Bool.and_assoc]; done) | (simp [isFlag]; left; assumption)
    case rest =>
      obtain ⟨rfl, rfl⟩ := hcut
      have hz : w1.heap.size < (w1.alloc (.cells #[.string (mk cm.dir), .string (mk cm.target), .bool cm.fold, .bool cm.dots, .bool cm.adopt, .slice A1 cm.ign.length d1, .slice A2 cm.defr.length d2, .slice A3 cm.over.length d3, .slice D cm.deals.length dc, .bool cm.sim, .bool cm.quiet] 73)).heap.size := by simp
      have HB2 : Hid (Below w.heap.size w (w1.alloc (.cells #[.string (mk cm.dir), .string (mk cm.target), .bool cm.fold, .bool cm.dots, .bool cm.adopt, .slice A1 cm.ign.length d1, .slice A2 cm.defr.length d2, .slice A3 cm.over.length d3, .slice D cm.deals.length dc, .bool cm.sim, .bool cm.quiet] 73))) := Lib.hid (HB1.out.alloc HB1.out.size _)
      have c8 : (w1.alloc (.cells #[.string (mk cm.dir), .string (mk cm.target), .bool cm.fold, .bool cm.dots, .bool cm.adopt, .slice A1 cm.ign.length d1, .slice A2 cm.defr.length d2, .slice A3 cm.over.length d3, .slice D cm.deals.length dc, .bool cm.sim, .bool cm.quiet] 73)).cell? ⟨w1.heap.size, 8, none⟩ = some (.slice D cm.deals.length dc) := by simp [World.cell?_alloc_new]
      have HD2 : Hid (DealsAt (w1.alloc (.cells #[.string (mk cm.dir), .string (mk cm.target), .bool cm.fold, .bool cm.dots, .bool cm.adopt, .slice A1 cm.ign.length d1, .slice A2 cm.defr.length d2, .slice A3 cm.over.length d3, .slice D cm.deals.length dc, .bool cm.sim, .bool cm.quiet] 73)) w.heap.size D cm.deals) := Lib.hid (HD.out.below ((Below.refl _ _).alloc (Nat.le_refl _) _))
      obtain ⟨R, hR⟩ : ∃ R, w1.heap.size = R := ⟨_, rfl⟩
      have HC8 := Lib.hid c8
      have HZ := Lib.hid hz
      clear c8 hz HB1 HD
      rw [hR] at HC8 HZ ⊢
      clear hR
      generalize w1.alloc (.cells #[.string (mk cm.dir), .string (mk cm.target), .bool cm.fold, .bool cm.dots, .bool cm.adopt, .slice A1 cm.ign.length d1, .slice A2 cm.defr.length d2, .slice A3 cm.over.length d3, .slice D cm.deals.length dc, .bool cm.sim, .bool cm.quiet] 73) = w2 at *
      by_cases hfl : isFlag how = true
      · by_cases h100 : (100 : Int) < (n : Int)
        · rw [show (decide (100 < (n : Int)) || !isFlag how) = true by simp [h100]]
          go_wp2_with (go_at_call 62; refine (stow_lives _).mono ?_; rintro e w9 ⟨rfl, hb9⟩; have HB9 := Lib.hid hb9; clear hb9)
          go_ret
          exact ⟨rfl, below_then HB2.out HB2.out.size HB9.out⟩
        · rw [show (decide (100 < (n : Int)) || !isFlag how) = false by simp [hfl]; omega]
          obtain ⟨x, hx⟩ := flag_of hfl
          obtain ⟨l, hl, hpl, hdl⟩ := stow_front hx HPP.out
          obtain ⟨C2, hC2⟩ : ∃ C2, cmdT (x :: l) = C2 := ⟨_, rfl⟩
          rw [hC2] at hl hdl
          have HM0 : Hid ((w2.alloc (.cells #[.string (mk how)] 9)).ownsRow w2.heap.size 9 1 (.slice (some ⟨w2.heap.size, 0, none⟩) 1 1) 1 ([how].map fun x => .string (mk x))) := Lib.hid (World.ownsRow_lit w2 #[.string (mk how)] 1 (Nat.le_refl _) (by decide) rfl)
          have HBA : Hid (Below w2.heap.size w2 (w2.alloc (.cells #[.string (mk how)] 9))) := Lib.hid ((Below.refl _ _).alloc (Nat.le_refl _) _)
          have bd1 : (1 + n) * 16 ≤ 140737488355328 := by omega
          obtain ⟨WS, hWS⟩ : ∃ WS, [how] ++ ws = WS := ⟨_, rfl⟩
          have HWS := Lib.hid hWS
          have HWS2 : Hid (how :: ws = WS) := Lib.hid hWS
          have HWT2 : Hid (wt WS ≤ 5000000) := Lib.hid (by rw [← hWS, List.singleton_append, wt_cons]; have := HWT.out; omega)
          rw [HWS2.out] at hl
          have HL := Lib.hid hl
          have HDL := Lib.hid hdl
          have HPL := Lib.hid hpl
          clear hWS hC2 hl hdl hpl
          go_wp2_with (at_builtin; refine wpList_append_strs w2.heap.size rfl _ _ rfl _ 1 n [how] ws rfl _ _ rfl HN.out (HW.out.below (ext_trans HB2.out HBA.out)) HM0.out HBA.out (by simp) bd1 ?_; intro v1 w3 ho1 hb1; rw [HWS.out] at ho1; obtain ⟨a3, c3, rfl, k3, hc3, _⟩ := StrsAt.own ho1; have HB3 := Lib.hid hb1; have HK3 := Lib.hid (And.intro k3 hc3); clear ho1 hb1 k3 hc3)
          have HP2 := Lib.hid (stow_Parse a3 c3 WS w3 HK3.out.1 HK3.out.2 (by have := HWT2.out; omega))
          rw [HL.out] at HP2
          refine HP2.out.mono ?_
          rintro e w4 ⟨⟨v, rfl, hcm⟩, hb⟩
          have HB4 := Lib.hid (ext_trans HB3.out hb)
          obtain ⟨E1, e1, E2, e2, E3, e3, E, ec, rfl, x1, x2, x3, x4⟩ := hcm
          have HX := Lib.hid (And.intro x1 (And.intro x2 (And.intro x3 x4)))
          clear hb x1 x2 x3 x4
          go_wp2_with fail
          have HB5 : Hid (Below w2.heap.size w2 (w4.alloc (.cells #[.string (mk C2.dir), .string (mk C2.target), .bool C2.fold, .bool C2.dots, .bool C2.adopt, .slice E1 C2.ign.length e1, .slice E2 C2.defr.length e2, .slice E3 C2.over.length e3, .slice E C2.deals.length ec, .bool C2.sim, .bool C2.quiet] 73))) := Lib.hid (HB4.out.alloc HB4.out.size _)
          have hal : Below w4.heap.size w4 (w4.alloc (.cells #[.string (mk C2.dir), .string (mk C2.target), .bool C2.fold, .bool C2.dots, .bool C2.adopt, .slice E1 C2.ign.length e1, .slice E2 C2.defr.length e2, .slice E3 C2.over.length e3, .slice E C2.deals.length ec, .bool C2.sim, .bool C2.quiet] 73)) := (Below.refl _ _).alloc (Nat.le_refl _) _
          have HX5 : Hid (AboveAt (w4.alloc (.cells #[.string (mk C2.dir), .string (mk C2.target), .bool C2.fold, .bool C2.dots, .bool C2.adopt, .slice E1 C2.ign.length e1, .slice E2 C2.defr.length e2, .slice E3 C2.over.length e3, .slice E C2.deals.length ec, .bool C2.sim, .bool C2.quiet] 73)) w3.heap.size E1 C2.ign ∧ AboveAt (w4.alloc (.cells #[.string (mk C2.dir), .string (mk C2.target), .bool C2.fold, .bool C2.dots, .bool C2.adopt, .slice E1 C2.ign.length e1, .slice E2 C2.defr.length e2, .slice E3 C2.over.length e3, .slice E C2.deals.length ec, .bool C2.sim, .bool C2.quiet] 73)) w3.heap.size E2 C2.defr ∧ AboveAt (w4.alloc (.cells #[.string (mk C2.dir), .string (mk C2.target), .bool C2.fold, .bool C2.dots, .bool C2.adopt, .slice E1 C2.ign.length e1, .slice E2 C2.defr.length e2, .slice E3 C2.over.length e3, .slice E C2.deals.length ec, .bool C2.sim, .bool C2.quiet] 73)) w3.heap.size E3 C2.over ∧ DealsAt (w4.alloc (.cells #[.string (mk C2.dir), .string (mk C2.target), .bool C2.fold, .bool C2.dots, .bool C2.adopt, .slice E1 C2.ign.length e1, .slice E2 C2.defr.length e2, .slice E3 C2.over.length e3, .slice E C2.deals.length ec, .bool C2.sim, .bool C2.quiet] 73)) w3.heap.size E C2.deals) := Lib.hid ⟨HX.out.1.below hal, HX.out.2.1.below hal, HX.out.2.2.1.below hal, HX.out.2.2.2.below hal⟩
          have HC5 : Hid (((w4.alloc (.cells #[.string (mk C2.dir), .string (mk C2.target), .bool C2.fold, .bool C2.dots, .bool C2.adopt, .slice E1 C2.ign.length e1, .slice E2 C2.defr.length e2, .slice E3 C2.over.length e3, .slice E C2.deals.length ec, .bool C2.sim, .bool C2.quiet] 73)).cell? ⟨w4.heap.size, 0, none⟩ = some (.string (mk C2.dir))) ∧ ((w4.alloc (.cells #[.string (mk C2.dir), .string (mk C2.target), .bool C2.fold, .bool C2.dots, .bool C2.adopt, .slice E1 C2.ign.length e1, .slice E2 C2.defr.length e2, .slice E3 C2.over.length e3, .slice E C2.deals.length ec, .bool C2.sim, .bool C2.quiet] 73)).cell? ⟨w4.heap.size, 1, none⟩ = some (.string (mk C2.target))) ∧ ((w4.alloc (.cells #[.string (mk C2.dir), .string (mk C2.target), .bool C2.fold, .bool C2.dots, .bool C2.adopt, .slice E1 C2.ign.length e1, .slice E2 C2.defr.length e2, .slice E3 C2.over.length e3, .slice E C2.deals.length ec, .bool C2.sim, .bool C2.quiet] 73)).cell? ⟨w4.heap.size, 2, none⟩ = some (.bool C2.fold)) ∧ ((w4.alloc (.cells #[.string (mk C2.dir), .string (mk C2.target), .bool C2.fold, .bool C2.dots, .bool C2.adopt, .slice E1 C2.ign.length e1, .slice E2 C2.defr.length e2, .slice E3 C2.over.length e3, .slice E C2.deals.length ec, .bool C2.sim, .bool C2.quiet] 73)).cell? ⟨w4.heap.size, 3, none⟩ = some (.bool C2.dots)) ∧ ((w4.alloc (.cells #[.string (mk C2.dir), .string (mk C2.target), .bool C2.fold, .bool C2.dots, .bool C2.adopt, .slice E1 C2.ign.length e1, .slice E2 C2.defr.length e2, .slice E3 C2.over.length e3, .slice E C2.deals.length ec, .bool C2.sim, .bool C2.quiet] 73)).cell? ⟨w4.heap.size, 4, none⟩ = some (.bool C2.adopt)) ∧ ((w4.alloc (.cells #[.string (mk C2.dir), .string (mk C2.target), .bool C2.fold, .bool C2.dots, .bool C2.adopt, .slice E1 C2.ign.length e1, .slice E2 C2.defr.length e2, .slice E3 C2.over.length e3, .slice E C2.deals.length ec, .bool C2.sim, .bool C2.quiet] 73)).cell? ⟨w4.heap.size, 5, none⟩ = some (.slice E1 C2.ign.length e1)) ∧ ((w4.alloc (.cells #[.string (mk C2.dir), .string (mk C2.target), .bool C2.fold, .bool C2.dots, .bool C2.adopt, .slice E1 C2.ign.length e1, .slice E2 C2.defr.length e2, .slice E3 C2.over.length e3, .slice E C2.deals.length ec, .bool C2.sim, .bool C2.quiet] 73)).cell? ⟨w4.heap.size, 6, none⟩ = some (.slice E2 C2.defr.length e2)) ∧ ((w4.alloc (.cells #[.string (mk C2.dir), .string (mk C2.target), .bool C2.fold, .bool C2.dots, .bool C2.adopt, .slice E1 C2.ign.length e1, .slice E2 C2.defr.length e2, .slice E3 C2.over.length e3, .slice E C2.deals.length ec, .bool C2.sim, .bool C2.quiet] 73)).cell? ⟨w4.heap.size, 7, none⟩ = some (.slice E3 C2.over.length e3)) ∧ ((w4.alloc (.cells #[.string (mk C2.dir), .string (mk C2.target), .bool C2.fold, .bool C2.dots, .bool C2.adopt, .slice E1 C2.ign.length e1, .slice E2 C2.defr.length e2, .slice E3 C2.over.length e3, .slice E C2.deals.length ec, .bool C2.sim, .bool C2.quiet] 73)).cell? ⟨w4.heap.size, 8, none⟩ = some (.slice E C2.deals.length ec)) ∧ ((w4.alloc (.cells #[.string (mk C2.dir), .string (mk C2.target), .bool C2.fold, .bool C2.dots, .bool C2.adopt, .slice E1 C2.ign.length e1, .slice E2 C2.defr.length e2, .slice E3 C2.over.length e3, .slice E C2.deals.length ec, .bool C2.sim, .bool C2.quiet] 73)).cell? ⟨w4.heap.size, 9, none⟩ = some (.bool C2.sim)) ∧ ((w4.alloc (.cells #[.string (mk C2.dir), .string (mk C2.target), .bool C2.fold, .bool C2.dots, .bool C2.adopt, .slice E1 C2.ign.length e1, .slice E2 C2.defr.length e2, .slice E3 C2.over.length e3, .slice E C2.deals.length ec, .bool C2.sim, .bool C2.quiet] 73)).cell? ⟨w4.heap.size, 10, none⟩ = some (.bool C2.quiet))) := Lib.hid (by simp [World.cell?_alloc_new])
          have HZ5 : Hid (w4.heap.size < (w4.alloc (.cells #[.string (mk C2.dir), .string (mk C2.target), .bool C2.fold, .bool C2.dots, .bool C2.adopt, .slice E1 C2.ign.length e1, .slice E2 C2.defr.length e2, .slice E3 C2.over.length e3, .slice E C2.deals.length ec, .bool C2.sim, .bool C2.quiet] 73)).heap.size) := Lib.hid (by simp)
          obtain ⟨R2, hR2⟩ : ∃ R2, w4.heap.size = R2 := ⟨_, rfl⟩
          rw [hR2] at HC5 HZ5 ⊢
          clear hR2 hal HX HB4
          generalize w4.alloc (.cells #[.string (mk C2.dir), .string (mk C2.target), .bool C2.fold, .bool C2.dots, .bool C2.adopt, .slice E1 C2.ign.length e1, .slice E2 C2.defr.length e2, .slice E3 C2.over.length e3, .slice E C2.deals.length ec, .bool C2.sim, .bool C2.quiet] 73) = w5 at *
          have HBD := Lib.hid (stow_bounds HL.out)
          have HW5 : Hid (Below w.heap.size w w5) := Lib.hid (below_then HB2.out HB2.out.size HB5.out)
          have HD5 : Hid (DealsAt w5 w.heap.size D C2.deals) := Lib.hid (by rw [HDL.out]; exact HD2.out.below HB5.out)
          have HC8' : Hid (w5.cell? ⟨R, 8, none⟩ = some (.slice D C2.deals.length dc)) := Lib.hid (by rw [HDL.out, HB5.out.cell (p := ⟨R, 8, none⟩) HZ.out]; exact HC8.out)
          have hd8 := HC8'.out
          have he8 := HC5.out.2.2.2.2.2.2.2.2.1
          have HSD := Lib.hid (same_deals E D ec dc _ _ C2.deals w5 HX5.out.2.2.2 HD5.out (by have := HBD.out.1; have := HWT2.out; omega))
          clear HC8 HD2 HDL
          go_loopg [13] n (fun g iv wx => ∃ i : Nat, i + g = n ∧ iv = .int .i64 i ∧ Hid (∀ x ∈ ws.take i, plainW x = true) ∧ wx = w5)
          case atStart => exact ⟨0, by omega, rfl, Lib.hid (by simp), rfl⟩
          case round =>
            obtain ⟨i, hi, rfl, hall, rfl⟩ := hrel
            cases gk with
            | succ g =>
              have hiw : i < ws.length := by have := HN.out; omega
              obtain ⟨b, off, rfl, l1', e1'⟩ := (HW.out.below HW5.out).cells hiw
              have f1 := e1' i hiw
              have HT := Lib.hid (List.take_succ_eq_append_getElem hiw)
              obtain ⟨y, hy⟩ : ∃ y, ws[i] = y := ⟨_, rfl⟩
              rw [hy] at f1 HT
              have hiI : (i : Int) < (n : Int) := by omega
              have hi0 : (0 : Int) ≤ (i : Int) := by omega
              clear hy e1' l1'
              obtain ⟨m, hm⟩ : ∃ m, y.length = m := ⟨_, rfl⟩
              have hs : (mk y).size = m := by rw [mk_size]; exact hm
              cases hd : (y == [45, 45])
              · by_cases h1 : 1 < m
                · have hpos : 0 < (mk y).size := by rw [hs]; omega
                  obtain ⟨b0, hb0⟩ : ∃ b0 : Int, (((mk y)[0]'hpos).toNat : Int) = b0 := ⟨_, rfl⟩
                  have hhd := head_dash y hpos b0 hb0
                  have hpos2 : 0 < m := by omega
                  have hI1 : (1 : Int) < (m : Int) := by omega
                  cases hb45 : (b0 == 45)
                  · have HPL2 : Hid (plainW y = true) := Lib.hid (by unfold plainW; rw [hd, hhd, hb45]; simp)
                    clear hhd
                    go_wp2_with fail
                    go_roundg g
                    case measure => omega
                    case rel => exact ⟨i + 1, by omega, by go_num, Lib.hid (by
                      rw [HT.out]
                      intro z hz
                      rcases List.mem_append.1 hz with hz | hz
                      · exact hall.out z hz
                      · rw [List.mem_singleton.1 hz]; exact HPL2.out), rfl⟩
                  · clear hhd
                    go_wp2_with (first | (go_at_call 68; refine HSD.out.mono ?_; rintro e w' ⟨rfl, q, rfl⟩) | (go_at_call 62; refine (stow_lives _).mono ?_; rintro e w' ⟨rfl, hb⟩; have HBF := Lib.hid hb; clear hb))
                    go_ret
                    exact ⟨rfl, below_then (below_drewN HW5.out q) (by have := HW5.out.size; simpa using this) HBF.out⟩
                · have HPL2 : Hid (plainW y = true) := Lib.hid (by unfold plainW; rw [hd, hm]; simp [h1])
                  have hI1 : ¬ ((1 : Int) < (m : Int)) := by omega
                  go_wp2_with fail
                  go_roundg g
                  case measure => omega
                  case rel => exact ⟨i + 1, by omega, by go_num, Lib.hid (by
                    rw [HT.out]
                    intro z hz
                    rcases List.mem_append.1 hz with hz | hz
                    · exact hall.out z hz
                    · rw [List.mem_singleton.1 hz]; exact HPL2.out), rfl⟩
              · go_wp2_with (first | (go_at_call 68; refine HSD.out.mono ?_; rintro e w' ⟨rfl, q, rfl⟩) | (go_at_call 62; refine (stow_lives _).mono ?_; rintro e w' ⟨rfl, hb⟩; have HBF := Lib.hid hb; clear hb))
                go_ret
                exact ⟨rfl, below_then (below_drewN HW5.out q) (by have := HW5.out.size; simpa using this) HBF.out⟩
            | zero =>
              obtain rfl : i = n := by omega
              have HALL : Hid (∀ x ∈ ws, plainW x = true) := Lib.hid (by have := hall.out; rwa [List.take_of_length_le (by have := HN.out; omega)] at this)
              clear hall
              go_upto_region 10 with (fail)
              go_cut [106] (fun s106 wx => s106 = .bool (decide (at_ < 0) || decide ((i : Int) < at_)) ∧ wx = wr)
              case first =>
                go_wp2_with (fail)
                all_goals go_meet
                all_goals refine ⟨?_, rfl⟩
                all_goals first | rfl | (rw [decide_eq_true (p := at_ < 0) (by assumption)]; rfl)
              case rest =>
                obtain ⟨rfl, rfl⟩ := hcut
                go_upto_if 106 with (fail)
                go_cut [2] (fun s2 wx => (∃ k : Nat, k ≤ i ∧ s2 = .int .i64 k) ∧ wx = wc)
                case first =>
                  go_wp2_with (fail)
                  all_goals go_meet
                  all_goals refine ⟨?_, rfl⟩
                  all_goals first | exact ⟨i, Nat.le_refl _, rfl⟩ | exact ⟨at_.toNat, by omega, by rw [Int.toNat_of_nonneg (by omega)]⟩
                case rest =>
                  obtain ⟨⟨k, hk, rfl⟩, rfl⟩ := hcut
                  go_upto_region 12 with (fail)
                  have hk0 : (0 : Int) ≤ (k : Int) := by omega
                  have hki : (k : Int) ≤ (i : Int) := by omega
                  have hic : (i : Int) ≤ (c1 : Int) := by have := HC1.out; have := HN.out; omega
                  have hkc : (k : Int) ≤ (c1 : Int) := by omega
                  have hkn : k ≤ c1 := by omega
                  have HTL : Hid ((ws.take k).length = k) := Lib.hid (by rw [List.length_take]; have := HN.out; omega)
                  have HDLn : Hid ((ws.drop k).length = i - k) := Lib.hid (by rw [List.length_drop]; have := HN.out; omega)
                  have HWC := Lib.hid (HW.out.below HW5.out)
                  have HTA := Lib.hid (strs_take HWC.out k)
                  have HTD := Lib.hid (strs_drop HWC.out k (HC1.out))
                  have bdA : (0 + k) * 16 ≤ 140737488355328 := by omega
                  have bdB : (0 + k + 1) * 16 ≤ 140737488355328 := by omega
                  have bdC : (0 + k + 1 + (i - k)) * 16 ≤ 140737488355328 := by omega
                  obtain ⟨WM, hWM⟩ : ∃ WM, ([] ++ ws.take k) ++ [how] ++ ws.drop k = WM := ⟨_, rfl⟩
                  have HWM := Lib.hid hWM
                  have HLM : Hid (stowS WM = .inl C2) := Lib.hid (by
                    rw [← hWM]
                    have := stow_mid (a := ws.take k) (b := ws.drop k) hx (c := C2) (by rw [List.take_append_drop]; exact HALL.out) (by rw [List.take_append_drop, HWS2.out]; exact HL.out)
                    simpa using this)
                  have HWTM : Hid (wt WM ≤ 5000000) := Lib.hid (by rw [← hWM, List.nil_append, wt_append, wt_append, wt_cons]; have e := wt_append (ws.take k) (ws.drop k); rw [List.take_append_drop] at e; have := HWT.out; have e2 : wt ([] : List Tx) = 0 := rfl; omega)
                  clear hWM
                  have tokA : True := trivial
                  have tokB : True := trivial
                  obtain ⟨wb, hwb⟩ : ∃ wb : World, wb = wc := ⟨_, rfl⟩
                  subst hwb
                  go_cut [14, 15, 16] (fun s14 s15 s16 wx => ∃ z, s14 = .pointer (some ⟨z, 0, none⟩) ∧ s15 = .int .i64 (-1) ∧ s16 = .int .i64 0 ∧ Hid (CmdMem wx z wb.heap.size C2) ∧ Hid (Below wb.heap.size wb wx))
                  case first =>
                    refine wp_region_noPanic ?_
                    refine region_as r12 (by kernel_rfl) ?_
                    refine wp_region_held_drew (S := fun _ => True) (by kernel_rfl) trivial (fun _ => ?_)
                    refine r12_start (n := i) (k := k) (wa := ws.take k) (wb := ws.drop k) (WM := WM) (C := C2) ⟨HTL.out, HDLn.out, HTA.out, HTD.out, bdA, bdB, bdC, HWM.out, HLM.out, HWTM.out⟩ (fun y109 y110 y111 y112 y113 y114 y115 y116 y117 y118 y119 y120 y121 y122 y123 y124 y125 z w9 hq9 hb9 => ?_) hk (by omega)
                    refine Met.intro ?_
                    go_step
                    go_meet
                    exact ⟨z, rfl, rfl, rfl, Lib.hid hq9, Lib.hid hb9⟩
                  case rest =>
                    obtain ⟨z, rfl, rfl, rfl, hq, hbz⟩ := hcut
                    obtain ⟨F1, q1, F2, q2, F3, q3, F, qc, ⟨s0, s1, s2, s3, s4, s5, s6, s7, s8, s9, s10⟩, y1, y2, y3, y4⟩ := hq.out
                    have hR := fun i => hbz.out.cell (p := ⟨R2, i, none⟩) HZ5.out
                    have r0 := (hR 0).trans HC5.out.1
                    have r1 := (hR 1).trans HC5.out.2.1
                    have r2 := (hR 2).trans HC5.out.2.2.1
                    have r3 := (hR 3).trans HC5.out.2.2.2.1
                    have r4 := (hR 4).trans HC5.out.2.2.2.2.1
                    have r5 := (hR 5).trans HC5.out.2.2.2.2.2.1
                    have r6 := (hR 6).trans HC5.out.2.2.2.2.2.2.1
                    have r7 := (hR 7).trans HC5.out.2.2.2.2.2.2.2.1
                    have r8 := (hR 8).trans HC5.out.2.2.2.2.2.2.2.2.1
                    have r9 := (hR 9).trans HC5.out.2.2.2.2.2.2.2.2.2.1
                    have r10 := (hR 10).trans HC5.out.2.2.2.2.2.2.2.2.2.2
                    have hzl : z < wc.heap.size := cell_lt s0
                    have hRl : R2 < wc.heap.size := cell_lt r0
                    have BD := Lib.hid (And.intro HBD.out HWT2.out)
                    have HSO := Lib.hid (same_opts w3.heap.size wb.heap.size (.agg #[.string (mk C2.dir), .string (mk C2.target), .bool C2.fold, .bool C2.dots, .bool C2.adopt, .slice E1 C2.ign.length e1, .slice E2 C2.defr.length e2, .slice E3 C2.over.length e3]) (.agg #[.string (mk C2.dir), .string (mk C2.target), .bool C2.fold, .bool C2.dots, .bool C2.adopt, .slice F1 C2.ign.length q1, .slice F2 C2.defr.length q2, .slice F3 C2.over.length q3]) C2.dir C2.target C2.fold C2.dots C2.adopt C2.ign C2.defr C2.over wc ⟨E1, e1, E2, e2, E3, e3, rfl, HX5.out.1.below hbz.out, HX5.out.2.1.below hbz.out, HX5.out.2.2.1.below hbz.out⟩ ⟨F1, q1, F2, q2, F3, q3, rfl, y1, y2, y3⟩ (by have := BD.out; omega) (by have := BD.out; omega) (by have := BD.out; omega))
                    have HSE := Lib.hid (fun W (hb : Below wc.heap.size wc W) => same_deals E F ec qc _ _ C2.deals W ((HX5.out.2.2.2.below hbz.out).below hb) (y4.below hb) (by have := BD.out; omega))
                    have HBZ := Lib.hid (below_then HW5.out HW5.out.size hbz.out)
                    clear y1 y2 y3 y4 hR hq hbz hd8 he8
                    go_wp2_with fail
                    refine HSO.out.mono ?_
                    rintro e w6 ⟨rfl, hb6⟩
                    have hc6 := keep_cells hb6
                    have HB6 := Lib.hid hb6
                    clear hb6
                    go_wp2_with fail
                    refine (HSE.out _ HB6.out).mono ?_
                    rintro e w7 ⟨rfl, q, rfl⟩
                    go_wp2_with (go_at_call 62; refine (stow_lives _).mono ?_; rintro e w8 ⟨rfl, hb8⟩; have HB8 := Lib.hid hb8; clear hb8)
                    go_ret
                    exact ⟨rfl, below_then (below_drewN (below_then HBZ.out HBZ.out.size HB6.out) q) (by have := HBZ.out.size; have := HB6.out.size; simp; omega) HB8.out⟩
      · rw [show (decide (100 < (n : Int)) || !isFlag how) = true by simp [hfl]]
        go_wp2_with (go_at_call 62; refine (stow_lives _).mono ?_; rintro e w9 ⟨rfl, hb9⟩; have HB9 := Lib.hid hb9; clear hb9)
        go_ret
        exact ⟨rfl, below_then HB2.out HB2.out.size HB9.out⟩
end Go.Proofs.Ytmjggjccmbiheaa
