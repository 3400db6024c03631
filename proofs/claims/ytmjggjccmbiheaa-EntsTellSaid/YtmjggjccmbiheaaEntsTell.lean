/- The law's call EntsTell, step by step: the program's entries are the reference's. -/
import Derived.Test.YtmjggjccmbiheaaEntsLaws
import Derived.Test.YtmjggjccmbiheaaNameSorts
namespace Go.Proofs.Ytmjggjccmbiheaa
open Go.RowKit Go.Proofs Go.Sort
attribute [local go_sem] mk_list mk_size mk_data

theorem below_of_drewN {w w' : World} {q : Nat} (h : w' = w.drewN q) : Below w.heap.size w w' := by rw [h]; exact below_drewN (Below.refl _ _) _
theorem giveE_eq (o : Option En) : ∃ (x : Tx) (n : Int) (b : Bool), giveE o = .returned (.tuple #[.agg #[.string (mk x), .int .i64 n], .bool b]) := ⟨_, _, _, rfl⟩
theorem ref_cut_eq (xs : List En) (s : Tx) : ((allE xs).filter fun e => !(e.1 == s)) = cutP xs s := (cutE_eq (rise_allE xs)).symm

set_option maxRecDepth 100000 in
set_option maxHeartbeats 4000000 in
theorem tells (a1 : Option Addr) (c1 : Nat) (xs : List En) (a2 : Option Addr) (c2 : Nat) (ys : List En) (s : Tx) (nd : Int) (w : World) (h1 : EntsAt w a1 xs) (hl1 : xs.length ≤ 9223372036854775807) (h2 : EntsAt w a2 ys) (hl2 : ys.length ≤ 9223372036854775807) :
    Calls Try.prog 8 #[.slice a1 xs.length c1, .slice a2 ys.length c2, .agg #[.string (mk s), .int .i64 nd]] w fun e w' => e = .returned (.bool true) ∧ Below w.heap.size w w' := by
  by_cases h60 : 60 < xs.length ∨ 60 < ys.length
  · obtain ⟨n1, hn1⟩ : ∃ n, xs.length = n := ⟨_, rfl⟩
    obtain ⟨n2, hn2⟩ : ∃ n, ys.length = n := ⟨_, rfl⟩
    rw [hn1, hn2] at h60 ⊢
    rw [hn1] at hl1
    rw [hn2] at hl2
    clear hn1 hn2
    have hA := Lib.hid (show Below w.heap.size w (w.alloc (Obj.cells #[Value.string (mk s), Value.int IntKind.i64 nd] 38)) from (Below.refl _ _).alloc (Nat.le_refl _) _)
    by_cases hx : (60 : Int) < (n1 : Int)
    · go_enter Try.func8, Try.ntmps8
      go_wp2_with (go_at_call 30; refine (ents_lives _).mono ?_; rintro e w' ⟨rfl, hb⟩)
      go_ret
      exact ⟨rfl, ext_trans hA.out hb⟩
    · have hy : (60 : Int) < (n2 : Int) := by omega
      go_enter Try.func8, Try.ntmps8
      go_wp2_with (go_at_call 30; refine (ents_lives _).mono ?_; rintro e w' ⟨rfl, hb⟩)
      go_ret
      exact ⟨rfl, ext_trans hA.out hb⟩
  · have H1 := Lib.hid h1
    have H2 := Lib.hid h2
    obtain ⟨n1, hn1⟩ : ∃ n, xs.length = n := ⟨_, rfl⟩
    obtain ⟨n2, hn2⟩ : ∃ n, ys.length = n := ⟨_, rfl⟩
    have HN := Lib.hid (And.intro hn1 hn2)
    rw [hn1, hn2] at h60 ⊢
    clear hn1 hn2 h1 h2 hl1 hl2
    have hx : ¬ (60 : Int) < (n1 : Int) := by omega
    have hy : ¬ (60 : Int) < (n2 : Int) := by omega
    have h1' : n1 ≤ 60 := by omega
    have h2' : n2 ≤ 60 := by omega
    clear h60
    have HC := box_cells w (s, nd)
    go_enter Try.func8, Try.ntmps8
    go_wp2_with fail
    obtain ⟨W0, hW0⟩ : ∃ W0, w.alloc (Obj.cells #[Value.string (mk s), Value.int IntKind.i64 nd] 38) = W0 := ⟨_, rfl⟩
    rw [hW0] at HC ⊢
    have HE1 := Lib.hid (H1.out.below HC.1)
    have HE2 := Lib.hid (H2.out.below HC.1)
    have HT : Hid (∀ w2, Below W0.heap.size W0 w2 → Below w.heap.size w w2) := Lib.hid fun w2 h => ext_trans HC.1 h
    replace HC := Lib.hid HC.2
    obtain ⟨B, hB⟩ : ∃ B, w.heap.size = B := ⟨_, rfl⟩
    rw [hB] at HC ⊢
    clear hW0 hB H1 H2
    have hf1 := ents_Find a1 c1 xs s W0 HE1.out (by have := HN.out; omega)
    rw [HN.out.1] at hf1
    have hf2 := fun W (hb : Below W0.heap.size W0 W) => ref6_Find a1 c1 xs s W (HE1.out.below hb) (by have := HN.out; omega)
    rw [HN.out.1] at hf2
    generalize findE (allE xs) s = f at hf1 hf2
    obtain ⟨fi, fb⟩ := f
    have HF2 := Lib.hid hf2
    clear hf2
    have hn1 := fun W (hb : Below W0.heap.size W0 W) => ents_Next a1 c1 xs s W (HE1.out.below hb) (by have := HN.out; omega)
    rw [HN.out.1] at hn1
    have hn2 := fun W (hb : Below W0.heap.size W0 W) => ref6_Next a1 c1 xs s W (HE1.out.below hb) (by have := HN.out; omega)
    rw [HN.out.1] at hn2
    obtain ⟨rx, rn, rb, hr⟩ := giveE_eq (nextE (allE xs) s)
    rw [hr] at hn1 hn2
    have HN1 := Lib.hid hn1
    have HN2 := Lib.hid hn2
    have HX : Hid (∀ W, Below W0.heap.size W0 W → W.cell? ⟨B, 0, none⟩ = some (.string (mk s)) ∧ W.cell? ⟨B, 1, none⟩ = some (.int .i64 nd)) := Lib.hid fun W hb => ⟨(hb.cell (p := ⟨B, 0, none⟩) HC.out.1).trans HC.out.2.1, (hb.cell (p := ⟨B, 1, none⟩) HC.out.1).trans HC.out.2.2⟩
    clear hn1 hn2 hr
    have g1 := (HX.out W0 (Below.refl _ _)).1
    go_wp2_with fail
    refine hf1.mono ?_
    rintro e w1 ⟨rfl, bb⟩
    have HB := Lib.hid bb
    clear hf1 bb g1
    have g1 := (HX.out w1 HB.out).1
    go_wp2_with fail
    refine (HF2.out w1 HB.out).mono ?_
    rintro e w2 ⟨rfl, bb⟩
    have HB := Lib.hid (ext_trans HB.out bb)
    clear bb g1
    have g1 := (HX.out w2 HB.out).1
    go_wp2_with fail
    refine (HN1.out w2 HB.out).mono ?_
    rintro e w3 ⟨rfl, bb⟩
    have HB := Lib.hid (ext_trans HB.out bb)
    clear bb g1
    have g1 := (HX.out w3 HB.out).1
    have hA1 : Below W0.heap.size W0 (w3.alloc (Obj.cells #[Value.string (mk rx), Value.int IntKind.i64 rn] 38)) := HB.out.alloc HB.out.size _
    have g1a := (HX.out _ hA1).1
    have HA1 := Lib.hid hA1
    have HC1 := Lib.hid (box_cells w3 (rx, rn))
    clear hA1
    go_wp2_with fail
    obtain ⟨W4, hW4⟩ : ∃ W, w3.alloc (Obj.cells #[Value.string (mk rx), Value.int IntKind.i64 rn] 38) = W := ⟨_, rfl⟩
    rw [hW4] at HA1 HC1 ⊢
    obtain ⟨B1, hB1⟩ : ∃ B, w3.heap.size = B := ⟨_, rfl⟩
    rw [hB1] at HC1 ⊢
    clear hW4 hB1 g1 g1a
    refine (HN2.out W4 HA1.out).mono ?_
    rintro e w5 ⟨rfl, bb⟩
    have HB5 := Lib.hid (ext_trans HA1.out bb)
    have HC5 : Hid (B1 < w5.heap.size ∧ w5.cell? ⟨B1, 0, none⟩ = some (.string (mk rx)) ∧ w5.cell? ⟨B1, 1, none⟩ = some (.int .i64 rn)) := Lib.hid ⟨Nat.lt_of_lt_of_le HC1.out.2.1 bb.size, (bb.cell (p := ⟨B1, 0, none⟩) HC1.out.2.1).trans HC1.out.2.2.1, (bb.cell (p := ⟨B1, 1, none⟩) HC1.out.2.1).trans HC1.out.2.2.2⟩
    clear bb
    have HA6 : Hid (Below W0.heap.size W0 (w5.alloc (Obj.cells #[Value.string (mk rx), Value.int IntKind.i64 rn] 38))) := Lib.hid (HB5.out.alloc HB5.out.size _)
    have HC6 := Lib.hid (box_cells w5 (rx, rn))
    go_wp2_with fail
    obtain ⟨W6, hW6⟩ : ∃ W, w5.alloc (Obj.cells #[Value.string (mk rx), Value.int IntKind.i64 rn] 38) = W := ⟨_, rfl⟩
    rw [hW6] at HA6 HC6 ⊢
    obtain ⟨B2, hB2⟩ : ∃ B, w5.heap.size = B := ⟨_, rfl⟩
    rw [hB2] at ⊢
    have HX6 : Hid (∀ W, Below W6.heap.size W6 W → W.cell? ⟨B, 0, none⟩ = some (.string (mk s)) ∧ W.cell? ⟨B, 1, none⟩ = some (.int .i64 nd) ∧ W.cell? ⟨B1, 0, none⟩ = some (.string (mk rx)) ∧ W.cell? ⟨B1, 1, none⟩ = some (.int .i64 rn) ∧ W.cell? ⟨B2, 0, none⟩ = some (.string (mk rx)) ∧ W.cell? ⟨B2, 1, none⟩ = some (.int .i64 rn)) := Lib.hid fun W hb => by
      have h1 := HX.out W (ext_trans HA6.out hb)
      have l6 := HC6.out.2.1
      have h2 := HC6.out.2.2
      have b56 := HC6.out.1
      rw [hB2] at h2 l6
      have l5 := Nat.lt_of_lt_of_le HC5.out.1 b56.size
      refine ⟨h1.1, h1.2, ?_, ?_, (hb.cell (p := ⟨B2, 0, none⟩) l6).trans h2.1, (hb.cell (p := ⟨B2, 1, none⟩) l6).trans h2.2⟩
      · exact (hb.cell (p := ⟨B1, 0, none⟩) l5).trans ((b56.cell (p := ⟨B1, 0, none⟩) HC5.out.1).trans HC5.out.2.1)
      · exact (hb.cell (p := ⟨B1, 1, none⟩) l5).trans ((b56.cell (p := ⟨B1, 1, none⟩) HC5.out.1).trans HC5.out.2.2)
    have HE61 := Lib.hid (HE1.out.below HA6.out)
    have HE62 := Lib.hid (HE2.out.below HA6.out)
    have HT6 : Hid (∀ w2, Below W6.heap.size W6 w2 → Below w.heap.size w w2) := Lib.hid fun w2 h => HT.out w2 (ext_trans HA6.out h)
    have HL6 : Hid (B < W6.heap.size) := Lib.hid (Nat.lt_of_lt_of_le HC.out.1 HA6.out.size)
    clear hW6 hB2 HC6 HC5 HA6 HB5 HC1 HA1 HX HN1 HN2 HF2 HT HE1 HE2 HC
    have hNm := fun W (hb : Below W6.heap.size W6 W) => ents_Names a1 c1 xs W (HE61.out.below hb) (by have := HN.out; omega)
    have hRg := fun W (hb : Below W6.heap.size W6 W) => ents_Right a1 c1 xs W (HE61.out.below hb) (by have := HN.out; omega)
    have hRr := fun W (hb : Below W6.heap.size W6 W) => ref6_Right a1 c1 xs W (HE61.out.below hb) (by have := HN.out; omega)
    rw [HN.out.1] at hNm hRg hRr
    obtain ⟨NS, hNS⟩ : ∃ NS, (allE xs).map (·.1) = NS := ⟨_, rfl⟩
    have HNS := Lib.hid hNS
    have hNl := allE_le xs
    rw [hNS] at hNm
    have HNM := Lib.hid hNm
    have HNL : Hid (NS.length ≤ 60) := Lib.hid (by rw [← hNS]; have := HN.out; simp; omega)
    clear hNS hNl hNm
    obtain ⟨r, hrr⟩ : ∃ r, rise xs = r := ⟨_, rfl⟩
    have HRR := Lib.hid hrr
    rw [hrr] at hRg hRr
    have HRG := Lib.hid hRg
    have HRF := Lib.hid hRr
    clear hRg hRr hrr
    have hP1 := fun W (hb : Below W6.heap.size W6 W) => ents_Put a1 c1 xs s nd W (HE61.out.below hb) (by have := HN.out; omega)
    have hP2 := fun W (hb : Below W6.heap.size W6 W) => ref6_Put a1 c1 xs s nd W (HE61.out.below hb) (by have := HN.out; omega)
    have hC1 := fun W (hb : Below W6.heap.size W6 W) => ents_Cut a1 c1 xs s W (HE61.out.below hb) (by have := HN.out; omega)
    have hC2 := fun W (hb : Below W6.heap.size W6 W) => ref6_Cut a1 c1 xs s W (HE61.out.below hb) (by have := HN.out; omega)
    have hM1 := fun W (hb : Below W6.heap.size W6 W) => ents_Merge a1 a2 c1 c2 xs ys W (HE61.out.below hb) (HE62.out.below hb) (by have := HN.out; omega) (by have := HN.out; omega)
    have hM2 := fun W (hb : Below W6.heap.size W6 W) => ref6_Merge a1 a2 c1 c2 xs ys W (HE61.out.below hb) (HE62.out.below hb) (by have := HN.out; omega) (by have := HN.out; omega)
    rw [HN.out.1] at hP1 hP2 hC1 hC2
    rw [HN.out.1, HN.out.2] at hM1 hM2
    rw [rputP_eq] at hP2
    rw [ref_cut_eq] at hC2
    have hPl := putP_le xs (s, nd)
    have hCl := cutP_le xs s
    have hMl := mergeP_le xs ys
    generalize putP xs (s, nd) = P at hP1 hP2 hPl
    generalize cutP xs s = C at hC1 hC2 hCl
    generalize mergeP xs ys = M at hM1 hM2 hMl
    have HP1 := Lib.hid hP1
    have HP2 := Lib.hid hP2
    have HC1 := Lib.hid hC1
    have HC2 := Lib.hid hC2
    have HM1 := Lib.hid hM1
    have HM2 := Lib.hid hM2
    have HPL : Hid (P.length ≤ 1000000000000) := Lib.hid (by have := HN.out; omega)
    have HCL : Hid (C.length ≤ 1000000000000) := Lib.hid (by have := HN.out; omega)
    have HML : Hid (M.length ≤ 1000000000000) := Lib.hid (by have := HN.out; omega)
    clear hP1 hP2 hC1 hC2 hM1 hM2 hPl hCl hMl
    go_loopg [16, 15] n1 (fun g i v wx => ∃ k : Nat, k + g = n1 ∧ i = .int .i64 k ∧ Hid (Below W6.heap.size W6 wx) ∧ Hid (OwnS wx W6.heap.size v ((if r then xs.take k else []).map (·.1))) ∧ Hid (r = false → k = 0))
    case atStart => exact ⟨0, by omega, rfl, Lib.hid (Below.refl _ _), Lib.hid (by simpa [OwnS] using World.ownsRow_nil W6 _ 9 1), Lib.hid fun _ => rfl⟩
    case round =>
      obtain ⟨k, hk, rfl, hb6, ho, hk0⟩ := hrel
      cases gk with
      | zero =>
        obtain rfl : n1 = k := by omega
        replace ho : Hid (OwnS wr W6.heap.size u15 NS) := Lib.hid (by
          have h := ho.out
          rw [List.take_of_length_le (by have := HN.out; omega)] at h
          rw [← HNS.out]
          unfold allE
          rw [HRR.out]
          exact h)
        obtain ⟨a5, c5, rfl, k5, _, _⟩ := StrsAt.own ho.out
        have K5 := Lib.hid k5
        clear k5
        obtain ⟨n5, hn5⟩ : ∃ n, NS.length = n := ⟨_, rfl⟩
        have HN5 := Lib.hid hn5
        rw [hn5]
        clear hn5
        have gx := HX6.out wr hb6.out
        have gx1 := gx.2.2.1
        have gx2 := gx.2.2.2.1
        have gx3 := gx.2.2.2.2.1
        have gx4 := gx.2.2.2.2.2
        clear gx
        go_wp2_with fail
        refine (HNM.out wr hb6.out).mono ?_
        rintro e wA ⟨a6, c6, rfl, k6, _, bb⟩
        have K6 := Lib.hid k6
        have K5A := Lib.hid (K5.out.below bb)
        have HBA := Lib.hid (ext_trans hb6.out bb)
        rw [HN5.out]
        clear k6 bb gx1 gx2 gx3 gx4
        have hsm := same_ a6 a5 c6 c5 NS NS wA K6.out K5A.out (by have := HNL.out; omega)
        rw [HN5.out, decide_eq_true rfl] at hsm
        go_wp2_with fail
        refine hsm.mono ?_
        rintro e wB ⟨rfl, q, hq⟩
        have HBB := Lib.hid (show Below W6.heap.size W6 wB by rw [hq]; exact below_drewN HBA.out _)
        clear hq hsm
        go_wp2_with fail
        refine (HRG.out wB HBB.out).mono ?_
        rintro e wC ⟨rfl, q, hq⟩
        have HBC := Lib.hid (show Below W6.heap.size W6 wC by rw [hq]; exact below_drewN HBB.out _)
        clear hq
        go_wp2_with fail
        refine (HRF.out wC HBC.out).mono ?_
        rintro e wD ⟨rfl, q, hq⟩
        have HBD := Lib.hid (show Below W6.heap.size W6 wD by rw [hq]; exact below_drewN HBC.out _)
        clear hq
        go_wp2_with fail
        have g1 := (HX6.out wD HBD.out).1
        have g2 := (HX6.out wD HBD.out).2.1
        have hD := HBD.out
        go_region_held3 (fun w' => w'.cell? ⟨B, 0, none⟩ = some (.string (mk s)) ∧ w'.cell? ⟨B, 1, none⟩ = some (.int .i64 nd) ∧ Below W6.heap.size W6 w')
          (first | exact ⟨g1, g2, below_drewN hD 1⟩ | exact keepS HL6.out HL6.out (by assumption) (by assumption))
          (first
            | (go_at_call 31; refine (HP1.out _ (by first | exact below_drewN hD 1 | exact (by assumption : _ ∧ _ ∧ _).2.2)).mono ?_; rintro e wp1 h; obtain ⟨ap1, cp1, rfl, kp1, bp1⟩ := h.ents; clear h)
            | (go_at_call 46; refine (HP2.out _ (by first | exact below_drewN hD 1 | exact (by assumption : _ ∧ _ ∧ _).2.2)).mono ?_; rintro e wp2 h; obtain ⟨ap2, cp2, rfl, kp2, bp2⟩ := h.ents; clear h)
            | (go_at_call 34; refine (HC1.out _ (by assumption : _ ∧ _ ∧ _).2.2).mono ?_; rintro e wc1 h; obtain ⟨ac1, cc1, rfl, kc1, bc1⟩ := h.ents; clear h)
            | (go_at_call 47; refine (HC2.out _ (by assumption : _ ∧ _ ∧ _).2.2).mono ?_; rintro e wc2 h; obtain ⟨ac2, cc2, rfl, kc2, bc2⟩ := h.ents; clear h)
            | (go_at_call 32; refine (HM1.out _ (by assumption : _ ∧ _ ∧ _).2.2).mono ?_; rintro e wm1 h; obtain ⟨am1, cm1, rfl, km1, bm1⟩ := h.ents; clear h)
            | (go_at_call 48; refine (HM2.out _ (by assumption : _ ∧ _ ∧ _).2.2).mono ?_; rintro e wm2 ⟨am2, cm2, rfl, km2, bm2⟩)
            | (go_at_call 45; refine (same6 _ _ _ _ M M _ (EntsAt.below km1 bm2) km2 HML.out).mono ?_; rintro e ws3 ⟨rfl, q3, hq3⟩; have bs3 := below_of_drewN hq3; clear hq3)
            | (go_at_call 45; refine (same6 _ _ _ _ C C _ (EntsAt.below kc1 bc2) kc2 HCL.out).mono ?_; rintro e ws2 ⟨rfl, q2, hq2⟩; have bs2 := below_of_drewN hq2; clear hq2)
            | (go_at_call 45; refine (same6 _ _ _ _ P P _ (EntsAt.below kp1 bp2) kp2 HPL.out).mono ?_; rintro e ws1 ⟨rfl, q1, hq1⟩; have bs1 := below_of_drewN hq1; clear hq1)
            | (go_at_call 30; refine (ents_lives _).mono ?_; rintro e wl ⟨rfl, bl⟩))
        rename_i hS
        go_wp2_with fail
        go_ret
        exact ⟨rfl, HT6.out _ hS.2.2⟩
      | succ g =>
        have hkn : (k : Int) < (n1 : Int) := by omega
        cases r
        · replace ho : Hid (OwnS wr W6.heap.size u15 NS) := Lib.hid (by
            have h := ho.out
            rw [← HNS.out]
            unfold allE
            rw [HRR.out]
            exact h)
          obtain ⟨a5, c5, rfl, k5, _, _⟩ := StrsAt.own ho.out
          have K5 := Lib.hid k5
          clear k5
          obtain ⟨n5, hn5⟩ : ∃ n, NS.length = n := ⟨_, rfl⟩
          have HN5 := Lib.hid hn5
          rw [hn5]
          clear hn5
          go_wp2_with fail
          refine (HRF.out wr hb6.out).mono ?_
          rintro e wq ⟨rfl, q, hq⟩
          have bq : Below wr.heap.size wr wq := below_of_drewN hq
          replace K5 := Lib.hid (K5.out.below bq)
          replace hb6 := Lib.hid (ext_trans hb6.out bq)
          clear hq bq ho
          have gx := HX6.out wq hb6.out
          have gx1 := gx.2.2.1
          have gx2 := gx.2.2.2.1
          have gx3 := gx.2.2.2.2.1
          have gx4 := gx.2.2.2.2.2
          clear gx
          go_wp2_with fail
          refine (HNM.out wq hb6.out).mono ?_
          rintro e wA ⟨a6, c6, rfl, k6, _, bb⟩
          have K6 := Lib.hid k6
          have K5A := Lib.hid (K5.out.below bb)
          have HBA := Lib.hid (ext_trans hb6.out bb)
          rw [HN5.out]
          clear k6 bb gx1 gx2 gx3 gx4
          have hsm := same_ a6 a5 c6 c5 NS NS wA K6.out K5A.out (by have := HNL.out; omega)
          rw [HN5.out, decide_eq_true rfl] at hsm
          go_wp2_with fail
          refine hsm.mono ?_
          rintro e wB ⟨rfl, q, hq⟩
          have HBB := Lib.hid (show Below W6.heap.size W6 wB by rw [hq]; exact below_drewN HBA.out _)
          clear hq hsm
          go_wp2_with fail
          refine (HRG.out wB HBB.out).mono ?_
          rintro e wC ⟨rfl, q, hq⟩
          have HBC := Lib.hid (show Below W6.heap.size W6 wC by rw [hq]; exact below_drewN HBB.out _)
          clear hq
          go_wp2_with fail
          refine (HRF.out wC HBC.out).mono ?_
          rintro e wD ⟨rfl, q, hq⟩
          have HBD := Lib.hid (show Below W6.heap.size W6 wD by rw [hq]; exact below_drewN HBC.out _)
          clear hq
          go_wp2_with fail
          have g1 := (HX6.out wD HBD.out).1
          have g2 := (HX6.out wD HBD.out).2.1
          have hD := HBD.out
          go_region_held3 (fun w' => w'.cell? ⟨B, 0, none⟩ = some (.string (mk s)) ∧ w'.cell? ⟨B, 1, none⟩ = some (.int .i64 nd) ∧ Below W6.heap.size W6 w')
            (first | exact ⟨g1, g2, below_drewN hD 1⟩ | exact keepS HL6.out HL6.out (by assumption) (by assumption))
            (first
              | (go_at_call 31; refine (HP1.out _ (by first | exact below_drewN hD 1 | exact (by assumption : _ ∧ _ ∧ _).2.2)).mono ?_; rintro e wp1 h; obtain ⟨ap1, cp1, rfl, kp1, bp1⟩ := h.ents; clear h)
              | (go_at_call 46; refine (HP2.out _ (by first | exact below_drewN hD 1 | exact (by assumption : _ ∧ _ ∧ _).2.2)).mono ?_; rintro e wp2 h; obtain ⟨ap2, cp2, rfl, kp2, bp2⟩ := h.ents; clear h)
              | (go_at_call 34; refine (HC1.out _ (by assumption : _ ∧ _ ∧ _).2.2).mono ?_; rintro e wc1 h; obtain ⟨ac1, cc1, rfl, kc1, bc1⟩ := h.ents; clear h)
              | (go_at_call 47; refine (HC2.out _ (by assumption : _ ∧ _ ∧ _).2.2).mono ?_; rintro e wc2 h; obtain ⟨ac2, cc2, rfl, kc2, bc2⟩ := h.ents; clear h)
              | (go_at_call 32; refine (HM1.out _ (by assumption : _ ∧ _ ∧ _).2.2).mono ?_; rintro e wm1 h; obtain ⟨am1, cm1, rfl, km1, bm1⟩ := h.ents; clear h)
              | (go_at_call 48; refine (HM2.out _ (by assumption : _ ∧ _ ∧ _).2.2).mono ?_; rintro e wm2 ⟨am2, cm2, rfl, km2, bm2⟩)
              | (go_at_call 45; refine (same6 _ _ _ _ M M _ (EntsAt.below km1 bm2) km2 HML.out).mono ?_; rintro e ws3 ⟨rfl, q3, hq3⟩; have bs3 := below_of_drewN hq3; clear hq3)
              | (go_at_call 45; refine (same6 _ _ _ _ C C _ (EntsAt.below kc1 bc2) kc2 HCL.out).mono ?_; rintro e ws2 ⟨rfl, q2, hq2⟩; have bs2 := below_of_drewN hq2; clear hq2)
              | (go_at_call 45; refine (same6 _ _ _ _ P P _ (EntsAt.below kp1 bp2) kp2 HPL.out).mono ?_; rintro e ws1 ⟨rfl, q1, hq1⟩; have bs1 := below_of_drewN hq1; clear hq1)
              | (go_at_call 30; refine (ents_lives _).mono ?_; rintro e wl ⟨rfl, bl⟩))
          rename_i hS
          go_wp2_with fail
          go_ret
          exact ⟨rfl, HT6.out _ hS.2.2⟩
        · have hi : k < xs.length := by have := HN.out; omega
          obtain ⟨bb, o1, rfl, l1, e1⟩ := (HE61.out.below hb6.out).cells hi
          have f1 := (e1 k hi).1
          obtain ⟨x, hx1⟩ : ∃ x, xs[k].1 = x := ⟨_, rfl⟩
          rw [hx1] at f1
          have HV := Lib.hid hx1
          have hi0 : (0 : Int) ≤ (k : Int) := by omega
          clear hx1 e1 l1
          go_wp2_with fail
          refine (HRF.out wr hb6.out).mono ?_
          rintro e wq ⟨rfl, q, hq⟩
          have hbq := Lib.hid (show Below W6.heap.size W6 wq by rw [hq]; exact below_drewN hb6.out _)
          have hoq := Lib.hid (show OwnS wq W6.heap.size u15 ((xs.take k).map (·.1)) by rw [hq]; exact own_drewN ho.out _)
          have f2 : wq.cell? ⟨bb, o1 + k * 2, none⟩ = some (.string (mk x)) := by rw [hq]; exact f1
          have HBS := Lib.hid hbq.out.size
          obtain ⟨zs, hzs⟩ : ∃ zs, (xs.take k).map (fun e : En => e.1) = zs := ⟨_, rfl⟩
          have hzl : zs.length = k := by rw [← hzs]; simp; omega
          have HZ := Lib.hid hzs
          rw [hzs] at hoq
          have HZL := Lib.hid hzl
          clear f1 hq hzs hzl ho
          go_wp2_with (at_builtin; refine put_one W6.heap.size rfl _ _ 29 9 _ 1 16 rfl Try.underlying29 info9 rfl (by decide) (by decide) u15 zs.length _ [.string (mk x)] rfl rfl rfl (by simp [Value.oneCell']) hoq.out hbq.out HBS.out (by have := HZL.out; omega) ?_; intro v1 w4 hown1 hb1 hg1)
          go_roundg g
          case measure => omega
          case rel => exact ⟨k + 1, by omega, by go_num, Lib.hid hb1, Lib.hid (by
            show OwnS w4 W6.heap.size v1 ((xs.take (k + 1)).map (·.1))
            rw [List.take_succ_eq_append_getElem hi, List.map_append, HZ.out, List.map_singleton, HV.out]
            unfold OwnS
            rw [List.length_append, List.map_append]
            exact hown1), Lib.hid fun h => by cases h⟩
end Go.Proofs.Ytmjggjccmbiheaa
