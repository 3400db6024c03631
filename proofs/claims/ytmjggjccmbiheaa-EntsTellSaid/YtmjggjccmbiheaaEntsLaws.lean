/- The reference's Merge; what the document's own names answer; the laws' calls on entries: EntsKeep and EntsTell, step by step. -/
import Derived.Test.YtmjggjccmbiheaaEntsPlain
import Derived.Deep.RegionHeld3
namespace Go.Proofs.Ytmjggjccmbiheaa
open Go.RowKit Go.Proofs Go.Sort
attribute [local go_sem] mk_list mk_size mk_data

/-- A slice of these entries is handed back; what was there is as it was. -/
def GivesEnts (xs : List En) (w : World) (e : Ending) (w' : World) : Prop := ∃ a c, e = .returned (.slice a xs.length c) ∧ EntsAt w' a xs ∧ Below w.heap.size w w'
theorem GivesE.ents {xs : List En} {w w' : World} {e : Ending} (h : GivesE xs w e w') : GivesEnts xs w e w' := by
  obtain ⟨v, rfl, ho, hb⟩ := h
  obtain ⟨a, c, rfl, hk, _⟩ := ho.at
  exact ⟨a, c, rfl, hk, hb⟩

set_option maxRecDepth 100000 in
set_option maxHeartbeats 2000000 in
theorem ref6_Merge (a1 a2 : Option Addr) (c1 c2 : Nat) (xs ys : List En) (w : World) (h1 : EntsAt w a1 xs) (h2 : EntsAt w a2 ys) (hl1 : xs.length ≤ 10000000) (hl2 : ys.length ≤ 10000000) :
    Calls Try.prog 48 #[.slice a1 xs.length c1, .slice a2 ys.length c2] w (GivesEnts (mergeP xs ys) w) := by
  have hc1 := fun W hW => ref6_all a1 c1 xs W hW (by omega)
  have hc2 := ref6_all a2 c2 ys w h2 (by omega)
  have hx := Nat.le_trans (allE_le xs) hl1
  have hy := Nat.le_trans (allE_le ys) hl2
  have HP := Lib.hid (show mergeP xs ys = (allE xs).foldl putP (allE ys) from rfl)
  have H1 := Lib.hid h1
  obtain ⟨n1, hn1⟩ : ∃ n, xs.length = n := ⟨_, rfl⟩
  obtain ⟨n2, hn2⟩ : ∃ n, ys.length = n := ⟨_, rfl⟩
  rw [hn1] at hc1 ⊢
  rw [hn2] at hc2 ⊢
  clear hn1 hn2 h2 h1 hl1 hl2
  obtain ⟨P, hP⟩ : ∃ P, mergeP xs ys = P := ⟨_, rfl⟩
  rw [hP] at HP ⊢
  clear hP
  generalize allE xs = us at *
  generalize allE ys = vs at *
  obtain ⟨k1, hk1⟩ : ∃ n, us.length = n := ⟨_, rfl⟩
  obtain ⟨k2, hk2⟩ : ∃ n, vs.length = n := ⟨_, rfl⟩
  have HK := Lib.hid (And.intro hk1 hk2)
  rw [hk1] at hc1 hx
  rw [hk2] at hc2 hy
  clear hk1 hk2
  go_enter Try.func48, Try.ntmps48
  go_wp2_with fail
  refine hc2.mono ?_
  rintro e w1 ⟨a3, c3, rfl, K1, q1, hw1⟩
  have b1 := Lib.hid (show Below w.heap.size w w1 by rw [hw1]; exact below_drewN (Below.refl _ _) _)
  replace K1 := Lib.hid K1
  clear hc2 hw1
  go_wp2_with fail
  refine (hc1 w1 (H1.out.below b1.out)).mono ?_
  rintro e w3 ⟨a4, c4, rfl, K3, q3, hw3⟩
  have bb3 : Below w1.heap.size w1 w3 := by rw [hw3]; exact below_drewN (Below.refl _ _) _
  have b3 := Lib.hid (ext_trans b1.out bb3)
  replace K3 := Lib.hid K3
  replace K1 := Lib.hid (K1.out.below bb3)
  clear hc1 hw3 bb3
  go_wp2_with fail
  go_loopg [6, 5] k1 (fun g i v wx => ∃ k : Nat, k + g = k1 ∧ i = .int .i64 k ∧ Hid (Below w3.heap.size w3 wx) ∧ ∃ a5 c5 zs kz, v = .slice a5 kz c5 ∧ Hid (zs.length = kz ∧ EntsAt wx a5 zs ∧ (us.take k).foldl putP vs = zs))
  case atStart => exact ⟨0, by omega, rfl, Lib.hid (Below.refl _ _), a3, c3, vs, k2, rfl, Lib.hid ⟨HK.out.2, K1.out, rfl⟩⟩
  case round =>
    obtain ⟨k, hk, rfl, hb3, a5, c5, zs, kz, rfl, hz⟩ := hrel
    cases gk with
    | zero =>
      obtain rfl : k1 = k := by omega
      go_wp2
      go_ret
      have h9 := hz.out
      rw [List.take_of_length_le (by have := HK.out; omega), ← HP.out] at h9
      exact ⟨a5, c5, by rw [h9.2.2, h9.1]; rfl, by rw [h9.2.2]; exact h9.2.1, ext_trans b3.out hb3.out⟩
    | succ g =>
      have hi : k < us.length := by have := HK.out; omega
      obtain ⟨bb, o1, rfl, l1, e1⟩ := (K3.out.below hb3.out).cells hi
      have f1 := (e1 k hi).1
      have f2 := (e1 k hi).2
      obtain ⟨x, hx1⟩ : ∃ x, us[k].1 = x := ⟨_, rfl⟩
      obtain ⟨v, hv⟩ : ∃ v, us[k].2 = v := ⟨_, rfl⟩
      rw [hx1] at f1
      rw [hv] at f2
      have HV := Lib.hid (show us[k] = (x, v) by rw [← hx1, ← hv])
      have hi0 : (0 : Int) ≤ (k : Int) := by omega
      have him' : (k : Int) < (k1 : Int) := by omega
      have hp := ref6_Put a5 c5 zs x v wr hz.out.2.1 (by
        have := fold_le (us.take k) vs
        rw [hz.out.2.2] at this
        have := HK.out
        simp at *
        omega)
      rw [hz.out.1, rputP_eq] at hp
      have HPut := Lib.hid hp
      clear hx1 hv e1 l1 hp
      go_wp2_with fail
      refine HPut.out.mono ?_
      rintro e w4 h4
      obtain ⟨a6, c6, rfl, k6, bb4⟩ := h4.ents
      have HW4 := Lib.hid (show Below w3.heap.size w3 w4 ∧ EntsAt w4 a6 (putP zs (x, v)) ∧ (us.take (k + 1)).foldl putP vs = putP zs (x, v) from by
        refine ⟨ext_trans hb3.out bb4, k6, ?_⟩
        rw [List.take_succ_eq_append_getElem hi, List.foldl_append, hz.out.2.2, HV.out]
        rfl)
      obtain ⟨k6, hk6⟩ : ∃ n, (putP zs (x, v)).length = n := ⟨_, rfl⟩
      have HK6 := Lib.hid hk6
      rw [hk6]
      clear h4 bb4 HPut hk6
      go_wp2_with fail
      go_roundg g
      case measure => omega
      case rel => exact ⟨k + 1, by omega, by go_num, Lib.hid HW4.out.1, a6, c6, _, k6, rfl, Lib.hid ⟨HK6.out, HW4.out.2.1, HW4.out.2.2⟩⟩

set_option maxRecDepth 100000 in
set_option maxHeartbeats 2000000 in
theorem ents_lives (w : World) : Calls Try.prog 30 #[] w fun e w' => e = .returned (.bool true) ∧ Below w.heap.size w w' := by
  have h1 := ents_Put none 0 [] [99] 3 w (.inl rfl) (by simp)
  have e1 : putP [] ([99], 3) = [([99], 3)] := by decide
  rw [e1] at h1
  have hc : ∀ c : UInt8, (⟨#[c]⟩ : ByteArray) = mk [c] := fun _ => rfl
  go_enter Try.func30, Try.ntmps30
  simp only [hc]
  go_wp2_with fail
  refine h1.mono ?_
  rintro e w1 h2
  obtain ⟨a1, c1, rfl, k1, b1⟩ := h2.ents
  have K1 := Lib.hid k1
  clear h2 k1 h1
  have h2 := ents_Put a1 c1 [([99], 3)] [97] 1 w1 K1.out (by simp)
  have e2 : putP [([99], 3)] ([97], 1) = [([97], 1), ([99], 3)] := by decide
  rw [e2] at h2
  go_wp2_with fail
  refine h2.mono ?_
  rintro e w2 h3
  obtain ⟨a2, c2, rfl, k2, b2⟩ := h3.ents
  have K2 := Lib.hid k2
  clear h3 k2 h2
  have h3 := ents_Next a2 c2 [([97], 1), ([99], 3)] [98] w2 K2.out (by simp)
  have e3 : giveE (nextE (allE [([97], 1), ([99], 3)]) [98]) = .returned (.tuple #[.agg #[.string (mk [99]), .int .i64 3], .bool true]) := by
    rw [show nextE (allE [([97], 1), ([99], 3)]) [98] = some ([99], 3) by decide]; rfl
  rw [e3] at h3
  go_wp2_with fail
  refine h3.mono ?_
  rintro e w3 ⟨rfl, b3⟩
  clear h3
  have b03 := Lib.hid (ext_trans (ext_trans b1 b2) b3)
  clear b1 b2 b3
  go_wp2_with fail
  go_ret
  exact ⟨rfl, b03.out.alloc b03.out.size _⟩

theorem keepS {w3 W W' : World} {p q : Addr} {u v : Value} (hp : p.block < w3.heap.size) (hq : q.block < w3.heap.size) (h : W.cell? p = some u ∧ W.cell? q = some v ∧ Below w3.heap.size w3 W) (hb : Below W.heap.size W W') :
    W'.cell? p = some u ∧ W'.cell? q = some v ∧ Below w3.heap.size w3 W' := by
  have h1 := Nat.lt_of_lt_of_le hp h.2.2.size
  have h2 := Nat.lt_of_lt_of_le hq h.2.2.size
  exact ⟨(hb.cell h1).trans h.1, (hb.cell h2).trans h.2.1, ext_trans h.2.2 hb⟩

set_option maxRecDepth 100000 in
set_option maxHeartbeats 2000000 in
theorem keeps (a1 : Option Addr) (c1 : Nat) (xs : List En) (a2 : Option Addr) (c2 : Nat) (ys : List En) (s : Tx) (nd : Int) (w : World) (h1 : EntsAt w a1 xs) (hl1 : xs.length ≤ 9223372036854775807) (h2 : EntsAt w a2 ys) (hl2 : ys.length ≤ 9223372036854775807) :
    Calls Try.prog 6 #[.slice a1 xs.length c1, .slice a2 ys.length c2, .agg #[.string (mk s), .int .i64 nd]] w fun e w' => e = .returned (.bool true) ∧ Below w.heap.size w w' := by
  by_cases h60 : 60 < xs.length ∨ 60 < ys.length
  · have hd : (decide (60 < (xs.length : Int)) || decide (60 < (ys.length : Int))) = true := by
      rcases h60 with h | h <;> simp <;> omega
    obtain ⟨n1, hn1⟩ : ∃ n, xs.length = n := ⟨_, rfl⟩
    obtain ⟨n2, hn2⟩ : ∃ n, ys.length = n := ⟨_, rfl⟩
    rw [hn1, hn2] at h60 ⊢
    rw [hn1] at hl1
    rw [hn2] at hl2
    clear hn1 hn2 hd
    have hA := Lib.hid (show Below w.heap.size w (w.alloc (Obj.cells #[Value.string (mk s), Value.int IntKind.i64 nd] 38)) from (Below.refl _ _).alloc (Nat.le_refl _) _)
    by_cases hx : (60 : Int) < (n1 : Int)
    · go_enter Try.func6, Try.ntmps6
      go_wp2_with (go_at_call 30; refine (ents_lives _).mono ?_; rintro e w' ⟨rfl, hb⟩)
      go_ret
      exact ⟨rfl, ext_trans hA.out hb⟩
    · have hy : (60 : Int) < (n2 : Int) := by omega
      go_enter Try.func6, Try.ntmps6
      go_wp2_with (go_at_call 30; refine (ents_lives _).mono ?_; rintro e w' ⟨rfl, hb⟩)
      go_ret
      exact ⟨rfl, ext_trans hA.out hb⟩
  · have H1 := Lib.hid h1
    have H2 := Lib.hid h2
    obtain ⟨n1, hn1⟩ : ∃ n, xs.length = n := ⟨_, rfl⟩
    obtain ⟨n2, hn2⟩ : ∃ n, ys.length = n := ⟨_, rfl⟩
    have HN := Lib.hid (And.intro hn1 hn2)
    rw [hn1, hn2] at h60 ⊢
    clear hn1 hn2 h1 h2 hl1 hl2
    have hx : ¬ (60 : Int) < (n1 : Int) := by omega
    have hy : ¬ (60 : Int) < (n2 : Int) := by omega
    have h1' : n1 ≤ 60 := by omega
    have h2' : n2 ≤ 60 := by omega
    clear h60
    have HC := box_cells w (s, nd)
    go_enter Try.func6, Try.ntmps6
    go_wp2_with fail
    obtain ⟨W0, hW0⟩ : ∃ W0, w.alloc (Obj.cells #[Value.string (mk s), Value.int IntKind.i64 nd] 38) = W0 := ⟨_, rfl⟩
    rw [hW0] at HC ⊢
    have HE1 := Lib.hid (H1.out.below HC.1)
    have HE2 := Lib.hid (H2.out.below HC.1)
    have HT : Hid (∀ w2, Below W0.heap.size W0 w2 → Below w.heap.size w w2) := Lib.hid fun w2 h => ext_trans HC.1 h
    have HS := Lib.hid HC.1.size
    replace HC := Lib.hid HC.2
    obtain ⟨B, hB⟩ : ∃ B, w.heap.size = B := ⟨_, rfl⟩
    rw [hB] at HC HS ⊢
    have hg1 := HC.out.2.1
    have hg2 := HC.out.2.2
    have hM := fun W (hb : Below W0.heap.size W0 W) => ents_Merge a1 a2 c1 c2 xs ys W (HE1.out.below hb) (HE2.out.below hb) (by have := HN.out; omega) (by have := HN.out; omega)
    rw [HN.out.1, HN.out.2] at hM
    obtain ⟨ms, hms⟩ : ∃ ms, mergeP xs ys = ms := ⟨_, rfl⟩
    have hml := mergeP_le xs ys
    rw [hms] at hM hml
    have HML : Hid (ms.length ≤ 120) := Lib.hid (by have := HN.out; omega)
    have HMM := Lib.hid hM
    clear hms hml hM hW0 hB HE1 HE2
    go_region_held3 (fun w' => w'.cell? ⟨B, 0, none⟩ = some (.string (mk s)) ∧ w'.cell? ⟨B, 1, none⟩ = some (.int .i64 nd) ∧ Below W0.heap.size W0 w')
      (first | exact ⟨hg1, hg2, below_drewN (Below.refl _ _) 1⟩ | exact keepS HC.out.1 HC.out.1 (by assumption) (by assumption))
      (first
        | (go_at_call 32; refine (HMM.out _ (by first | exact below_drewN (Below.refl _ _) 1 | exact (by assumption : _ ∧ _ ∧ _).2.2)).mono ?_; rintro e wm h; obtain ⟨am, cm, rfl, km, bm⟩ := h.ents; clear h)
        | (go_at_call 31; refine (ents_Put _ _ ms _ _ _ (by assumption) (by have := HML.out; omega)).mono ?_; rintro e wp h; obtain ⟨ap, cp, rfl, kp, bp⟩ := h.ents; clear h))
    rename_i hS
    have HK := Lib.hid kp
    have HSS := Lib.hid hS
    have hg1 := hS.1
    have hg2 := hS.2.1
    have HR := Lib.hid (rise_putP ms (s, nd))
    have HF := Lib.hid (find_putP ms (s, nd))
    have hpl := putP_le ms (s, nd)
    obtain ⟨l, hl⟩ : ∃ l, putP ms (s, nd) = l := ⟨_, rfl⟩
    rw [hl] at HK HR HF hpl ⊢
    obtain ⟨m, hm⟩ : ∃ m, l.length = m := ⟨_, rfl⟩
    have HL := Lib.hid (And.intro hm (show m ≤ 121 by have := HML.out; omega))
    rw [hm]
    have hF := fun W (hb : Below wp.heap.size wp W) => ents_Find ap cp l s W (HK.out.below hb) (by have := HL.out; omega)
    have hC := fun W (hb : Below wp.heap.size wp W) => ents_Cut ap cp l s W (HK.out.below hb) (by have := HL.out; omega)
    have hR := fun W (hb : Below wp.heap.size wp W) => ents_Right ap cp l W (HK.out.below hb) (by have := HL.out; omega)
    have e1 : findE l s = (nd, true) := HF.out
    rw [allE_of HR.out, e1, HL.out.1] at hF
    rw [HL.out.1] at hC
    rw [HR.out, HL.out.1] at hR
    have HRC := Lib.hid (rise_cutP l s)
    have HFC := Lib.hid (find_cutP l s)
    have hcl := cutP_le l s
    obtain ⟨cs, hcs⟩ : ∃ cs, cutP l s = cs := ⟨_, rfl⟩
    rw [hcs] at hC HRC HFC hcl
    have HCL : Hid (cs.length ≤ 121) := Lib.hid (by have := HL.out; omega)
    have HFF := Lib.hid hF
    have HCC := Lib.hid hC
    have HRR := Lib.hid hR
    have HBP := Lib.hid (HT.out wp HSS.out.2.2)
    have HLT := Lib.hid (Nat.lt_of_lt_of_le HC.out.1 HSS.out.2.2.size)
    clear hl hm hpl kp bp hS km bm HMM hF hC hR hcs hcl e1
    go_wp2_with (go_at_call 33; refine (HFF.out _ (Below.refl _ _)).mono ?_; rintro e wf ⟨rfl, bf⟩)
    have h1 := (bf.cell (p := ⟨B, 0, none⟩) HLT.out).trans hg1
    have h2 := (bf.cell (p := ⟨B, 1, none⟩) HLT.out).trans hg2
    clear hg1 hg2
    go_region_held3 (fun w' => w'.cell? ⟨B, 0, none⟩ = some (.string (mk s)) ∧ w'.cell? ⟨B, 1, none⟩ = some (.int .i64 nd) ∧ Below wp.heap.size wp w')
      (first | exact ⟨h1, h2, below_drewN bf 1⟩ | exact keepS HLT.out HLT.out (by assumption) (by assumption))
      (first
        | (go_at_call 34; refine (HCC.out _ (by first | exact below_drewN bf 1 | exact (by assumption : _ ∧ _ ∧ _).2.2)).mono ?_; rintro e wc h; obtain ⟨ac, cc, rfl, kc, bc⟩ := h.ents; clear h)
        | (go_at_call 33; refine (ents_Find _ _ cs s _ (by assumption) (by have := HCL.out; omega)).mono ?_; rintro e wg ⟨rfl, bg⟩))
    rename_i hS
    rw [allE_of HRC.out, HFC.out]
    have hg1 := hS.1
    have hg2 := hS.2.1
    have HG := Lib.hid hS.2.2
    clear hS kc bc bg bf h1 h2
    go_wp2_with fail
    refine (HRR.out _ HG.out).mono ?_
    rintro e wh ⟨rfl, q, hwh⟩
    have bh : Below wg.heap.size wg wh := by rw [hwh]; exact below_drewN (Below.refl _ _) _
    have hl0 := Nat.lt_of_lt_of_le HLT.out HG.out.size
    have h1 := (bh.cell (p := ⟨B, 0, none⟩) hl0).trans hg1
    have h2 := (bh.cell (p := ⟨B, 1, none⟩) hl0).trans hg2
    have HH := Lib.hid (ext_trans HG.out bh)
    clear hwh hg1 hg2 bh hl0
    go_wp2_with fail
    refine (HCC.out _ HH.out).mono ?_
    rintro e wi h
    obtain ⟨ai, ci, rfl, ki, bi⟩ := h.ents
    have KI := Lib.hid ki
    have hl0 := Nat.lt_of_lt_of_le HLT.out HH.out.size
    have h2 := (bi.cell (p := ⟨B, 1, none⟩) hl0).trans h2
    have HI := Lib.hid (ext_trans HH.out bi)
    clear h ki bi h1 hl0
    go_wp2_with fail
    refine (ents_Right ai ci cs wi KI.out (by have := HCL.out; omega)).mono ?_
    rintro e wj ⟨rfl, q, hwj⟩
    rw [HRC.out]
    have bj : Below wi.heap.size wi wj := by rw [hwj]; exact below_drewN (Below.refl _ _) _
    have hl0 := Nat.lt_of_lt_of_le HLT.out HI.out.size
    have h3 := (bj.cell (p := ⟨B, 1, none⟩) hl0).trans h2
    have HJ := Lib.hid (ext_trans HI.out bj)
    clear hwj bj hl0
    go_wp2_with (go_at_call 30; refine (ents_lives _).mono ?_; rintro e w' ⟨rfl, hb⟩)
    go_ret
    exact ⟨rfl, ext_trans (ext_trans HBP.out HJ.out) hb⟩
end Go.Proofs.Ytmjggjccmbiheaa
