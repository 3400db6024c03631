/- The reference's Put and Merge over entries, step by step. -/
import Derived.Test.YtmjggjccmbiheabEntsRefPut
namespace Go.Proofs.Ytmjggjccmbiheab
open Go.RowKit Go.Proofs Go.Sort
attribute [local go_sem] mk_list mk_size mk_data

theorem OwnE.drewN {w : World} {base : Nat} {v : Value} {xs : List En} (h : OwnE w base v xs) (q : Nat) : OwnE (w.drewN q) base v xs := h

def ltB (s : Tx) (e : En) : Bool := Op.bytesLess e.1 s
def gtB (s : Tx) (e : En) : Bool := !Op.bytesLess e.1 s && !(e.1 == s)
def rputP (xs : List En) (e : En) : List En :=
  let l := (allE xs).filter fun x => !(x.1 == e.1)
  l.filter (ltB e.1) ++ [e] ++ l.filter (gtB e.1)

set_option maxRecDepth 100000 in
set_option maxHeartbeats 2000000 in
theorem ref6_Put (a : Option Addr) (c : Nat) (xs : List En) (s : Tx) (nd : Int) (w : World) (h : EntsAt w a xs) (hl : xs.length ≤ 100000000) :
    Calls Try.prog 51 #[.slice a xs.length c, .agg #[.string (mk s), .int .i64 nd]] w (GivesE (rputP xs (s, nd)) w) := by
  have h1 := fun W hW => ref6_Cut a c xs s W hW (by omega)
  have hl2 : ((allE xs).filter fun x => !(x.1 == s)).length ≤ 100000000 := Nat.le_trans (List.length_filter_le _ _) (Nat.le_trans (allE_le xs) hl)
  have HH := Lib.hid h
  obtain ⟨P, hP⟩ : ∃ P, rputP xs (s, nd) = P := ⟨_, rfl⟩
  have HP := Lib.hid hP
  unfold rputP at HP
  rw [hP]
  obtain ⟨n, hn⟩ : ∃ n, xs.length = n := ⟨_, rfl⟩
  rw [hn] at h1 ⊢
  clear hn h hl hP
  obtain ⟨ys, hys⟩ : ∃ ys, (allE xs).filter (fun x => !(x.1 == s)) = ys := ⟨_, rfl⟩
  simp only [] at HP
  rw [hys] at h1 hl2 HP
  clear hys
  obtain ⟨m, hm⟩ : ∃ m, ys.length = m := ⟨_, rfl⟩
  have HM := Lib.hid hm
  rw [hm] at hl2
  clear hm
  go_enter Try.func51, Try.ntmps51
  go_wp2_with fail
  have HC := box_cells w (s, nd)
  obtain ⟨W0, hW0⟩ : ∃ W0, w.alloc (Obj.cells #[Value.string (mk s), Value.int IntKind.i64 nd] 40) = W0 := ⟨_, rfl⟩
  simp only [] at HC
  rw [hW0] at HC ⊢
  have HE := Lib.hid (HH.out.below HC.1)
  have HT : Hid (∀ w2, Below W0.heap.size W0 w2 → Below w.heap.size w w2) := Lib.hid fun w2 h => ext_trans HC.1 h
  have HS := Lib.hid HC.1.size
  replace HC := Lib.hid HC.2
  obtain ⟨B, hB⟩ : ∃ B, w.heap.size = B := ⟨_, rfl⟩
  rw [hB] at HC HS ⊢
  have HB := Lib.hid hB
  clear hW0 hB
  refine (h1 W0 HE.out).mono ?_
  rintro e w1 ⟨v1, rfl, o1, bb1⟩
  have b1 := Lib.hid bb1
  obtain ⟨a1, c1, rfl, k1, _⟩ := o1.at
  have K1 := Lib.hid k1
  rw [HM.out]
  clear h1 o1 k1 bb1
  have hC1 : Hid (∀ wx, Below w1.heap.size w1 wx → wx.cell? ⟨B, 0, none⟩ = some (.string (mk s)) ∧ wx.cell? ⟨B, 1, none⟩ = some (.int .i64 nd)) := Lib.hid fun wx hx => by
    have b2 := ext_trans b1.out hx
    exact ⟨(b2.cell (p := ⟨B, 0, none⟩) HC.out.1).trans HC.out.2.1, (b2.cell (p := ⟨B, 1, none⟩) HC.out.1).trans HC.out.2.2⟩
  go_wp2_with fail
  go_loopg [6, 5] m (fun g i v wx => ∃ k : Nat, k + g = m ∧ i = .int .i64 k ∧ Hid (Below w1.heap.size w1 wx) ∧ Hid (OwnE wx w1.heap.size v ((ys.take k).filter (ltB s))))
  case atStart => exact ⟨0, by omega, rfl, Lib.hid (Below.refl _ _), Lib.hid (World.ownsRow_nil w1 _ 40 2)⟩
  case round =>
    obtain ⟨k, hk, rfl, hb3, ho⟩ := hrel
    cases gk with
    | zero =>
      obtain rfl : m = k := by omega
      have ho := Lib.hid (show OwnE wr w1.heap.size u5 (ys.filter (ltB s)) by have := ho.out; rwa [List.take_of_length_le (by have := HM.out; omega)] at this)
      have g1 := (hC1.out wr hb3.out).1
      have g2 := (hC1.out wr hb3.out).2
      have HZL : Hid ((ys.filter (ltB s)).length ≤ m) := Lib.hid (Nat.le_trans (List.length_filter_le _ _) (by have := HM.out; omega))
      have HBS := Lib.hid hb3.out.size
      obtain ⟨zs, hzs⟩ : ∃ zs, ys.filter (ltB s) = zs := ⟨_, rfl⟩
      rw [hzs] at ho HZL HP
      go_wp2_with (at_builtin; refine put_one w1.heap.size rfl _ _ 36 40 _ 2 24 rfl Try.underlying36 info38 rfl (by decide) (by decide) u5 zs.length _ [.string (mk s), .int .i64 nd] rfl rfl rfl (by simp [Value.oneCell']) ho.out hb3.out HBS.out (by have := HZL.out; omega) ?_; intro v2 w2 hown2 hb2 hg2)
      have HW2 := Lib.hid hb2
      have HO2 := Lib.hid (OwnE.put hown2)
      have HZ0 := HZL
      clear hb2 hown2 hg2 g1 g2 hzs ho hb3 HBS HZL
      go_loopg [7, 5] m (fun g i v wx => ∃ j : Nat, j + g = m ∧ i = .int .i64 j ∧ Hid (Below w1.heap.size w1 wx) ∧ Hid (OwnE wx w1.heap.size v (zs ++ [(s, nd)] ++ (ys.take j).filter (gtB s))))
      case atStart => exact ⟨0, by omega, rfl, HW2, Lib.hid (by simpa using HO2.out)⟩
      case round =>
        clear hk
        obtain ⟨k, hk, rfl, hb3, ho⟩ := hrel
        cases gk with
        | zero =>
          obtain rfl : m = k := by omega
          go_wp2_with fail
          go_ret
          refine ⟨_, rfl, ?_, HT.out _ (ext_trans b1.out hb3.out)⟩
          have h9 := ho.out
          rw [List.take_of_length_le (by have := HM.out; omega), HP.out] at h9
          refine h9.mono ?_
          have h8 := b1.out.size
          have h7 := HS.out
          have h6 := HB.out
          omega
        | succ g =>
          have hi : k < ys.length := by have := HM.out; omega
          obtain ⟨bb, o1, rfl, l1, e1⟩ := (K1.out.below hb3.out).cells hi
          have f1 := (e1 k hi).1
          have f2 := (e1 k hi).2
          obtain ⟨x, hx1⟩ : ∃ x, ys[k].1 = x := ⟨_, rfl⟩
          obtain ⟨v, hv⟩ : ∃ v, ys[k].2 = v := ⟨_, rfl⟩
          rw [hx1] at f1
          rw [hv] at f2
          have HV := Lib.hid (show ys[k] = (x, v) by rw [← hx1, ← hv])
          have g1 := (hC1.out wr hb3.out).1
          have hi0 : (0 : Int) ≤ (k : Int) := by omega
          have him' : (k : Int) < (m : Int) := by omega
          have hft := Lib.hid (filter_take (p := gtB s) hi)
          have hzl := List.length_filter_le (gtB s) (ys.take k)
          rw [List.length_take] at hzl
          rw [HV.out] at hft
          obtain ⟨us, hus⟩ : ∃ us, (ys.take k).filter (gtB s) = us := ⟨_, rfl⟩
          rw [hus] at ho hft hzl
          obtain ⟨ts, hts⟩ : ∃ ts, zs ++ [(s, nd)] ++ us = ts := ⟨_, rfl⟩
          have HTS := Lib.hid hts
          rw [hts] at ho
          have HZL : Hid (ts.length ≤ 2 * m + 1) := Lib.hid (by rw [← hts]; have := HM.out; have := HZ0.out; simp; omega)
          have hlt : gtB s (x, v) = (!Op.bytesLess x s && !(x == s)) := rfl
          rw [hlt] at hft
          clear hx1 hv e1 l1 hus hzl hlt hts
          rcases gt_ways x s with ⟨hb, _⟩ | ⟨hb, hb2, _⟩ | ⟨hb, hb2, _⟩
          · rw [hb] at hft
            go_wp2_with fail
            go_quiet (fail)
            go_wp2_with fail
            go_roundg g
            case measure => omega
            case rel => exact ⟨k + 1, by omega, by go_num, Lib.hid (below_drewN hb3.out _), Lib.hid (by rw [hft.out, show (if (!true && !(x == s)) = true then [(x, v)] else []) = [] from rfl, List.append_nil, HTS.out]; exact ho.out.drewN _)⟩
          · rw [hb, hb2] at hft
            go_wp2_with fail
            go_quiet (fail)
            go_wp2_with fail
            go_roundg g
            case measure => omega
            case rel => exact ⟨k + 1, by omega, by go_num, Lib.hid (below_drewN hb3.out _), Lib.hid (by rw [hft.out, show (if (!false && !true) = true then [(x, v)] else []) = [] from rfl, List.append_nil, HTS.out]; exact ho.out.drewN _)⟩
          · rw [hb, hb2] at hft
            go_wp2_with fail
            go_quiet (fail)
            obtain ⟨Wq, hWq⟩ : ∃ Wq, wr.drewN nq = Wq := ⟨_, rfl⟩
            have f1 : Wq.cell? ⟨bb, o1 + k * 2, none⟩ = some (.string (mk x)) := by rw [← hWq]; exact f1
            have f2 : Wq.cell? ⟨bb, o1 + k * 2 + 1, none⟩ = some (.int .i64 v) := by rw [← hWq]; exact f2
            have hb3 := Lib.hid (show Below w1.heap.size w1 Wq by rw [← hWq]; exact below_drewN hb3.out _)
            have ho := Lib.hid (show OwnE Wq w1.heap.size u5 ts by rw [← hWq]; exact own_drewN ho.out _)
            have HBS := Lib.hid hb3.out.size
            rw [hWq]
            clear hWq
            go_wp2_with (at_builtin; refine put_one w1.heap.size rfl _ _ 36 40 _ 2 24 rfl Try.underlying36 info38 rfl (by decide) (by decide) u5 ts.length _ [.string (mk x), .int .i64 v] rfl rfl rfl (by simp [Value.oneCell']) ho.out hb3.out HBS.out (by have := HZL.out; omega) ?_; intro v1 w4 hown1 hb1 hg1)
            go_roundg g
            case measure => omega
            case rel => exact ⟨k + 1, by omega, by go_num, Lib.hid hb1, Lib.hid (by rw [hft.out]; simp only [Bool.not_false, Bool.and_true, if_true]; rw [← List.append_assoc, HTS.out]; exact OwnE.put hown1)⟩
    | succ g =>
      have hi : k < ys.length := by have := HM.out; omega
      obtain ⟨bb, o1, rfl, l1, e1⟩ := (K1.out.below hb3.out).cells hi
      have f1 := (e1 k hi).1
      have f2 := (e1 k hi).2
      obtain ⟨x, hx1⟩ : ∃ x, ys[k].1 = x := ⟨_, rfl⟩
      obtain ⟨v, hv⟩ : ∃ v, ys[k].2 = v := ⟨_, rfl⟩
      rw [hx1] at f1
      rw [hv] at f2
      have HV := Lib.hid (show ys[k] = (x, v) by rw [← hx1, ← hv])
      have g1 := (hC1.out wr hb3.out).1
      have hi0 : (0 : Int) ≤ (k : Int) := by omega
      have him' : (k : Int) < (m : Int) := by omega
      have hft := Lib.hid (filter_take (p := ltB s) hi)
      have hzl := List.length_filter_le (ltB s) (ys.take k)
      rw [List.length_take] at hzl
      rw [HV.out] at hft
      obtain ⟨zs, hzs⟩ : ∃ zs, (ys.take k).filter (ltB s) = zs := ⟨_, rfl⟩
      rw [hzs] at ho hft hzl
      have HZL : Hid (zs.length ≤ m) := Lib.hid (by have := HM.out; omega)
      have hlt : ltB s (x, v) = Op.bytesLess x s := rfl
      rw [hlt] at hft
      clear hx1 hv e1 l1 hzs hzl hlt
      cases hb : Op.bytesLess x s
      · rw [hb] at hft
        go_wp2_with fail
        go_quiet (fail)
        go_wp2_with fail
        go_roundg g
        case measure => omega
        case rel => exact ⟨k + 1, by omega, by go_num, Lib.hid (below_drewN hb3.out _), Lib.hid (by rw [hft.out]; simp only [Bool.false_eq_true, if_false, List.append_nil]; exact ho.out.drewN _)⟩
      · rw [hb] at hft
        go_wp2_with fail
        go_quiet (fail)
        obtain ⟨Wq, hWq⟩ : ∃ Wq, wr.drewN nq = Wq := ⟨_, rfl⟩
        have f1 : Wq.cell? ⟨bb, o1 + k * 2, none⟩ = some (.string (mk x)) := by rw [← hWq]; exact f1
        have f2 : Wq.cell? ⟨bb, o1 + k * 2 + 1, none⟩ = some (.int .i64 v) := by rw [← hWq]; exact f2
        have hb3 := Lib.hid (show Below w1.heap.size w1 Wq by rw [← hWq]; exact below_drewN hb3.out _)
        have ho := Lib.hid (show OwnE Wq w1.heap.size u5 zs by rw [← hWq]; exact own_drewN ho.out _)
        have HBS := Lib.hid hb3.out.size
        rw [hWq]
        clear hWq
        go_wp2_with (at_builtin; refine put_one w1.heap.size rfl _ _ 36 40 _ 2 24 rfl Try.underlying36 info38 rfl (by decide) (by decide) u5 zs.length _ [.string (mk x), .int .i64 v] rfl rfl rfl (by simp [Value.oneCell']) ho.out hb3.out HBS.out (by have := HZL.out; omega) ?_; intro v1 w4 hown1 hb1 hg1)
        go_roundg g
        case measure => omega
        case rel => exact ⟨k + 1, by omega, by go_num, Lib.hid hb1, Lib.hid (by rw [hft.out]; exact OwnE.put hown1)⟩

def rmergeP (a b : List En) : List En := (allE a).foldl rputP (allE b)
theorem rputP_le (xs : List En) (e : En) : (rputP xs e).length ≤ 2 * xs.length + 1 := by
  have h0 := allE_le xs
  have h1 := List.length_filter_le (fun x : En => !(x.1 == e.1)) (allE xs)
  have h2 := List.length_filter_le (ltB e.1) ((allE xs).filter fun x => !(x.1 == e.1))
  have h3 := List.length_filter_le (gtB e.1) ((allE xs).filter fun x => !(x.1 == e.1))
  unfold rputP
  simp only [List.length_append, List.length_singleton]
  omega
end Go.Proofs.Ytmjggjccmbiheab
