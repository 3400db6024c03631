/- path.Dir and the reference's, step by step. -/
import Derived.Test.YtmjggjccmbiheaaRelParts
namespace Go.Proofs.Ytmjggjccmbiheaa
open Go.RowKit Go.Proofs Go.Sort
attribute [local go_sem] mk_list mk_size mk_data

def dirS (s : Tx) : Tx := 47 :: joinS (pathP s).dropLast
theorem StrsAt.take {w : World} {a : Option Addr} {xs : List Tx} (h : StrsAt w a xs) (k : Nat) : StrsAt w a (xs.take k) := by
  rcases h with rfl | ⟨b, off, h1, h2, h3⟩
  · exact .inl (by simp)
  · refine .inr ⟨b, off, h1, h2, fun j hj => ?_⟩
    rw [List.length_take] at hj
    rw [h3 j (by omega), List.getElem_take]

set_option maxHeartbeats 1000000 in
theorem path_Dir (s : Tx) (w : World) (h2 : s.length ≤ 1000000000) :
    Calls Try.prog 125 #[.string (mk s)] w fun e w' => e = .returned (.string (mk (dirS s))) ∧ Below w.heap.size w w' := by
  have HC := Lib.hid (path_Clean s w (by omega))
  have e2 : (47 : UInt8) :: joinS (cleanP (partsL s)) = cleanS s := rfl
  rw [e2] at HC
  have l2 : (cleanS s).length ≤ 4000000000 := by rw [cleanS_eq, List.length_cons]; have := joinS_le (pathP s); have := wt_pathP s; omega
  have HP := Lib.hid (fun W => path_Parts (cleanS s) W (by omega))
  rw [partsL_cleanS] at HP
  have HD : Hid (dirS s = 47 :: joinS (pathP s).dropLast) := Lib.hid rfl
  have hpl := pathP_len s
  have hwt := wt_pathP s
  generalize dirS s = d at *
  generalize cleanS s = c at *
  generalize pathP s = B at *
  clear e2 l2
  obtain ⟨n, hn⟩ : ∃ n, B.length = n := ⟨_, rfl⟩
  have HN := Lib.hid hn
  have HJ : Hid ((joinS B.dropLast).length ≤ 1000000001) := Lib.hid (by have := joinS_le B.dropLast; have := wt_dropLast B; omega)
  rw [hn] at hpl
  have hk2 : (⟨#[47]⟩ : ByteArray) = mk [47] := rfl
  clear hn hwt
  go_enter Try.func125, Try.ntmps125
  simp only [hk2]
  go_wp2_with fail
  refine HC.out.mono ?_
  rintro e w1 ⟨rfl, b1⟩
  have B1 := Lib.hid b1
  clear b1
  go_wp2_with fail
  refine (HP.out w1).mono ?_
  rintro e w2 ⟨v, rfl, ho, b2⟩
  obtain ⟨a, cc, rfl, k2, hc2, _⟩ := StrsAt.own ho
  have B2 := Lib.hid (ext_trans B1.out b2)
  have K2 := Lib.hid (k2.take (n - 1))
  have HDL : Hid (B.take (n - 1) = B.dropLast) := Lib.hid (by rw [List.dropLast_eq_take, HN.out])
  rw [HDL.out] at K2
  have hcc : n ≤ cc := by rw [← HN.out]; exact hc2
  have HCC := Lib.hid hcc
  rw [HN.out]
  clear ho b2 k2 hc2
  cases n with
  | zero =>
    have hl0 : Hid (B.dropLast.length = 0) := Lib.hid (by rw [List.length_dropLast, HN.out])
    have HJC := Lib.hid (join_slash a cc B.dropLast w2 K2.out (by rw [hl0.out]; omega) (by rw [hl0.out]; omega) (by have := HJ.out; omega))
    rw [hl0.out] at HJC
    obtain ⟨J, hJ⟩ : ∃ J, joinS B.dropLast = J := ⟨_, rfl⟩
    rw [hJ] at HJC HD HJ
    have ha := mk_append [47] J
    have hs1 : ¬ (9223372036854775807 < 1 + J.length) := by have := HJ.out; omega
    clear hJ
    go_wp2_with (go_at_call 89; refine HJC.out.mono ?_; rintro e w' ⟨rfl, hb⟩)
    go_ret
    exact ⟨by rw [HD.out]; rfl, ext_trans B2.out hb⟩
  | succ n =>
    have hl0 : Hid (B.dropLast.length = n) := Lib.hid (by rw [List.length_dropLast, HN.out]; rfl)
    have HJC := Lib.hid (join_slash a cc B.dropLast w2 K2.out (by rw [hl0.out]; omega) (by rw [hl0.out]; omega) (by have := HJ.out; omega))
    rw [hl0.out] at HJC
    obtain ⟨J, hJ⟩ : ∃ J, joinS B.dropLast = J := ⟨_, rfl⟩
    rw [hJ] at HJC HD HJ
    have ha := mk_append [47] J
    have hs1 : ¬ (9223372036854775807 < 1 + J.length) := by have := HJ.out; omega
    have hm1 : max (n : Int) 0 = (n : Int) := by omega
    have hnc : (n : Int) ≤ (cc : Int) := by omega
    have hn0 : (0 : Int) ≤ (n : Int) := by omega
    clear hJ
    go_wp2_with (go_at_call 89; refine HJC.out.mono ?_; rintro e w' ⟨rfl, hb⟩)
    go_ret
    exact ⟨by rw [HD.out]; rfl, ext_trans B2.out hb⟩

set_option maxHeartbeats 1000000 in
theorem ref_Dir (s : Tx) (w : World) (h2 : s.length ≤ 1000000000) :
    Calls Try.prog 99 #[.string (mk s)] w fun e w' => e = .returned (.string (mk (dirS s))) ∧ Below w.heap.size w w' := by
  have HC := Lib.hid (ref_Clean s w (by omega))
  have e2 : (47 : UInt8) :: joinS (cleanP (partsL s)) = cleanS s := rfl
  rw [e2] at HC
  have l2 : (cleanS s).length ≤ 4000000000 := by rw [cleanS_eq, List.length_cons]; have := joinS_le (pathP s); have := wt_pathP s; omega
  have HP := Lib.hid (fun W => ref_Parts (cleanS s) W (by omega))
  rw [partsL_cleanS] at HP
  have HD : Hid (dirS s = 47 :: joinS (pathP s).dropLast) := Lib.hid rfl
  have hpl := pathP_len s
  have hwt := wt_pathP s
  generalize dirS s = d at *
  generalize cleanS s = c at *
  generalize pathP s = B at *
  clear e2 l2
  obtain ⟨n, hn⟩ : ∃ n, B.length = n := ⟨_, rfl⟩
  have HN := Lib.hid hn
  have HJ : Hid (wt B.dropLast ≤ 1000000001) := Lib.hid (by have := wt_dropLast B; omega)
  rw [hn] at hpl
  have hk2 : (⟨#[47]⟩ : ByteArray) = mk [47] := rfl
  clear hn hwt
  go_enter Try.func99, Try.ntmps99
  simp only [hk2]
  go_wp2_with fail
  refine HC.out.mono ?_
  rintro e w1 ⟨rfl, b1⟩
  have B1 := Lib.hid b1
  clear b1
  go_wp2_with fail
  refine (HP.out w1).mono ?_
  rintro e w2 ⟨a, cc, rfl, k2, hc2, b2⟩
  have B2 := Lib.hid (ext_trans B1.out b2)
  have K2 := Lib.hid (k2.take (n - 1))
  have HDL : Hid (B.take (n - 1) = B.dropLast) := Lib.hid (by rw [List.dropLast_eq_take, HN.out])
  rw [HDL.out] at K2
  have hcc : n ≤ cc := by rw [← HN.out]; exact hc2
  rw [HN.out]
  clear b2 k2 hc2
  cases n with
  | zero =>
    have hX : Hid (d = [47]) := Lib.hid (by rw [HD.out, List.eq_nil_of_length_eq_zero HN.out]; rfl)
    go_wp2_with fail
    go_ret
    exact ⟨by rw [hX.out]; rfl, B2.out⟩
  | succ n =>
    have hl0 : Hid (B.dropLast.length = n) := Lib.hid (by rw [List.length_dropLast, HN.out]; rfl)
    have HJC := Lib.hid (ref_text a cc B.dropLast w2 K2.out (by rw [hl0.out]; omega) (by have := HJ.out; omega))
    rw [hl0.out, ← HD.out] at HJC
    have hnc : (n : Int) ≤ (cc : Int) := by omega
    have hn0 : (0 : Int) ≤ (n : Int) := by omega
    go_wp2_with (go_at_call 94; refine HJC.out.mono ?_; rintro e w' ⟨rfl, hq⟩)
    go_ret
    exact ⟨rfl, ext_trans B2.out (below_alike hq)⟩
end Go.Proofs.Ytmjggjccmbiheaa
