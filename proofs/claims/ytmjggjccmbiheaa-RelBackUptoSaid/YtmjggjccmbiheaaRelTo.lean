/- rel.To, rel.Steps, rel.Same, the law's lives, step by step. -/
import Derived.Test.YtmjggjccmbiheaaRelParts
namespace Go.Proofs.Ytmjggjccmbiheaa
open Go.RowKit Go.Proofs Go.Sort
attribute [local go_sem] mk_list mk_size mk_data

set_option maxHeartbeats 1000000 in
theorem rel_To (dir s : Tx) (w : World) (h1 : dir.length ≤ 1000000000) (h2 : s.length ≤ 1000000000) :
    Calls Try.prog 52 #[.string (mk dir), .string (mk s)] w fun e w' => e = .returned (.string (mk (relS dir s))) ∧ Below w.heap.size w w' := by
  have HP := Lib.hid (rel_parts dir s w h1 h2)
  have HS := Lib.hid (show relS dir s = if relP dir s = [] then [46] else joinS (relP dir s) from rfl)
  have hw := wt_relP dir s
  have hj := joinS_le (relP dir s)
  have hwl : (relP dir s).length ≤ wt (relP dir s) := by
    generalize relP dir s = l
    induction l with
    | nil => simp
    | cons x l ih => have : wt (x :: l) = x.length + 1 + wt l := by simp [wt]
                     rw [List.length_cons, this]; omega
  generalize relS dir s = r at *
  generalize relP dir s = R at *
  obtain ⟨n, hn⟩ : ∃ n, R.length = n := ⟨_, rfl⟩
  have HN := Lib.hid hn
  have HJ : Hid ((joinS R).length ≤ 140737488355328) := Lib.hid (by omega)
  rw [hn] at HP hwl
  have hnl : n ≤ 10000000000 := by omega
  have hk : (⟨#[46]⟩ : ByteArray) = mk [46] := rfl
  have hk2 : (⟨#[47]⟩ : ByteArray) = mk [47] := rfl
  clear hn hw hj hwl
  go_enter Try.func52, Try.ntmps52
  simp only [hk, hk2]
  go_wp2_with fail
  refine HP.out.mono ?_
  rintro e w1 ⟨v1, rfl, o1, b1⟩
  rw [← HN.out] at o1
  obtain ⟨a1, c1, rfl, k1, hc1, _⟩ := StrsAt.own o1
  have B1 := Lib.hid b1
  have HC := Lib.hid (join_slash a1 c1 R w1 k1 (by have := HN.out; omega) hc1 HJ.out)
  rw [HN.out] at HC ⊢
  clear o1 k1 hc1 b1
  cases n with
  | zero =>
    have HX : Hid (r = [46]) := Lib.hid (by rw [HS.out, if_pos (List.eq_nil_of_length_eq_zero HN.out)])
    go_wp2_with fail
    go_ret
    exact ⟨by rw [HX.out]; rfl, B1.out⟩
  | succ n =>
    have HX : Hid (r = joinS R) := Lib.hid (by rw [HS.out, if_neg]; intro h; have := HN.out; rw [h] at this; simp at this)
    go_wp2_with (go_at_call 89; refine HC.out.mono ?_; rintro e w' ⟨rfl, hb⟩)
    go_ret
    exact ⟨by rw [HX.out]; rfl, ext_trans B1.out hb⟩

set_option maxHeartbeats 1000000 in
theorem rel_Steps (dir s : Tx) (w : World) (h1 : dir.length ≤ 1000000000) (h2 : s.length ≤ 1000000000) :
    Calls Try.prog 57 #[.string (mk dir), .string (mk s)] w fun e w' => e = .returned (.int .i64 (relP dir s).length) ∧ Below w.heap.size w w' := by
  have HP := Lib.hid (rel_parts dir s w h1 h2)
  generalize relP dir s = R at *
  obtain ⟨n, hn⟩ : ∃ n, R.length = n := ⟨_, rfl⟩
  have HN := Lib.hid hn
  rw [hn] at HP ⊢
  clear hn
  go_enter Try.func57, Try.ntmps57
  go_wp2_with fail
  refine HP.out.mono ?_
  rintro e w1 ⟨v1, rfl, o1, b1⟩
  rw [← HN.out] at o1
  obtain ⟨a1, c1, rfl, k1, hc1, _⟩ := StrsAt.own o1
  have B1 := Lib.hid b1
  rw [HN.out]
  clear o1 k1 hc1 b1
  go_wp2_with fail
  go_ret
  exact ⟨rfl, B1.out⟩

set_option maxHeartbeats 1000000 in
theorem rel_Same (dir s t : Tx) (w : World) (h1 : dir.length ≤ 1000000000) (h2 : s.length ≤ 1000000000) (h3 : t.length ≤ 1000000000) :
    Calls Try.prog 61 #[.string (mk dir), .string (mk s), .string (mk t)] w fun e w' => e = .returned (.bool (joinD dir s == joinD dir t && wayB s == wayB t)) ∧ Below w.heap.size w w' := by
  have HP := Lib.hid (rel_End dir s w h1 h2)
  have HQ := Lib.hid (fun W => rel_End dir t W h1 h3)
  generalize joinD dir s = x at *
  generalize joinD dir t = y at *
  generalize wayB s = p at *
  generalize wayB t = q at *
  go_enter Try.func61, Try.ntmps61
  go_wp2_with fail
  refine HP.out.mono ?_
  rintro e w1 ⟨rfl, b1⟩
  have B1 := Lib.hid b1
  clear b1
  go_wp2_with fail
  refine (HQ.out w1).mono ?_
  rintro e w2 ⟨rfl, b2⟩
  have B2 := Lib.hid (ext_trans B1.out b2)
  clear b2
  cases hxy : (x == y)
  · go_wp2_with fail
    go_ret
    exact ⟨ret_bool (by rw [hxy]; rfl), B2.out⟩
  · go_wp2_with fail
    go_ret
    exact ⟨ret_bool (by rw [hxy]; rfl), B2.out⟩

theorem relS_lives : relS [47, 97, 47, 98] [47, 97, 47, 99, 47, 100] = [46, 46, 47, 99, 47, 100] := by decide +kernel
theorem relP_lives : (relP [47, 97, 47, 98] [47, 97, 47, 99, 47, 100]).length = 3 := by decide +kernel
set_option maxHeartbeats 1000000 in
theorem rel_lives (w : World) : Calls Try.prog 59 #[] w fun e w' => e = .returned (.bool true) ∧ Below w.heap.size w w' := by
  have HT := Lib.hid (rel_To [47, 97, 47, 98] [47, 97, 47, 99, 47, 100] w (by decide) (by decide))
  have HS := Lib.hid (fun W => rel_Steps [47, 97, 47, 98] [47, 97, 47, 99, 47, 100] W (by decide) (by decide))
  rw [relS_lives] at HT
  rw [relP_lives] at HS
  have e1 : (⟨#[47, 97, 47, 98]⟩ : ByteArray) = mk [47, 97, 47, 98] := rfl
  have e2 : (⟨#[47, 97, 47, 99, 47, 100]⟩ : ByteArray) = mk [47, 97, 47, 99, 47, 100] := rfl
  have e3 : (⟨#[46, 46, 47, 99, 47, 100]⟩ : ByteArray) = mk [46, 46, 47, 99, 47, 100] := rfl
  go_enter Try.func59, Try.ntmps59
  simp only [e1, e2, e3]
  clear e1 e2 e3
  go_wp2_with (go_at_call 52; refine HT.out.mono ?_; rintro e w1 ⟨rfl, b1⟩; have B1 := Lib.hid b1; clear b1)
  refine (HS.out w1).mono ?_
  rintro e w2 ⟨rfl, b2⟩
  have B2 := Lib.hid (ext_trans B1.out b2)
  clear b2
  go_wp2_with fail
  go_ret
  exact ⟨rfl, B2.out⟩
end Go.Proofs.Ytmjggjccmbiheaa
