/- The law's calls RelBack and RelTells. -/
import Derived.Test.YtmjggjccmbiheaaRelRef
import Derived.Test.YtmjggjccmbiheaaRefEnd
namespace Go.Proofs.Ytmjggjccmbiheaa
open Go.RowKit Go.Proofs Go.Sort
attribute [local go_sem] mk_list mk_size mk_data

set_option maxRecDepth 100000 in
set_option maxHeartbeats 4000000 in
theorem rel_tells (dir s t : Tx) (w : World) (h1 : dir.length ≤ 10000000) (h2 : s.length ≤ 10000000) (h3 : t.length ≤ 10000000) :
    Calls Try.prog 11 #[.string (mk dir), .string (mk s), .string (mk t)] w fun e w' => e = .returned (.bool true) ∧ Below w.heap.size w w' := by
  have HE := Lib.hid (rel_End dir t w (by omega) (by omega))
  have HF := Lib.hid (fun W => ref_End dir t W (by omega) (by omega))
  have HG := Lib.hid (fun W => ref_End dir s W (by omega) (by omega))
  have HT := Lib.hid (fun W => ref_To dir s W (by omega) (by omega))
  have HU := Lib.hid (fun W => rel_To dir s W (by omega) (by omega))
  have HV := Lib.hid (fun W => rel_Steps dir s W (by omega) (by omega))
  have HS := Lib.hid (fun W => rel_Same dir t s W (by omega) (by omega) (by omega))
  have hrl := relS_len dir s
  have HP := Lib.hid (fun W => ref_Parts (relS dir s) W (by omega))
  have hdot := relS_dot dir s
  rw [partsL_relS] at HP
  generalize joinD dir t = j at *
  generalize joinD dir s = k at *
  generalize relS dir s = r at *
  generalize relP dir s = R at *
  generalize wayB t = p at *
  generalize wayB s = q at *
  have HD := Lib.hid hdot
  clear hdot hrl
  obtain ⟨n, hn⟩ : ∃ n, R.length = n := ⟨_, rfl⟩
  have HN := Lib.hid hn
  rw [hn] at HV
  clear hn
  have k46 : (⟨#[46]⟩ : ByteArray) = mk [46] := rfl
  go_enter Try.func11, Try.ntmps11
  simp only [k46]
  clear k46
  go_wp2_with fail
  refine HE.out.mono ?_
  rintro e w1 ⟨rfl, b1⟩
  have B1 := Lib.hid b1
  clear b1
  go_wp2_with fail
  refine (HF.out w1).mono ?_
  rintro e w2 ⟨rfl, b2⟩
  have B2 := Lib.hid (ext_trans B1.out b2)
  clear b2
  go_wp2_with fail
  refine (HG.out w2).mono ?_
  rintro e w3 ⟨rfl, b3⟩
  have B3 := Lib.hid (ext_trans B2.out b3)
  clear b3
  go_wp2_with fail
  refine (HT.out w3).mono ?_
  rintro e w4 ⟨rfl, b4⟩
  have B4 := Lib.hid (ext_trans B3.out b4)
  clear b4
  have HSV : Hid ((j == k && p == q) = (j == k && p == q)) := Lib.hid rfl
  cases hd : (r == [46])
  · go_wp2_with fail
    refine (HT.out w4).mono ?_
    rintro e w5 ⟨rfl, b5⟩
    have B5 := Lib.hid (ext_trans B4.out b5)
    clear b5
    go_wp2_with fail
    refine (HP.out w5).mono ?_
    rintro e w6 ⟨a6, c6, rfl, _, _, b6⟩
    have B6 := Lib.hid (ext_trans B5.out b6)
    rw [HN.out]
    clear b6
    go_wp2_with fail
    refine (HU.out w6).mono ?_
    rintro e w7 ⟨rfl, b7⟩
    have B7 := Lib.hid (ext_trans B6.out b7)
    clear b7
    go_wp2_with fail
    refine (HT.out w7).mono ?_
    rintro e w8 ⟨rfl, b8⟩
    have B8 := Lib.hid (ext_trans B7.out b8)
    clear b8
    go_wp2_with fail
    refine (HV.out w8).mono ?_
    rintro e w9 ⟨rfl, b9⟩
    have B9 := Lib.hid (ext_trans B8.out b9)
    clear b9
    cases hjk : (j == k)
    all_goals rw [hjk] at HS
    all_goals go_wp2_with fail
    all_goals refine (HS.out w9).mono ?_
    all_goals rintro e w10 ⟨rfl, b10⟩
    all_goals have B10 := Lib.hid (ext_trans B9.out b10)
    all_goals clear b10
    all_goals go_wp2_with (go_at_call 59; refine (rel_lives _).mono ?_; rintro e w11 ⟨rfl, b11⟩; have B11 := Lib.hid (ext_trans B10.out b11); clear b11)
    all_goals go_ret
    all_goals exact ⟨rfl, B11.out⟩
  · have HN0 : Hid (n = 0) := Lib.hid (by rw [← HN.out, HD.out.1 (eq_of_beq hd)]; rfl)
    obtain rfl : n = 0 := HN0.out
    go_wp2_with fail
    refine (HU.out w4).mono ?_
    rintro e w7 ⟨rfl, b7⟩
    have B7 := Lib.hid (ext_trans B4.out b7)
    clear b7
    go_wp2_with fail
    refine (HT.out w7).mono ?_
    rintro e w8 ⟨rfl, b8⟩
    have B8 := Lib.hid (ext_trans B7.out b8)
    clear b8
    go_wp2_with fail
    refine (HV.out w8).mono ?_
    rintro e w9 ⟨rfl, b9⟩
    have B9 := Lib.hid (ext_trans B8.out b9)
    clear b9
    cases hjk : (j == k)
    all_goals rw [hjk] at HS
    all_goals go_wp2_with fail
    all_goals refine (HS.out w9).mono ?_
    all_goals rintro e w10 ⟨rfl, b10⟩
    all_goals have B10 := Lib.hid (ext_trans B9.out b10)
    all_goals clear b10
    all_goals go_wp2_with (go_at_call 59; refine (rel_lives _).mono ?_; rintro e w11 ⟨rfl, b11⟩; have B11 := Lib.hid (ext_trans B10.out b11); clear b11)
    all_goals go_ret
    all_goals exact ⟨rfl, B11.out⟩

set_option maxRecDepth 100000 in
set_option maxHeartbeats 4000000 in
theorem rel_back (dir s t : Tx) (w : World) (h1 : dir.length ≤ 10000000) (h2 : s.length ≤ 10000000) (h3 : t.length ≤ 10000000) :
    Calls Try.prog 10 #[.string (mk dir), .string (mk s), .string (mk t)] w fun e w' => e = .returned (.bool true) ∧ Below w.heap.size w w' := by
  have HU := Lib.hid (rel_To dir s w (by omega) (by omega))
  have hrl := relS_len dir s
  have HE := Lib.hid (fun W => rel_End dir (relS dir s) W (by omega) (by omega))
  rw [rel_ends, wayB_relS] at HE
  have HC := Lib.hid (fun W => ref_Clean s W (by omega))
  have e2 : (47 : UInt8) :: joinS (cleanP (partsL s)) = cleanS s := rfl
  rw [e2] at HC
  have HF := Lib.hid (fun W => ref_End dir t W (by omega) (by omega))
  have HP := Lib.hid (fun W => ref_Parts t W (by omega))
  have HV := Lib.hid (fun W => rel_Steps dir s W (by omega) (by omega))
  have HL := Lib.hid (rel_least dir s t)
  generalize joinD dir t = j at *
  generalize relS dir s = r at *
  generalize relP dir s = R at *
  generalize wayB t = q at *
  generalize cleanS s = c at *
  clear e2 hrl
  obtain ⟨n, hn⟩ : ∃ n, R.length = n := ⟨_, rfl⟩
  have hpl := partsL_len t
  obtain ⟨P, hP⟩ : ∃ P, partsL t = P := ⟨_, rfl⟩
  rw [hP] at HP HL hpl
  obtain ⟨m, hm⟩ : ∃ m, P.length = m := ⟨_, rfl⟩
  have HM := Lib.hid hm
  rw [hn] at HV
  rw [hn, hm] at HL
  clear hn hm hP hpl
  go_enter Try.func10, Try.ntmps10
  go_wp2_with fail
  refine HU.out.mono ?_
  rintro e w1 ⟨rfl, b1⟩
  have B1 := Lib.hid b1
  clear b1
  go_wp2_with fail
  refine (HE.out w1).mono ?_
  rintro e w2 ⟨rfl, b2⟩
  have B2 := Lib.hid (ext_trans B1.out b2)
  clear b2
  go_wp2_with fail
  refine (HC.out w2).mono ?_
  rintro e w3 ⟨rfl, b3⟩
  have B3 := Lib.hid (ext_trans B2.out b3)
  clear b3
  go_wp2_with fail
  refine (HF.out w3).mono ?_
  rintro e w4 ⟨rfl, b4⟩
  have B4 := Lib.hid (ext_trans B3.out b4)
  clear b4
  cases q
  · go_wp2_with (go_at_call 59; refine (rel_lives _).mono ?_; rintro e w11 ⟨rfl, b11⟩; have B11 := Lib.hid (ext_trans B4.out b11); clear b11)
    go_ret
    exact ⟨rfl, B11.out⟩
  · cases hjc : (j == c)
    · go_wp2_with (go_at_call 59; refine (rel_lives _).mono ?_; rintro e w11 ⟨rfl, b11⟩; have B11 := Lib.hid (ext_trans B4.out b11); clear b11)
      go_ret
      exact ⟨rfl, B11.out⟩
    · have hnm : n ≤ m := HL.out rfl (eq_of_beq hjc)
      have hnm2 : decide ((m : Int) < (n : Int)) = false := by simp; omega
      have hnm3 : decide (m < n) = false := by simp; omega
      go_wp2_with fail
      refine (HP.out w4).mono ?_
      rintro e w5 ⟨a5, c5, rfl, _, _, b5⟩
      have B5 := Lib.hid (ext_trans B4.out b5)
      rw [HM.out]
      clear b5
      go_wp2_with fail
      refine (HV.out w5).mono ?_
      rintro e w6 ⟨rfl, b6⟩
      have B6 := Lib.hid (ext_trans B5.out b6)
      clear b6
      go_wp2_with (go_at_call 59; refine (rel_lives _).mono ?_; rintro e w11 ⟨rfl, b11⟩; have B11 := Lib.hid (ext_trans B6.out b11); clear b11)
      go_ret
      exact ⟨rfl, B11.out⟩
end Go.Proofs.Ytmjggjccmbiheaa
