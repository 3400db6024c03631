/- The reference's To, step by step. -/
import Derived.Test.YtmjggjccmbiheaaRelTo
namespace Go.Proofs.Ytmjggjccmbiheaa
open Go.RowKit Go.Proofs Go.Sort
attribute [local go_sem] mk_list mk_size mk_data

theorem wt_at {ps : List Tx} {k : Nat} (h : k < ps.length) : ps[k].length ≤ wt ps := by
  have h1 := List.take_append_drop k ps
  rw [List.drop_eq_getElem_cons h] at h1
  have h2 := congrArg wt h1
  rw [wt_append] at h2
  have h3 : ∀ (a : Tx) (b : List Tx), wt (a :: b) = a.length + 1 + wt b := fun a b => by simp [wt]
  rw [h3] at h2
  omega
theorem textP_ups (k : Nat) : (textP (List.replicate k ([46, 46] : Tx))).length = 3 * k := by
  unfold textP
  have h : ∀ (k : Nat) (s : Tx), ((List.replicate k ([46, 46] : Tx)).foldl (fun s p => s ++ ([47] ++ p)) s).length = s.length + 3 * k := by
    intro k
    induction k with
    | zero => intro s; simp
    | succ k ih => intro s; rw [List.replicate_succ, List.foldl_cons, ih]; simp; omega
  rw [h]; simp
theorem textP_more (xs ys : List Tx) : textP (xs ++ ys) = ys.foldl (fun s p => s ++ ([47] ++ p)) (textP xs) := by unfold textP; rw [List.foldl_append]

set_option maxRecDepth 100000 in
set_option maxHeartbeats 4000000 in
theorem ref_To (dir s : Tx) (w : World) (h1 : dir.length ≤ 1000000000) (h2 : s.length ≤ 1000000000) :
    Calls Try.prog 60 #[.string (mk dir), .string (mk s)] w fun e w' => e = .returned (.string (mk (relS dir s))) ∧ Below w.heap.size w w' := by
  have HC1 := Lib.hid (ref_Clean dir w (by omega))
  have e1 : (47 : UInt8) :: joinS (cleanP (partsL dir)) = cleanS dir := rfl
  rw [e1] at HC1
  have HC2 := Lib.hid (fun W => ref_Clean s W (by omega))
  have e2 : (47 : UInt8) :: joinS (cleanP (partsL s)) = cleanS s := rfl
  rw [e2] at HC2
  have l1 : (cleanS dir).length ≤ 4000000000 := by rw [cleanS_eq, List.length_cons]; have := joinS_le (pathP dir); have := wt_pathP dir; omega
  have l2 : (cleanS s).length ≤ 4000000000 := by rw [cleanS_eq, List.length_cons]; have := joinS_le (pathP s); have := wt_pathP s; omega
  have HP1 := Lib.hid (fun W => ref_Parts (cleanS dir) W (by omega))
  have HP2 := Lib.hid (fun W => ref_Parts (cleanS s) W (by omega))
  rw [partsL_cleanS] at HP1 HP2
  have hpl1 := pathP_len dir
  have hpl2 := pathP_len s
  have hcm := common_le (pathP dir) (pathP s)
  have hwB := wt_pathP s
  have HS : Hid (relS dir s = if relP dir s = [] then [46] else joinS (relP dir s)) := Lib.hid rfl
  have HR : Hid (relP dir s = List.replicate ((pathP dir).length - common (pathP dir) (pathP s)) [46, 46] ++ (pathP s).drop (common (pathP dir) (pathP s))) := Lib.hid rfl
  obtain ⟨A, hA⟩ : ∃ A, pathP dir = A := ⟨_, rfl⟩
  obtain ⟨B, hB⟩ : ∃ B, pathP s = B := ⟨_, rfl⟩
  obtain ⟨R, hR⟩ : ∃ R, relP dir s = R := ⟨_, rfl⟩
  obtain ⟨r, hr⟩ : ∃ r, relS dir s = r := ⟨_, rfl⟩
  rw [hA, hB] at hcm HR
  rw [hA] at HP1 hpl1
  rw [hB] at HP2 hpl2 hwB
  rw [hR] at HR HS
  rw [hr] at HS ⊢
  generalize cleanS dir = d at *
  generalize cleanS s = t at *
  clear hA hB hR hr e1 e2
  obtain ⟨n, hn⟩ : ∃ n, A.length = n := ⟨_, rfl⟩
  obtain ⟨p, hp⟩ : ∃ p, B.length = p := ⟨_, rfl⟩
  obtain ⟨m, hm⟩ : ∃ m, min n p = m := ⟨_, rfl⟩
  have HN := Lib.hid (And.intro hn hp)
  rw [hn, hp] at hcm
  rw [hn] at HR hpl1
  rw [hp] at hpl2
  have hnl : n ≤ 1000000001 := by omega
  have hpl : p ≤ 1000000001 := by omega
  have hmn : m ≤ n := by omega
  have hmp : m ≤ p := by omega
  have HM : Hid (m = n ∨ m = p) := Lib.hid (by omega)
  have HWB : Hid (wt B ≤ 1000000001) := Lib.hid (by omega)
  clear hn hp hm l1 l2 hpl1 hpl2 h1 h2 hwB
  have k46 : (⟨#[46]⟩ : ByteArray) = mk [46] := rfl
  have k47 : (⟨#[47]⟩ : ByteArray) = mk [47] := rfl
  have k0 : (⟨#[47, 46, 46]⟩ : ByteArray) = mk [47, 46, 46] := rfl
  have kE : (⟨#[]⟩ : ByteArray) = mk [] := rfl
  go_enter Try.func60, Try.ntmps60
  simp only [k46, k47, k0]
  go_wp2_with fail
  refine HC1.out.mono ?_
  rintro e w1 ⟨rfl, b1⟩
  have B1 := Lib.hid b1
  clear b1
  go_wp2_with fail
  refine (HP1.out w1).mono ?_
  rintro e w2 ⟨a1, c1, rfl, k1, _, b2⟩
  have B2 := Lib.hid (ext_trans B1.out b2)
  have K1 := Lib.hid k1
  rw [HN.out.1]
  clear b2 k1
  go_wp2_with fail
  refine (HC2.out w2).mono ?_
  rintro e w3 ⟨rfl, b3⟩
  have B3 := Lib.hid (And.intro (ext_trans B2.out b3) (K1.out.below b3))
  clear b3
  go_wp2_with fail
  refine (HP2.out w3).mono ?_
  rintro e w4 ⟨a2, c2, rfl, k2, _, b4⟩
  have B4 := Lib.hid (And.intro (ext_trans B3.out.1 b4) (B3.out.2.below b4))
  have K2 := Lib.hid k2
  rw [HN.out.2]
  clear b4 k2
  go_wp2_with fail
  go_loopg [7] m (fun g i wx => ∃ k : Nat, k + g = m ∧ i = .int .i64 k ∧ Hid (A.take k = B.take k) ∧ ∃ q, wx = w4.drewN q)
  case atStart => exact ⟨0, by omega, rfl, Lib.hid rfl, 0, rfl⟩
  case round =>
    obtain ⟨k, hk, rfl, hp, q, rfl⟩ := hrel
    obtain ⟨W, hW⟩ : ∃ W, w4.drewN q = W := ⟨_, rfl⟩
    have HW := Lib.hid hW
    have HG : Hid (∀ N, Below w.heap.size w (W.drewN N) ∧ StrsAt (W.drewN N) a2 B) := Lib.hid (fun N => by
      rw [← hW]
      exact ⟨below_drewN (below_drewN B4.out.1 _) _, (K2.out.drewN _).drewN _⟩)
    have HK1 := B4.out.2.drewN q
    have HK2 := K2.out.drewN q
    rw [hW] at HK1 HK2 ⊢
    clear hW
    have hi0 : (0 : Int) ≤ (k : Int) := by omega
    cases gk with
    | zero =>
      obtain rfl : k = m := by omega
      have HE : Hid (common A B = k) := Lib.hid (common_of k A B (by have := HN.out; omega) (by have := HN.out; omega) hp.out (fun u v => by have := HN.out; have := HM.out; omega))
      clear HK1 HK2
      by_cases hkn : k < n
      · have hkn2 : (k : Int) < (n : Int) := by omega
        have hkp2 : decide ((k : Int) < (p : Int)) = false := by have := HM.out; simp; omega
        have hkp3 : decide (k < p) = false := by have := HM.out; simp; omega
        go_wp2_with fail
        go_quiet (fail)
        have HB := Lib.hid (HG.out nq)
        generalize W.drewN nq = W2 at HB ⊢
        have HR2 : Hid (R = List.replicate (n - k) [46, 46] ++ B.drop k) := Lib.hid (by rw [HR.out, HE.out])
        obtain ⟨m2, hm2⟩ : ∃ m2, n = k + m2 := ⟨n - k, by omega⟩
        obtain ⟨p2, hp2⟩ : ∃ p2, p = k + p2 := ⟨p - k, by omega⟩
        have HM2 := Lib.hid (And.intro hm2 hp2)
        clear hm2 hp2 hp HE HR
        go_wp2_with fail
        go_loopg [8, 9] m2 (fun g v i wx => ∃ (j i0 : Nat) (acc : Tx), j + g = m2 ∧ v = .string (mk acc) ∧ i = .int .i64 i0 ∧ Hid (i0 = k + j) ∧ Hid (acc = textP (List.replicate j [46, 46])) ∧ wx = W2)
        case atStart => exact ⟨0, k, [], by omega, rfl, rfl, Lib.hid (by omega), Lib.hid rfl, rfl⟩
        case round =>
          obtain ⟨j, i0, acc, hj, rfl, rfl, hi0', hacc, rfl⟩ := hrel
          cases gk with
          | zero =>
            obtain rfl : j = m2 := by omega
            have hnlt : ¬ ((i0 : Int) < (n : Int)) := by have := hi0'.out; have := HM2.out; omega
            go_wp2_with fail
            go_loopg [8, 10] p2 (fun g v i wx => ∃ (u i1 : Nat) (acc : Tx), u + g = p2 ∧ v = .string (mk acc) ∧ i = .int .i64 i1 ∧ Hid (i1 = k + u) ∧ Hid (acc = textP (List.replicate j [46, 46] ++ (B.drop k).take u)) ∧ wx = wr)
            case atStart => exact ⟨0, k, acc, by omega, rfl, rfl, Lib.hid (by omega), Lib.hid (by rw [hacc.out]; simp), rfl⟩
            case round =>
              clear hacc hi0' hnlt hi0 hj
              obtain ⟨u, i1, ac, hu, rfl, rfl, hi1, hac, rfl⟩ := hrel
              cases gk with
              | zero =>
                obtain rfl : u = p2 := by omega
                have hnlt : ¬ ((i1 : Int) < (p : Int)) := by have := hi1.out; have := HM2.out; omega
                have HF : Hid (ac = if R = [] then [] else 47 :: joinS R) := Lib.hid (by
                  have e := textP_eq R []
                  unfold textP at hac
                  rw [hac.out]
                  rw [List.nil_append] at e
                  rw [← e, HR2.out, List.take_of_length_le (by rw [List.length_drop, HN.out.2]; have := HM2.out; omega), show n - k = j by have := HM2.out; omega])
                clear hac
                by_cases hR : R = []
                · have HA : Hid (ac = []) := Lib.hid (by rw [HF.out, if_pos hR])
                  have HX : Hid (r = [46]) := Lib.hid (by rw [HS.out, if_pos hR])
                  obtain rfl : ac = [] := HA.out
                  clear hR
                  go_wp2_with fail
                  go_ret
                  exact ⟨by rw [HX.out]; rfl, HB.out.1⟩
                · have HA : Hid (ac = 47 :: joinS R) := Lib.hid (by rw [HF.out, if_neg hR])
                  have HX : Hid (r = joinS R) := Lib.hid (by rw [HS.out, if_neg hR])
                  obtain rfl : ac = 47 :: joinS R := HA.out
                  generalize joinS R = J at HX HF HA ⊢
                  have hex := mk_extract (47 :: J) 1 (J.length + 1)
                  rw [show ((47 :: J).drop 1).take (J.length + 1 - 1) = J by simp] at hex
                  clear hR HF HA
                  go_wp2_with fail
                  go_ret
                  exact ⟨by rw [HX.out]; rfl, HB.out.1⟩
              | succ g =>
                have hi : i1 < B.length := by have := hi1.out; have := HM2.out; have := HN.out; omega
                obtain ⟨b1, o1, ha2, l1, e1⟩ := HB.out.2.cells hi
                cases ha2
                have f1 := e1 i1 hi
                have HT : Hid ((B.drop k).take (u + 1) = (B.drop k).take u ++ [B[i1]]) := Lib.hid (by
                  rw [List.take_succ_eq_append_getElem (by rw [List.length_drop, HN.out.2]; have := HM2.out; omega), List.getElem_drop]
                  congr 3
                  exact hi1.out.symm)
                have hal := textP_len (List.replicate j [46, 46] ++ (B.drop k).take u)
                rw [← hac.out, wt_append, wt_ups] at hal
                have hb1 := wt_take (B.drop k) u
                have hb2 := wt_drop B k
                have hb3 := wt_at hi
                have hb4 := HWB.out
                obtain ⟨x, hx⟩ : ∃ x, B[i1] = x := ⟨_, rfl⟩
                rw [hx] at f1 HT hb3
                have hin : (i1 : Int) < (p : Int) := by have := hi1.out; have := HM2.out; omega
                have hin0 : (0 : Int) ≤ (i1 : Int) := by omega
                have hjn : j ≤ 1000000001 := by have := HM2.out; omega
                have hs1 : ¬ (9223372036854775807 < 1 + x.length) := by omega
                have hs2 : ¬ (9223372036854775807 < ac.length + (1 + x.length)) := by omega
                have ha1 := mk_append [47] x
                have ha2 := mk_append ac (47 :: x)
                have HST : Hid (ac ++ 47 :: x = textP (List.replicate j [46, 46] ++ (B.drop k).take (u + 1))) := Lib.hid (by
                  rw [HT.out, ← List.append_assoc, textP_snoc, ← hac.out]; rfl)
                clear hx e1 hal hb1 hb2 hb3 hb4 l1
                go_wp2_with fail
                go_roundg g
                case measure => omega
                case rel => exact ⟨u + 1, i1 + 1, ac ++ (47 :: x), by omega, rfl, by go_num, Lib.hid (by have := hi1.out; omega), HST, rfl⟩
          | succ g =>
            have hlt : (i0 : Int) < (n : Int) := by have := hi0'.out; have := HM2.out; omega
            have hal := textP_ups j
            rw [← hacc.out] at hal
            have hjm : j ≤ 1000000001 := by have := HM2.out; omega
            have hs1 : ¬ (9223372036854775807 < acc.length + 3) := by omega
            have ha := mk_append acc [47, 46, 46]
            clear hal
            go_wp2_with fail
            go_roundg g
            case measure => omega
            case rel => exact ⟨j + 1, i0 + 1, acc ++ [47, 46, 46], by omega, rfl, by go_num, Lib.hid (by have := hi0'.out; omega), Lib.hid (by rw [List.replicate_succ', textP_snoc, ← hacc.out]; rfl), rfl⟩
      · have hkn2 : decide ((k : Int) < (n : Int)) = false := by simp; omega
        go_wp2_with fail
        go_quiet (fail)
        have HB := Lib.hid (HG.out nq)
        generalize W.drewN nq = W2 at HB ⊢
        have HR2 : Hid (R = List.replicate (n - k) [46, 46] ++ B.drop k) := Lib.hid (by rw [HR.out, HE.out])
        obtain ⟨m2, hm2⟩ : ∃ m2, n = k + m2 := ⟨n - k, by omega⟩
        obtain ⟨p2, hp2⟩ : ∃ p2, p = k + p2 := ⟨p - k, by omega⟩
        have HM2 := Lib.hid (And.intro hm2 hp2)
        clear hm2 hp2 hp HE HR
        go_wp2_with fail
        go_loopg [8, 9] m2 (fun g v i wx => ∃ (j i0 : Nat) (acc : Tx), j + g = m2 ∧ v = .string (mk acc) ∧ i = .int .i64 i0 ∧ Hid (i0 = k + j) ∧ Hid (acc = textP (List.replicate j [46, 46])) ∧ wx = W2)
        case atStart => exact ⟨0, k, [], by omega, rfl, rfl, Lib.hid (by omega), Lib.hid rfl, rfl⟩
        case round =>
          obtain ⟨j, i0, acc, hj, rfl, rfl, hi0', hacc, rfl⟩ := hrel
          cases gk with
          | zero =>
            obtain rfl : j = m2 := by omega
            have hnlt : ¬ ((i0 : Int) < (n : Int)) := by have := hi0'.out; have := HM2.out; omega
            go_wp2_with fail
            go_loopg [8, 10] p2 (fun g v i wx => ∃ (u i1 : Nat) (acc : Tx), u + g = p2 ∧ v = .string (mk acc) ∧ i = .int .i64 i1 ∧ Hid (i1 = k + u) ∧ Hid (acc = textP (List.replicate j [46, 46] ++ (B.drop k).take u)) ∧ wx = wr)
            case atStart => exact ⟨0, k, acc, by omega, rfl, rfl, Lib.hid (by omega), Lib.hid (by rw [hacc.out]; simp), rfl⟩
            case round =>
              clear hacc hi0' hnlt hi0 hj
              obtain ⟨u, i1, ac, hu, rfl, rfl, hi1, hac, rfl⟩ := hrel
              cases gk with
              | zero =>
                obtain rfl : u = p2 := by omega
                have hnlt : ¬ ((i1 : Int) < (p : Int)) := by have := hi1.out; have := HM2.out; omega
                have HF : Hid (ac = if R = [] then [] else 47 :: joinS R) := Lib.hid (by
                  have e := textP_eq R []
                  unfold textP at hac
                  rw [hac.out]
                  rw [List.nil_append] at e
                  rw [← e, HR2.out, List.take_of_length_le (by rw [List.length_drop, HN.out.2]; have := HM2.out; omega), show n - k = j by have := HM2.out; omega])
                clear hac
                by_cases hR : R = []
                · have HA : Hid (ac = []) := Lib.hid (by rw [HF.out, if_pos hR])
                  have HX : Hid (r = [46]) := Lib.hid (by rw [HS.out, if_pos hR])
                  obtain rfl : ac = [] := HA.out
                  clear hR
                  go_wp2_with fail
                  go_ret
                  exact ⟨by rw [HX.out]; rfl, HB.out.1⟩
                · have HA : Hid (ac = 47 :: joinS R) := Lib.hid (by rw [HF.out, if_neg hR])
                  have HX : Hid (r = joinS R) := Lib.hid (by rw [HS.out, if_neg hR])
                  obtain rfl : ac = 47 :: joinS R := HA.out
                  generalize joinS R = J at HX HF HA ⊢
                  have hex := mk_extract (47 :: J) 1 (J.length + 1)
                  rw [show ((47 :: J).drop 1).take (J.length + 1 - 1) = J by simp] at hex
                  clear hR HF HA
                  go_wp2_with fail
                  go_ret
                  exact ⟨by rw [HX.out]; rfl, HB.out.1⟩
              | succ g =>
                have hi : i1 < B.length := by have := hi1.out; have := HM2.out; have := HN.out; omega
                obtain ⟨b1, o1, ha2, l1, e1⟩ := HB.out.2.cells hi
                cases ha2
                have f1 := e1 i1 hi
                have HT : Hid ((B.drop k).take (u + 1) = (B.drop k).take u ++ [B[i1]]) := Lib.hid (by
                  rw [List.take_succ_eq_append_getElem (by rw [List.length_drop, HN.out.2]; have := HM2.out; omega), List.getElem_drop]
                  congr 3
                  exact hi1.out.symm)
                have hal := textP_len (List.replicate j [46, 46] ++ (B.drop k).take u)
                rw [← hac.out, wt_append, wt_ups] at hal
                have hb1 := wt_take (B.drop k) u
                have hb2 := wt_drop B k
                have hb3 := wt_at hi
                have hb4 := HWB.out
                obtain ⟨x, hx⟩ : ∃ x, B[i1] = x := ⟨_, rfl⟩
                rw [hx] at f1 HT hb3
                have hin : (i1 : Int) < (p : Int) := by have := hi1.out; have := HM2.out; omega
                have hin0 : (0 : Int) ≤ (i1 : Int) := by omega
                have hjn : j ≤ 1000000001 := by have := HM2.out; omega
                have hs1 : ¬ (9223372036854775807 < 1 + x.length) := by omega
                have hs2 : ¬ (9223372036854775807 < ac.length + (1 + x.length)) := by omega
                have ha1 := mk_append [47] x
                have ha2 := mk_append ac (47 :: x)
                have HST : Hid (ac ++ 47 :: x = textP (List.replicate j [46, 46] ++ (B.drop k).take (u + 1))) := Lib.hid (by
                  rw [HT.out, ← List.append_assoc, textP_snoc, ← hac.out]; rfl)
                clear hx e1 hal hb1 hb2 hb3 hb4 l1
                go_wp2_with fail
                go_roundg g
                case measure => omega
                case rel => exact ⟨u + 1, i1 + 1, ac ++ (47 :: x), by omega, rfl, by go_num, Lib.hid (by have := hi1.out; omega), HST, rfl⟩
          | succ g =>
            have hlt : (i0 : Int) < (n : Int) := by have := hi0'.out; have := HM2.out; omega
            have hal := textP_ups j
            rw [← hacc.out] at hal
            have hjm : j ≤ 1000000001 := by have := HM2.out; omega
            have hs1 : ¬ (9223372036854775807 < acc.length + 3) := by omega
            have ha := mk_append acc [47, 46, 46]
            clear hal
            go_wp2_with fail
            go_roundg g
            case measure => omega
            case rel => exact ⟨j + 1, i0 + 1, acc ++ [47, 46, 46], by omega, rfl, by go_num, Lib.hid (by have := hi0'.out; omega), Lib.hid (by rw [List.replicate_succ', textP_snoc, ← hacc.out]; rfl), rfl⟩
    | succ g =>
      have hx : k < A.length := by have := HN.out; omega
      have hy : k < B.length := by have := HN.out; omega
      obtain ⟨b1, o1, rfl, l1, e1⟩ := HK1.cells hx
      obtain ⟨b2, o2, rfl, l2, e2⟩ := HK2.cells hy
      have f1 := e1 k hx
      have f2 := e2 k hy
      have T1 := Lib.hid (List.take_succ_eq_append_getElem hx)
      have T2 := Lib.hid (List.take_succ_eq_append_getElem hy)
      have HX : Hid (A[k] ≠ B[k] → common A B = k) := Lib.hid (fun hne => common_of k A B (by omega) (by omega) hp.out (fun _ _ => hne))
      obtain ⟨x, hx1⟩ : ∃ x, A[k] = x := ⟨_, rfl⟩
      obtain ⟨y, hy1⟩ : ∃ y, B[k] = y := ⟨_, rfl⟩
      rw [hx1] at f1 T1 HX
      rw [hy1] at f2 T2 HX
      have hkn : (k : Int) < (n : Int) := by omega
      have hkp : (k : Int) < (p : Int) := by omega
      clear hx1 hy1 e1 e2 l1 l2 HK1 HK2
      cases hxy : (x == y)
      · have HE : Hid (common A B = k) := Lib.hid (HX.out (by simpa using hxy))
        go_wp2_with fail
        go_quiet (fail)
        have HB := Lib.hid (HG.out nq)
        generalize W.drewN nq = W2 at HB ⊢
        have HR2 : Hid (R = List.replicate (n - k) [46, 46] ++ B.drop k) := Lib.hid (by rw [HR.out, HE.out])
        obtain ⟨m2, hm2⟩ : ∃ m2, n = k + m2 := ⟨n - k, by omega⟩
        obtain ⟨p2, hp2⟩ : ∃ p2, p = k + p2 := ⟨p - k, by omega⟩
        have HM2 := Lib.hid (And.intro hm2 hp2)
        clear hm2 hp2 hp HE HR
        go_wp2_with fail
        go_loopg [8, 9] m2 (fun g v i wx => ∃ (j i0 : Nat) (acc : Tx), j + g = m2 ∧ v = .string (mk acc) ∧ i = .int .i64 i0 ∧ Hid (i0 = k + j) ∧ Hid (acc = textP (List.replicate j [46, 46])) ∧ wx = W2)
        case atStart => exact ⟨0, k, [], by omega, rfl, rfl, Lib.hid (by omega), Lib.hid rfl, rfl⟩
        case round =>
          obtain ⟨j, i0, acc, hj, rfl, rfl, hi0', hacc, rfl⟩ := hrel
          cases gk with
          | zero =>
            obtain rfl : j = m2 := by omega
            have hnlt : ¬ ((i0 : Int) < (n : Int)) := by have := hi0'.out; have := HM2.out; omega
            go_wp2_with fail
            go_loopg [8, 10] p2 (fun g v i wx => ∃ (u i1 : Nat) (acc : Tx), u + g = p2 ∧ v = .string (mk acc) ∧ i = .int .i64 i1 ∧ Hid (i1 = k + u) ∧ Hid (acc = textP (List.replicate j [46, 46] ++ (B.drop k).take u)) ∧ wx = wr)
            case atStart => exact ⟨0, k, acc, by omega, rfl, rfl, Lib.hid (by omega), Lib.hid (by rw [hacc.out]; simp), rfl⟩
            case round =>
              clear hacc hi0' hnlt hi0 hj
              obtain ⟨u, i1, ac, hu, rfl, rfl, hi1, hac, rfl⟩ := hrel
              cases gk with
              | zero =>
                obtain rfl : u = p2 := by omega
                have hnlt : ¬ ((i1 : Int) < (p : Int)) := by have := hi1.out; have := HM2.out; omega
                have HF : Hid (ac = if R = [] then [] else 47 :: joinS R) := Lib.hid (by
                  have e := textP_eq R []
                  unfold textP at hac
                  rw [hac.out]
                  rw [List.nil_append] at e
                  rw [← e, HR2.out, List.take_of_length_le (by rw [List.length_drop, HN.out.2]; have := HM2.out; omega), show n - k = j by have := HM2.out; omega])
                clear hac
                by_cases hR : R = []
                · have HA : Hid (ac = []) := Lib.hid (by rw [HF.out, if_pos hR])
                  have HX : Hid (r = [46]) := Lib.hid (by rw [HS.out, if_pos hR])
                  obtain rfl : ac = [] := HA.out
                  clear hR
                  go_wp2_with fail
                  go_ret
                  exact ⟨by rw [HX.out]; rfl, HB.out.1⟩
                · have HA : Hid (ac = 47 :: joinS R) := Lib.hid (by rw [HF.out, if_neg hR])
                  have HX : Hid (r = joinS R) := Lib.hid (by rw [HS.out, if_neg hR])
                  obtain rfl : ac = 47 :: joinS R := HA.out
                  generalize joinS R = J at HX HF HA ⊢
                  have hex := mk_extract (47 :: J) 1 (J.length + 1)
                  rw [show ((47 :: J).drop 1).take (J.length + 1 - 1) = J by simp] at hex
                  clear hR HF HA
                  go_wp2_with fail
                  go_ret
                  exact ⟨by rw [HX.out]; rfl, HB.out.1⟩
              | succ g =>
                have hi : i1 < B.length := by have := hi1.out; have := HM2.out; have := HN.out; omega
                obtain ⟨b1, o1, ha2, l1, e1⟩ := HB.out.2.cells hi
                cases ha2
                have f1 := e1 i1 hi
                have HT : Hid ((B.drop k).take (u + 1) = (B.drop k).take u ++ [B[i1]]) := Lib.hid (by
                  rw [List.take_succ_eq_append_getElem (by rw [List.length_drop, HN.out.2]; have := HM2.out; omega), List.getElem_drop]
                  congr 3
                  exact hi1.out.symm)
                have hal := textP_len (List.replicate j [46, 46] ++ (B.drop k).take u)
                rw [← hac.out, wt_append, wt_ups] at hal
                have hb1 := wt_take (B.drop k) u
                have hb2 := wt_drop B k
                have hb3 := wt_at hi
                have hb4 := HWB.out
                obtain ⟨x, hx⟩ : ∃ x, B[i1] = x := ⟨_, rfl⟩
                rw [hx] at f1 HT hb3
                have hin : (i1 : Int) < (p : Int) := by have := hi1.out; have := HM2.out; omega
                have hin0 : (0 : Int) ≤ (i1 : Int) := by omega
                have hjn : j ≤ 1000000001 := by have := HM2.out; omega
                have hs1 : ¬ (9223372036854775807 < 1 + x.length) := by omega
                have hs2 : ¬ (9223372036854775807 < ac.length + (1 + x.length)) := by omega
                have ha1 := mk_append [47] x
                have ha2 := mk_append ac (47 :: x)
                have HST : Hid (ac ++ 47 :: x = textP (List.replicate j [46, 46] ++ (B.drop k).take (u + 1))) := Lib.hid (by
                  rw [HT.out, ← List.append_assoc, textP_snoc, ← hac.out]; rfl)
                clear hx e1 hal hb1 hb2 hb3 hb4 l1
                go_wp2_with fail
                go_roundg g
                case measure => omega
                case rel => exact ⟨u + 1, i1 + 1, ac ++ (47 :: x), by omega, rfl, by go_num, Lib.hid (by have := hi1.out; omega), HST, rfl⟩
          | succ g =>
            have hlt : (i0 : Int) < (n : Int) := by have := hi0'.out; have := HM2.out; omega
            have hal := textP_ups j
            rw [← hacc.out] at hal
            have hjm : j ≤ 1000000001 := by have := HM2.out; omega
            have hs1 : ¬ (9223372036854775807 < acc.length + 3) := by omega
            have ha := mk_append acc [47, 46, 46]
            clear hal
            go_wp2_with fail
            go_roundg g
            case measure => omega
            case rel => exact ⟨j + 1, i0 + 1, acc ++ [47, 46, 46], by omega, rfl, by go_num, Lib.hid (by have := hi0'.out; omega), Lib.hid (by rw [List.replicate_succ', textP_snoc, ← hacc.out]; rfl), rfl⟩
      · have HT : Hid (A.take (k + 1) = B.take (k + 1)) := Lib.hid (by rw [T1.out, T2.out, hp.out, eq_of_beq hxy])
        go_wp2_with fail
        go_quiet (fail)
        go_wp2_with fail
        go_roundg g
        case measure => omega
        case rel => exact ⟨k + 1, by omega, by go_num, HT, _, by rw [← HW.out]; exact World.drewN_drewN ..⟩
end Go.Proofs.Ytmjggjccmbiheaa
