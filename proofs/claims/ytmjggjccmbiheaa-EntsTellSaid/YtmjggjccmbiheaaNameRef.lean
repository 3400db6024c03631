/- NameChecks: for every text the law's call answers true: name.Check, Right and Plain answer as the reference. -/
import Derived.Test.YtmjggjccmbiheaaName
namespace Go.Proofs.Ytmjggjccmbiheaa
open Go.RowKit Go.Proofs
attribute [local go_sem] mk_list mk_size mk_data

theorem plain_cases (b : Int) (h : plainC b = true) : (97 ≤ b ∧ b ≤ 122) ∨ (65 ≤ b ∧ b ≤ 90) ∨ (48 ≤ b ∧ b ≤ 57) ∨ b = 46 ∨ b = 95 ∨ b = 43 ∨ b = 45 := by
  unfold plainC at h; simp at h; omega
theorem plain_none (b : Int) (h : plainC b = false) : ¬ (97 ≤ b ∧ b ≤ 122) ∧ ¬ (65 ≤ b ∧ b ≤ 90) ∧ ¬ (48 ≤ b ∧ b ≤ 57) ∧ (b != 46) = true ∧ (b != 95) = true ∧ (b != 43) = true ∧ (b != 45) = true := by
  unfold plainC at h; simp at h ⊢; omega

set_option maxHeartbeats 4000000 in
theorem ref_Plain (l : List UInt8) (w : World) (ha : l.length ≤ 140737488351300) :
    Calls Try.prog 24 #[.string (mk l)] w fun e w' => e = .returned (.bool (plainI l)) ∧ w = w' := by
  obtain ⟨ci, hci⟩ : ∃ ci, checkI l = ci := ⟨_, rfl⟩
  have HCI := Lib.hid hci
  cases hc : (checkI l == 0)
  · have hf := Lib.hid (show plainI l = false by unfold plainI; rw [hc]; simp)
    have hcn : (ci != 0) = true := by rw [← hci, bne, hc]; rfl
    clear hc hci
    go_enter Try.func24, Try.ntmps24
    go_wp2_with (go_at_call 23; refine (ref_Check l _ ha).mono ?_; rintro e w' ⟨rfl, rfl⟩; rw [HCI.out])
    go_ret
    exact ⟨ret_bool (by rw [hf.out]), rfl⟩
  · have hne : l ≠ [] := by rintro rfl; rw [check_nil] at hc; exact absurd hc (by decide)
    have hpos : 0 < (mk l).size := List.length_pos_iff.2 hne
    have hpos' : (0 : Int) < (l.length : Int) := by have := List.length_pos_iff.2 hne; omega
    have h0' : (0 : Nat) < l.length := hpos
    have hcn : (ci != 0) = false := by rw [← hci, bne, hc]; rfl
    obtain ⟨b, hb0⟩ : ∃ b : Int, (((mk l)[0]'hpos).toNat : Int) = b := ⟨_, rfl⟩
    have hx : (l.head? != some 45) = (b != 45) := by
      have e := byte_ne (l[0]'hpos) 45 (by omega)
      rw [show ((l[0]'hpos).toNat : Int) = b from hb0] at e
      rw [show ((45 : Nat) : Int) = 45 from rfl] at e
      rw [e, List.head?_eq_some_head hne, ← List.getElem_zero hpos]
      rfl
    have HP := Lib.hid (show plainI l = (l.all plainB && (b != 45)) by unfold plainI; rw [hc, hx]; simp)
    clear hc hx hne hci
    by_cases hb : b = 45
    · subst hb
      go_enter Try.func24, Try.ntmps24
      go_wp2_with (go_at_call 23; refine (ref_Check l _ ha).mono ?_; rintro e w' ⟨rfl, rfl⟩; rw [HCI.out])
      go_ret
      exact ⟨ret_bool (by rw [HP.out]; simp), rfl⟩
    · have hbn : (b == 45) = false := beq_eq_false_iff_ne.2 hb
      have HP' := Lib.hid (show plainI l = l.all plainB by rw [HP.out]; rw [show (b != 45) = true from by rw [bne, hbn]; rfl]; simp)
      clear hb HP
      go_enter Try.func24, Try.ntmps24
      go_wp2_with (go_at_call 23; refine (ref_Check l _ ha).mono ?_; rintro e w' ⟨rfl, rfl⟩; rw [HCI.out])
      go_loop [3, 4] (fun i _ => ∃ k : Nat, k ≤ l.length ∧ i = .int .i64 k ∧ (l.take k).all plainB = true) (fun i _ => l.length - (intOf i).toNat)
      case atStart => exact ⟨0, Nat.zero_le _, rfl, rfl⟩
      case round =>
        obtain ⟨k, hk, rfl, hn⟩ := hrel
        have HN := Lib.hid hn
        clear hn
        by_cases hlt : k < l.length
        · have hlt' : k < (mk l).size := hlt
          obtain ⟨c, hc0⟩ : ∃ c : Int, (((mk l)[k]'hlt').toNat : Int) = c := ⟨_, rfl⟩
          have hB := Lib.hid (show plainB (l[k]'hlt) = plainC c by rw [← hc0]; rfl)
          have c1 : 0 ≤ c := by omega
          have c2 : c ≤ 255 := by have := ((mk l)[k]'hlt').toNat_lt; omega
          cases hp : plainC c
          · obtain ⟨n1, n2, n3, n4, n5, n6, n7⟩ := plain_none c hp
            have HP2 := Lib.hid hp
            have hf := Lib.hid (show plainI l = false by rw [HP'.out, all_at hlt (hB.out.trans hp)])
            clear hp
            by_cases q1 : 97 ≤ c
            · have q2 : 122 < c := by omega
              clear n1 n2 n3
              go_wp2
              all_goals first | (go_ret; exact ⟨ret_bool (by rw [hf.out]), rfl⟩) | (exfalso; rename_i hh; simp at hh; omega)
            · by_cases q3 : 65 ≤ c
              · have q4 : 90 < c := by omega
                have q5 : c < 97 := by omega
                clear n1 n2 n3 q1
                go_wp2
                all_goals first | (go_ret; exact ⟨ret_bool (by rw [hf.out]), rfl⟩) | (exfalso; rename_i hh; simp at hh; omega)
              · by_cases q6 : 48 ≤ c
                · have q7 : 57 < c := by omega
                  have q5 : c < 65 := by omega
                  clear n1 n2 n3 q1 q3
                  go_wp2
                  all_goals first | (go_ret; exact ⟨ret_bool (by rw [hf.out]), rfl⟩) | (exfalso; rename_i hh; simp at hh; omega)
                · have q5 : c < 48 := by omega
                  clear n1 n2 n3 q1 q3 q6
                  go_wp2
                  all_goals first | (go_ret; exact ⟨ret_bool (by rw [hf.out]), rfl⟩) | (exfalso; rename_i hh; simp at hh; omega)
          · have HP2 := Lib.hid hp
            rcases plain_cases c hp with ⟨p1, p2⟩ | ⟨p1, p2⟩ | ⟨p1, p2⟩ | rfl | rfl | rfl | rfl
            all_goals
              clear hp
              go_wp2
              go_round
              case rel => exact ⟨k + 1, by omega, by go_num, by rw [all_take hlt, HN.out, hB.out, HP2.out]; rfl⟩
              case measure => simp [intOf]; omega
        · have h3 := Lib.hid (show l.all plainB = true by have := HN.out; rwa [List.take_of_length_le (by omega)] at this)
          go_wp2
          go_ret
          exact ⟨ret_bool (by rw [HP'.out, h3.out]), rfl⟩

theorem name_lives (w : World) : Calls Try.prog 25 #[] w fun e w' => e = .returned (.bool true) ∧ Below w.heap.size w w' := by
  have H1 := Lib.hid (show checkI [97, 47, 98] = 11 by decide)
  have H2 := Lib.hid (show checkI [97] = 0 by decide)
  have H3 := Lib.hid (show plainI [103, 99, 99, 45, 57] = true by decide)
  go_enter Try.func25, Try.ntmps25
  go_wp2_with fail
  refine (name_Check [97, 47, 98] _ (by decide)).mono ?_
  rintro e w1 ⟨rfl, b1⟩
  rw [H1.out]
  go_wp2_with fail
  refine (name_Right [97] _ (by decide)).mono ?_
  rintro e w2 ⟨rfl, b2⟩
  rw [H2.out]
  go_wp2_with fail
  refine (name_Plain [103, 99, 99, 45, 57] _ (by decide)).mono ?_
  rintro e w3 ⟨rfl, b3⟩
  rw [H3.out]
  go_wp2_with fail
  go_ret
  exact ⟨rfl, below_then (below_then b1 b1.size b2) (Nat.le_trans b1.size b2.size) b3⟩

theorem plain_right {l : List UInt8} (h : plainI l = true) : (checkI l == 0) = true := by
  unfold plainI at h; simp at h; simp [h.1.2]

set_option maxHeartbeats 4000000 in
theorem checks (l : List UInt8) (w : World) (ha : l.length ≤ 140737488351232) :
    Calls Try.prog 4 #[.string (mk l)] w fun e w' => e = .returned (.bool true) ∧ Below w.heap.size w w' := by
  obtain ⟨ci, hci⟩ : ∃ ci, checkI l = ci := ⟨_, rfl⟩
  obtain ⟨pi, hpi⟩ : ∃ pi, plainI l = pi := ⟨_, rfl⟩
  have HC := Lib.hid hci
  have HP := Lib.hid hpi
  have hpr : pi = true → (ci == 0) = true := fun h => by rw [← hci]; exact plain_right (hpi.trans h)
  clear hci hpi
  have hl : l.length ≤ 140737488351300 := by omega
  cases pi
  · clear hpr
    cases hc : (ci == 0)
    · go_enter Try.func4, Try.ntmps4
      go_wp2_with (first | (go_at_call 20; refine (name_Plain l _ hl).mono ?_; rintro e w' ⟨rfl, hb⟩; rw [HP.out]) | (go_at_call 21; refine (name_Right l _ hl).mono ?_; rintro e w' ⟨rfl, hb⟩; rw [HC.out]) | (go_at_call 22; refine (name_Check l _ hl).mono ?_; rintro e w' ⟨rfl, hb⟩; rw [HC.out]) | (go_at_call 23; refine (ref_Check l _ hl).mono ?_; rintro e w' ⟨rfl, rfl⟩; rw [HC.out]) | (go_at_call 24; refine (ref_Plain l _ hl).mono ?_; rintro e w' ⟨rfl, rfl⟩; rw [HP.out]) | (go_at_call 25; refine (name_lives _).mono ?_; rintro e w' ⟨rfl, hb⟩))
      go_ret
      exact ⟨rfl, (by repeat (first | exact Below.refl _ _ | assumption | refine ext_trans ?_ (by assumption)))⟩
    · go_enter Try.func4, Try.ntmps4
      go_wp2_with (first | (go_at_call 20; refine (name_Plain l _ hl).mono ?_; rintro e w' ⟨rfl, hb⟩; rw [HP.out]) | (go_at_call 21; refine (name_Right l _ hl).mono ?_; rintro e w' ⟨rfl, hb⟩; rw [HC.out]) | (go_at_call 22; refine (name_Check l _ hl).mono ?_; rintro e w' ⟨rfl, hb⟩; rw [HC.out]) | (go_at_call 23; refine (ref_Check l _ hl).mono ?_; rintro e w' ⟨rfl, rfl⟩; rw [HC.out]) | (go_at_call 24; refine (ref_Plain l _ hl).mono ?_; rintro e w' ⟨rfl, rfl⟩; rw [HP.out]) | (go_at_call 25; refine (name_lives _).mono ?_; rintro e w' ⟨rfl, hb⟩))
      go_ret
      exact ⟨rfl, (by repeat (first | exact Below.refl _ _ | assumption | refine ext_trans ?_ (by assumption)))⟩
  · have hpr := hpr rfl
    go_enter Try.func4, Try.ntmps4
    go_wp2_with (first | (go_at_call 20; refine (name_Plain l _ hl).mono ?_; rintro e w' ⟨rfl, hb⟩; rw [HP.out]) | (go_at_call 21; refine (name_Right l _ hl).mono ?_; rintro e w' ⟨rfl, hb⟩; rw [HC.out]) | (go_at_call 22; refine (name_Check l _ hl).mono ?_; rintro e w' ⟨rfl, hb⟩; rw [HC.out]) | (go_at_call 23; refine (ref_Check l _ hl).mono ?_; rintro e w' ⟨rfl, rfl⟩; rw [HC.out]) | (go_at_call 24; refine (ref_Plain l _ hl).mono ?_; rintro e w' ⟨rfl, rfl⟩; rw [HP.out]) | (go_at_call 25; refine (name_lives _).mono ?_; rintro e w' ⟨rfl, hb⟩))
    go_ret
    exact ⟨rfl, (by repeat (first | exact Below.refl _ _ | assumption | refine ext_trans ?_ (by assumption)))⟩
end Go.Proofs.Ytmjggjccmbiheaa
