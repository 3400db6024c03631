/- Which names may be: what name.Check, Right, Plain and the reference compute. -/
import Derived.Test.YtmjggjccmbiheabRune
namespace Go.Proofs.Ytmjggjccmbiheab
open Go.RowKit Go.Proofs
attribute [local go_sem] mk_list mk_size mk_data

def badB (b : UInt8) : Bool := b == 0 || b == 47
def checkI (l : List UInt8) : Int := if l = [] then 5 else if 64 < l.length then 11 else if l.any badB then 11 else if l = [46] ∨ l = [46, 46] then 6 else 0
theorem any_contains (l : List UInt8) : Lib.containsAny l [47, 0] = l.any badB := by
  unfold Lib.containsAny
  induction l with
  | nil => rfl
  | cons b l ih =>
    have hge := Lib.indexAny_ge [47, 0] l
    rw [List.any_cons, ← ih]
    have hb : ([47, 0] : List UInt8).contains b = badB b := by
      unfold badB; rw [Bool.or_comm, Bool.eq_iff_iff]; simp
    have hd : Lib.indexAny (b :: l) [47, 0] = if ([47, 0] : List UInt8).contains b then 0 else if Lib.indexAny l [47, 0] == -1 then -1 else Lib.indexAny l [47, 0] + 1 := rfl
    rw [hd, hb]
    cases hbb : badB b
    · simp only [Bool.false_eq_true, if_false, Bool.false_or]
      by_cases h : Lib.indexAny l [47, 0] = -1
      · rw [h]; decide
      · rw [if_neg (by simpa using h)]
        rw [decide_eq_true (by omega), decide_eq_true (by omega)]
    · simp

set_option maxHeartbeats 1000000 in
theorem name_Check (l : List UInt8) (w : World) (ha : l.length ≤ 140737488351300) :
    Calls Try.prog 29 #[.string (mk l)] w fun e w' => e = .returned (.int .i64 (checkI l)) ∧ Below w.heap.size w w' := by
  by_cases h1 : l = []
  · subst h1
    go_enter Try.func29, Try.ntmps29
    go_wp2
    go_ret
    exact ⟨rfl, Below.refl _ _⟩
  · have h1' : l.isEmpty = false := by cases l with | nil => exact absurd rfl h1 | cons _ _ => rfl
    by_cases h2 : 64 < l.length
    · have hf := Lib.hid (show checkI l = 11 by unfold checkI; rw [if_neg h1, if_pos h2])
      clear h1
      go_enter Try.func29, Try.ntmps29
      go_wp2
      go_ret
      exact ⟨ret_i64 (by rw [hf.out]), Below.refl _ _⟩
    · cases h3 : l.any badB
      · have hc := Lib.hid ((any_contains l).trans h3)
        by_cases h4 : l = [46]
        · subst h4
          clear h3 h1 h2 h1'
          go_enter Try.func29, Try.ntmps29
          go_wp2_with (go_at_call 46; refine (containsAny_any (mk [46]) ⟨#[47, 0]⟩ _ (by decide) (by decide) (by rw [mk_size]; decide) (by decide)).mono ?_; rintro e w' ⟨rfl, hb⟩; rw [mk_data, hc.out])
          go_ret
          exact ⟨rfl, hb⟩
        · by_cases h5 : l = [46, 46]
          · subst h5
            clear h3 h1 h2 h1' h4
            go_enter Try.func29, Try.ntmps29
            go_wp2_with (go_at_call 46; refine (containsAny_any (mk [46, 46]) ⟨#[47, 0]⟩ _ (by decide) (by decide) (by rw [mk_size]; decide) (by decide)).mono ?_; rintro e w' ⟨rfl, hb⟩; rw [mk_data, hc.out])
            go_ret
            exact ⟨rfl, hb⟩
          · have hf := Lib.hid (show checkI l = 0 by unfold checkI; rw [if_neg h1, if_neg h2, if_neg (by rw [h3]; decide), if_neg (by simp [h4, h5])])
            have h4' : (l == ([46] : List UInt8)) = false := by simpa using h4
            have h5' : (l == ([46, 46] : List UInt8)) = false := by simpa using h5
            clear h3 h1 h4 h5
            go_enter Try.func29, Try.ntmps29
            go_wp2_with (go_at_call 46; refine (containsAny_any (mk l) ⟨#[47, 0]⟩ _ (by decide) (by decide) (by rw [mk_size]; omega) (by decide)).mono ?_; rintro e w' ⟨rfl, hb⟩; rw [mk_data, hc.out])
            go_ret
            exact ⟨ret_i64 (by rw [hf.out]), hb⟩
      · have hc := Lib.hid ((any_contains l).trans h3)
        have hf := Lib.hid (show checkI l = 11 by unfold checkI; rw [if_neg h1, if_neg h2, if_pos h3])
        clear h3 h1
        go_enter Try.func29, Try.ntmps29
        go_wp2_with (go_at_call 46; refine (containsAny_any (mk l) ⟨#[47, 0]⟩ _ (by decide) (by decide) (by rw [mk_size]; omega) (by decide)).mono ?_; rintro e w' ⟨rfl, hb⟩; rw [mk_data, hc.out])
        go_ret
        exact ⟨ret_i64 (by rw [hf.out]), hb⟩

theorem any_take {l : List UInt8} {p : UInt8 → Bool} {k : Nat} (h : k < l.length) : (l.take (k + 1)).any p = ((l.take k).any p || p l[k]) := by
  rw [List.take_succ_eq_append_getElem h, List.any_append]; simp
theorem all_take {l : List UInt8} {p : UInt8 → Bool} {k : Nat} (h : k < l.length) : (l.take (k + 1)).all p = ((l.take k).all p && p l[k]) := by
  rw [List.take_succ_eq_append_getElem h, List.all_append]; simp
theorem any_at {l : List UInt8} {p : UInt8 → Bool} {k : Nat} (h : k < l.length) (hp : p l[k] = true) : l.any p = true := List.any_eq_true.2 ⟨_, List.getElem_mem h, hp⟩
theorem all_at {l : List UInt8} {p : UInt8 → Bool} {k : Nat} (h : k < l.length) (hp : p l[k] = false) : l.all p = false := by
  rw [List.all_eq_false]; exact ⟨_, List.getElem_mem h, by simp [hp]⟩
theorem isEmpty_of {l : List UInt8} (h : l ≠ []) : l.isEmpty = false := by cases l with | nil => exact absurd rfl h | cons _ _ => rfl

set_option maxHeartbeats 1000000 in
theorem ref_Check (l : List UInt8) (w : World) (ha : l.length ≤ 140737488351300) :
    Calls Try.prog 42 #[.string (mk l)] w fun e w' => e = .returned (.int .i64 (checkI l)) ∧ w = w' := by
  by_cases h1 : l = []
  · subst h1
    go_enter Try.func42, Try.ntmps42
    go_wp2
    go_ret
    exact ⟨rfl, rfl⟩
  · have h1' := isEmpty_of h1
    have h1n : ((l.length : Int) == 0) = false := beq_eq_false_iff_ne.2 (by have := List.length_pos_iff.2 h1; omega)
    by_cases h2 : 64 < l.length
    · have hf := Lib.hid (show checkI l = 11 by unfold checkI; rw [if_neg h1, if_pos h2])
      clear h1
      go_enter Try.func42, Try.ntmps42
      go_wp2
      go_ret
      exact ⟨ret_i64 (by rw [hf.out]), rfl⟩
    · have HF := Lib.hid (show checkI l = if l.any badB then 11 else if l = [46] ∨ l = [46, 46] then 6 else 0 by unfold checkI; rw [if_neg h1, if_neg h2])
      have h2b : decide ((64 : Int) < (l.length : Int)) = false := decide_eq_false (by omega)
      have h2c : decide (64 < l.length) = false := decide_eq_false h2
      clear h1 h2
      go_enter Try.func42, Try.ntmps42
      go_wp2_with fail
      go_loop [3] (fun i => ∃ k : Nat, k ≤ l.length ∧ i = .int .i64 k ∧ (l.take k).any badB = false) (fun i => l.length - (intOf i).toNat)
      case atStart => exact ⟨0, Nat.zero_le _, rfl, rfl⟩
      case round =>
        obtain ⟨k, hk, rfl, hn⟩ := hrel
        have HN := Lib.hid hn
        clear hn
        by_cases hlt : k < l.length
        · have e0 := byte_eq l[k] 0 (by omega)
          have e47 := byte_eq l[k] 47 (by omega)
          have eb : badB l[k] = (((l[k].toNat : Int) == ((0 : Nat) : Int)) || ((l[k].toNat : Int) == ((47 : Nat) : Int))) := by rw [e0, e47]; rfl
          clear e0 e47
          have hlt' : k < (mk l).size := hlt
          obtain ⟨b, hb⟩ : ∃ b : Int, (((mk l)[k]'hlt').toNat : Int) = b := ⟨_, rfl⟩
          rw [show (l[k].toNat : Int) = b from hb] at eb
          by_cases c0 : b = 0
          · subst c0
            have HB := Lib.hid eb
            clear eb
            go_wp2
            go_ret
            exact ⟨ret_i64 (by rw [HF.out, if_pos (any_at hlt (HB.out.trans (by decide)))]), rfl⟩
          · by_cases c47 : b = 47
            · subst c47
              have HB := Lib.hid eb
              clear eb
              go_wp2
              go_ret
              exact ⟨ret_i64 (by rw [HF.out, if_pos (any_at hlt (HB.out.trans (by decide)))]), rfl⟩
            · have d0 : (b == 0) = false := beq_eq_false_iff_ne.2 c0
              have d47 : (b == 47) = false := beq_eq_false_iff_ne.2 c47
              have HB := Lib.hid (eb.trans (by rw [show ((0 : Nat) : Int) = 0 from rfl, show ((47 : Nat) : Int) = 47 from rfl, d0, d47]))
              clear eb c0 c47
              go_wp2
              go_round
              case rel => exact ⟨k + 1, by omega, by go_num, by rw [any_take hlt, HN.out, HB.out]; rfl⟩
              case measure => simp [intOf]; omega
        · have h3 : l.any badB = false := by have := HN.out; rwa [List.take_of_length_le (by omega)] at this
          have HF' := HF.out
          rw [h3, if_neg (by decide)] at HF'
          clear h3 HF
          by_cases h4 : l = [46]
          · have hf := Lib.hid (show checkI l = 6 by rw [HF', if_pos (Or.inl h4)])
            have h4' : (l == ([46] : List UInt8)) = true := by simpa using h4
            clear HF' h4
            go_wp2
            go_ret
            exact ⟨ret_i64 (by rw [hf.out]), rfl⟩
          · have h4' : (l == ([46] : List UInt8)) = false := by simpa using h4
            by_cases h5 : l = [46, 46]
            · have hf := Lib.hid (show checkI l = 6 by rw [HF', if_pos (Or.inr h5)])
              have h5' : (l == ([46, 46] : List UInt8)) = true := by simpa using h5
              clear HF' h4 h5
              go_wp2
              go_ret
              exact ⟨ret_i64 (by rw [hf.out]), rfl⟩
            · have h5' : (l == ([46, 46] : List UInt8)) = false := by simpa using h5
              have hf := Lib.hid (show checkI l = 0 by rw [HF', if_neg (by simp [h4, h5])])
              clear HF' h4 h5
              go_wp2
              go_ret
              exact ⟨ret_i64 (by rw [hf.out]), rfl⟩

theorem check_nil : checkI [] = 5 := rfl

end Go.Proofs.Ytmjggjccmbiheab
