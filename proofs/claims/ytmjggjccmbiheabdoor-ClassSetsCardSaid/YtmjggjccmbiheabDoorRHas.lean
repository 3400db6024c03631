/- The reference's Has and Make, step by step. -/
import Derived.Test.YtmjggjccmbiheabDoorText
namespace Go.Proofs.YtmjggjccmbiheabDoor
open Go Go.RowKit Go.Proofs
attribute [local go_sem] mk_list mk_size mk_data

set_option maxRecDepth 100000 in
set_option maxHeartbeats 4000000 in
theorem ref_Has (s : Tx) (c : Nat) (W : World) (_hs : s.length ≤ 9223372036854775807) (hc : c < 256) :
    Calls Tryd.prog 10 #[.string (mk s), .int .i64 c] W fun e w' => e = .returned (.bool (hasT s c)) ∧ W = w' := by
  have h0 : ¬ (c : Int) < 0 := by omega
  have h255 : ¬ (c : Int) > 255 := by omega
  by_cases hl : s.length = 256
  · have hl2 : ((s.length : Int) != 256) = false := by rw [bne_eq_false_iff_eq]; omega
    have HL := Lib.hid hl
    obtain ⟨r, hr⟩ : ∃ r, hasT s c = r := ⟨_, rfl⟩
    have HR := Lib.hid hr
    rw [hr]
    clear hl hr _hs
    go_enter Tryd.func10, Tryd.ntmps10
    go_wp2_with fail
    go_loopg [5] 256 (fun g cv wx => ∃ k : Nat, k + g = 256 ∧ cv = .int .i64 k ∧ Hid (∀ (j : Nat) (h : j < s.length), j < k → s[j] = 48 ∨ s[j] = 49) ∧ wx = W)
    case atStart => exact ⟨0, by omega, rfl, Lib.hid (fun j _ h => absurd h (Nat.not_lt_zero _)), rfl⟩
    case round =>
      obtain ⟨k, hk, rfl, HP, rfl⟩ := hrel
      cases gk with
      | zero =>
        obtain rfl : k = 256 := by omega
        have hn : ¬ ((256 : Nat) : Int) < 256 := by omega
        have hok : okS s = true := by
          unfold okS
          rw [HL.out]
          simp only [beq_self_eq_true, Bool.true_and, List.all_eq_true, Bool.or_eq_true, beq_iff_eq]
          intro b hb
          obtain ⟨j, hj, rfl⟩ := List.mem_iff_getElem.1 hb
          exact HP.out j hj (by have := HL.out; omega)
        have hcl : c < s.length := by have := HL.out; omega
        have hcz : c < (mk s).size := by rw [mk_size]; exact hcl
        obtain ⟨b, hb⟩ : ∃ b : Int, (((mk s)[c]'hcz).toNat : Int) = b := ⟨_, rfl⟩
        have hbb := byte_eq (s[c]'hcl) 49 (by omega)
        have hb2 : (((s[c]'hcl).toNat : Int)) = b := hb
        rw [hb2] at hbb
        have hc0 : (0 : Int) ≤ (c : Int) := by omega
        have HRB : Hid (r = (b == 49)) := Lib.hid (by rw [← HR.out, has_get hok hc, show (49 : Int) = ((49 : Nat) : Int) from rfl, hbb]; rfl)
        clear hbb hb2 hok
        go_wp2_with fail
        go_ret
        exact ⟨by rw [HRB.out]; rfl, rfl⟩
      | succ g =>
        have hn : (k : Int) < 256 := by omega
        have hk0 : (0 : Int) ≤ (k : Int) := by omega
        have hkl : k < s.length := by have := HL.out; omega
        have hkz : k < (mk s).size := by rw [mk_size]; exact hkl
        obtain ⟨b, hb⟩ : ∃ b : Int, (((mk s)[k]'hkz).toNat : Int) = b := ⟨_, rfl⟩
        have hbb := byte_ne (s[k]'hkl) 49 (by omega)
        have hbc := byte_ne (s[k]'hkl) 48 (by omega)
        have hb2 : (((s[k]'hkl).toNat : Int)) = b := hb
        rw [hb2] at hbb hbc
        have HB := Lib.hid (And.intro hbb hbc)
        clear hbb hbc hb2
        cases h48 : (b != 48)
        · have HP2 : Hid (∀ (j : Nat) (h : j < s.length), j < k + 1 → s[j] = 48 ∨ s[j] = 49) := Lib.hid (fun j h hj => by
            by_cases e : j = k
            · subst e
              have h2 := HB.out.2
              rw [show ((48 : Nat) : Int) = 48 from rfl, h48] at h2
              exact .inl (by simpa using h2.symm)
            · exact HP.out j h (by omega))
          go_wp2_with fail
          go_roundg g
          case measure => omega
          case rel => exact ⟨k + 1, by omega, by go_num, HP2, rfl⟩
        · cases h49 : (b != 49)
          · have HP2 : Hid (∀ (j : Nat) (h : j < s.length), j < k + 1 → s[j] = 48 ∨ s[j] = 49) := Lib.hid (fun j h hj => by
              by_cases e : j = k
              · subst e
                have h2 := HB.out.1
                rw [show ((49 : Nat) : Int) = 49 from rfl, h49] at h2
                exact .inr (by simpa using h2.symm)
              · exact HP.out j h (by omega))
            go_wp2_with fail
            go_roundg g
            case measure => omega
            case rel => exact ⟨k + 1, by omega, by go_num, HP2, rfl⟩
          · have HRF : Hid (r = false) := Lib.hid (by
              rw [← HR.out]
              refine has_not ?_ c
              cases ho : okS s
              · rfl
              · exfalso
                have h2 := HB.out.1
                have h3 := HB.out.2
                rw [show ((49 : Nat) : Int) = 49 from rfl, h49] at h2
                rw [show ((48 : Nat) : Int) = 48 from rfl, h48] at h3
                rcases ok_byte ho hkl with e | e
                · rw [e] at h3; exact absurd h3 (by decide)
                · rw [e] at h2; exact absurd h2 (by decide))
            obtain rfl := HRF.out
            go_wp2_with fail
            go_ret
            exact ⟨rfl, rfl⟩
  · have hl2 : ((s.length : Int) != 256) = true := by rw [bne_iff_ne]; omega
    have HR : Hid (hasT s c = false) := Lib.hid (has_not (by
      unfold okS
      rw [show (s.length == 256) = false by simpa using hl]; rfl) c)
    rw [HR.out]
    clear hl
    go_enter Tryd.func10, Tryd.ntmps10
    go_wp2_with fail
    go_ret
    exact ⟨rfl, rfl⟩
/-- The first k bytes of a set's text. -/
def tk (f : Nat → Bool) (k : Nat) : Tx := (List.range k).map fun i => if f i then 49 else 48
theorem tk_len (f : Nat → Bool) (k : Nat) : (tk f k).length = k := by simp [tk]
theorem tk_succ (f : Nat → Bool) (k : Nat) : tk f (k + 1) = tk f k ++ [if f k then 49 else 48] := by
  unfold tk
  rw [List.range_succ, List.map_append]
  rfl
theorem tk_all (f : Nat → Bool) : tk f 256 = tb f := by rw [tb_tg]; rfl
set_option maxRecDepth 100000 in
set_option maxHeartbeats 4000000 in
theorem ref_Make (z : Nat) (f : Nat → Bool) (W : World) (h : W.heap[z]? = some (.cells (vb f) 4)) :
    Calls Tryd.prog 20 #[.slice (some ⟨z, 0, none⟩) 256 256] W fun e w' => e = .returned (.string (mk (tb f))) ∧ W = w' := by
  have e0 : (⟨#[]⟩ : ByteArray) = mk [] := rfl
  have e1 : (⟨#[48]⟩ : ByteArray) = mk [48] := rfl
  have e2 : (⟨#[49]⟩ : ByteArray) = mk [49] := rfl
  have happ := mk_append
  have HH := Lib.hid h
  have HT := Lib.hid (tk_all f)
  obtain ⟨T, hT⟩ : ∃ T, tb f = T := ⟨_, rfl⟩
  rw [hT] at HT ⊢
  clear h hT
  go_enter Tryd.func20, Tryd.ntmps20
  simp only [e0, e1, e2]
  clear e0 e1 e2
  go_wp2_with fail
  go_loopg [4, 3] 256 (fun g cv sv wx => ∃ (k : Nat) (s : Tx), k + g = 256 ∧ cv = .int .i64 k ∧ sv = .string (mk s) ∧ s.length = k ∧ Hid (s = tk f k) ∧ wx = W)
  case atStart => exact ⟨0, [], by omega, rfl, rfl, rfl, Lib.hid rfl, rfl⟩
  case round =>
    obtain ⟨k, s, hk, rfl, rfl, hsl, HS, rfl⟩ := hrel
    cases gk with
    | zero =>
      obtain rfl : k = 256 := by omega
      have hn : ¬ ((256 : Nat) : Int) < 256 := by omega
      go_wp2_with fail
      go_ret
      exact ⟨ret_str (congrArg mk (HS.out.trans HT.out)), rfl⟩
    | succ g =>
      have hn : (k : Int) < 256 := by omega
      have h0 : (0 : Int) ≤ (k : Int) := by omega
      have x0 := blk_cell HH.out k
      rw [vb_get _ (by omega)] at x0
      have HTS := Lib.hid (tk_succ f k)
      cases hf : f k
      · rw [hf] at x0 HTS
        go_wp2_with fail
        go_roundg g
        case measure => omega
        case rel => exact ⟨k + 1, s ++ [48], by omega, by go_num, rfl, by rw [List.length_append, hsl]; rfl, Lib.hid (by rw [HTS.out, ← HS.out]; rfl), rfl⟩
      · rw [hf] at x0 HTS
        go_wp2_with fail
        go_roundg g
        case measure => omega
        case rel => exact ⟨k + 1, s ++ [49], by omega, by go_num, rfl, by rw [List.length_append, hsl]; rfl, Lib.hid (by rw [HTS.out, ← HS.out]; rfl), rfl⟩
end Go.Proofs.YtmjggjccmbiheabDoor
