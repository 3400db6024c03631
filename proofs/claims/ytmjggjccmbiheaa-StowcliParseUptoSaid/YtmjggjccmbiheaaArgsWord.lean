/- args.reader.word, step by step. -/
import Derived.Test.YtmjggjccmbiheaaArgsShort
namespace Go.Proofs.Ytmjggjccmbiheaa
open Go Go.RowKit Go.Proofs Go.Sort
attribute [local go_sem] mk_list mk_size mk_data

set_option maxRecDepth 100000 in
set_option maxHeartbeats 4000000 in
theorem args_word (t : Tx) (w0 W : World) (base R : Nat) (sa : Option Addr) (sc : Nat) (ss : List SpecT) (wa : Option Addr) (wc : Nat) (ws : List Tx) (k : Nat) (v : Value) (items : List ItemT) (H : Ready W base R sa sc ss wa wc ws k v items) (HU : Under base sa wa w0 ss ws) (HW : Below base w0 W) (ht : t.length ≤ 1000000000) (hl : items.length ≤ 1000000000) :
    Calls Try.prog 77 #[.pointer (some ⟨R, 0, none⟩), .string (mk t)] W (Does base R (.slice sa ss.length sc) (.slice wa ws.length wc) k v items (wordS ss t (ws.drop (k + 1))) W) := by
  have hp := Try.strings_HasPrefix (mk t) (mk [45, 45]) W
  rw [mk_data, mk_data] at hp
  have HLS : Hid (wordS ss t (ws.drop (k + 1)) = if Lib.hasPrefix t [45, 45] then longS ss (t.drop 2) (ws.drop (k + 1)) else if decide (1 < t.length) && t.head? == some 45 then shortS ss (t.drop 1) (ws.drop (k + 1)) else some ([opdT t], 0)) := Lib.hid rfl
  have HL := Lib.hid (args_long (t.drop 2) W base R sa sc ss wa wc ws k v items H (by rw [List.length_drop]; omega) (by omega))
  have HS := Lib.hid (args_short (t.drop 1) w0 W base R sa sc ss wa wc ws k v items H HU HW (by rw [List.length_drop]; omega) hl)
  have HO := Lib.hid (args_operand t W base R (.slice sa ss.length sc) (.slice wa ws.length wc) k v items H.st (by omega))
  obtain ⟨r, hr⟩ : ∃ r, wordS ss t (ws.drop (k + 1)) = r := ⟨_, rfl⟩
  rw [hr] at HLS ⊢
  clear hr H HU HW
  have hk : (⟨#[45, 45]⟩ : ByteArray) = mk [45, 45] := rfl
  have h2 : Lib.hasPrefix t [45, 45] = true → 2 ≤ t.length := fun h => by
    unfold Lib.hasPrefix at h
    have := (List.isPrefixOf_iff_prefix.1 h).length_le
    simpa using this
  obtain ⟨n, hn⟩ : ∃ n, t.length = n := ⟨_, rfl⟩
  have e1 := mk_extract t 2 n
  have e2 := mk_extract t 1 n
  rw [List.take_of_length_le (by rw [List.length_drop]; omega)] at e1 e2
  have hs : (mk t).size = n := by rw [mk_size]; exact hn
  generalize t.drop 1 = t1 at *
  generalize t.drop 2 = t2 at *
  have HHD : Hid (∀ (hpos : 0 < (mk t).size) (b : Int), (((mk t)[0]'hpos).toNat : Int) = b → (t.head? == some 45) = (b == 45)) := Lib.hid (fun hpos b hb => by
    cases t with
    | nil => simp [mk_size] at hpos
    | cons c l =>
      have hb2 : ((c.toNat : Nat) : Int) = b := hb
      rw [← hb2, show (45 : Int) = ((45 : Nat) : Int) from rfl, byte_eq c 45 (by omega)]
      rfl)
  cases hpre : Lib.hasPrefix t [45, 45]
  · rw [hpre] at hp HLS
    simp only [Bool.false_eq_true, if_false] at HLS
    have HP := Lib.hid hp
    by_cases h1 : 1 < n
    · have hpos : 0 < (mk t).size := by rw [hs]; omega
      obtain ⟨b, hb⟩ : ∃ b : Int, (((mk t)[0]'hpos).toNat : Int) = b := ⟨_, rfl⟩
      have hhd := HHD.out hpos b hb
      have hpos2 : 0 < n := by omega
      have hI1 : (1 : Int) < (n : Int) := by omega
      have hd1 : decide (1 < n) = true := by simpa using h1
      rw [hn, hd1, hhd, Bool.true_and] at HLS
      clear hhd hp h2 hd1 HHD
      cases hb45 : (b == 45)
      · rw [hb45] at HLS
        obtain rfl := HLS.out
        simp only [hk] at *
        go_enter Try.func77, Try.ntmps77
        go_wp2_with (first | (go_at_call 93; refine HP.out.mono ?_; rintro e w' ⟨rfl, rfl⟩) | (go_at_call 76; refine HO.out.mono ?_; rintro e w' ⟨rfl, hm⟩; have HM := Lib.hid hm; clear hm))
        go_ret
        exact ⟨rfl, HM.out⟩
      · rw [hb45] at HLS
        simp only [if_true] at HLS
        have hr : Hid (r = shortS ss t1 (ws.drop (k + 1))) := Lib.hid HLS.out
        rw [← hr.out] at HS
        go_enter Try.func77, Try.ntmps77
        simp only [hk]
        go_wp2_with (go_at_call 93; refine HP.out.mono ?_; rintro e w' ⟨rfl, rfl⟩)
        cases r with
        | none =>
          refine HS.out.mono ?_
          rintro e w' ⟨rfl, hm⟩
          have HM := Lib.hid hm
          clear hm
          go_wp2_with fail
          go_ret
          exact ⟨rfl, HM.out⟩
        | some r =>
          obtain ⟨x, y⟩ := r
          refine HS.out.mono ?_
          rintro e w' ⟨rfl, hm⟩
          have HM := Lib.hid hm
          clear hm
          go_wp2_with fail
          go_ret
          exact ⟨rfl, HM.out⟩
    · have hd1 : decide (1 < n) = false := by simpa using h1
      have hI1 : ¬ ((1 : Int) < (n : Int)) := by omega
      rw [hn, hd1] at HLS
      simp only [Bool.false_and, Bool.false_eq_true, if_false] at HLS
      obtain rfl := HLS.out
      clear hd1 HHD hp h2
      simp only [hk] at *
      go_enter Try.func77, Try.ntmps77
      go_wp2_with (first | (go_at_call 93; refine HP.out.mono ?_; rintro e w' ⟨rfl, rfl⟩) | (go_at_call 76; refine HO.out.mono ?_; rintro e w' ⟨rfl, hm⟩; have HM := Lib.hid hm; clear hm))
      go_ret
      exact ⟨rfl, HM.out⟩
  · rw [hpre] at hp HLS
    simp only [if_true] at HLS
    have hn2 := h2 hpre
    have hr : Hid (r = longS ss t2 (ws.drop (k + 1))) := Lib.hid HLS.out
    rw [← hr.out] at HL
    have HP := Lib.hid hp
    have hI2 : (2 : Int) ≤ (n : Int) := by omega
    clear hp h2 HHD
    go_enter Try.func77, Try.ntmps77
    simp only [hk]
    go_wp2_with (go_at_call 93; refine HP.out.mono ?_; rintro e w' ⟨rfl, rfl⟩)
    cases r with
    | none =>
      refine HL.out.mono ?_
      rintro e w' ⟨rfl, hm⟩
      have HM := Lib.hid hm
      clear hm
      go_wp2_with fail
      go_ret
      exact ⟨rfl, HM.out⟩
    | some r =>
      obtain ⟨x, y⟩ := r
      refine HL.out.mono ?_
      rintro e w' ⟨rfl, hm⟩
      have HM := Lib.hid hm
      clear hm
      go_wp2_with fail
      go_ret
      exact ⟨rfl, HM.out⟩
end Go.Proofs.Ytmjggjccmbiheaa
