/- strings.Cut at '='. -/
import Derived.Test.YtmjggjccmbiheaaArgsPlain
import Derived.Test.YtmjggjccmbiheaaPaths
namespace Go.Proofs.Ytmjggjccmbiheaa
open Go.RowKit Go.Proofs Go.Sort
attribute [local go_sem] mk_list mk_size mk_data
theorem after_nilC {l : Tx} (h : l.contains 61 = false) : afterC 61 l = [] := by
  have h1 : oneC 61 l = l := by
    unfold oneC
    apply takeWhile_all
    intro x hx
    rw [bne_iff_ne]
    rintro rfl
    simp [hx] at h
  unfold afterC
  rw [h1]
  exact List.drop_of_length_le (by omega)
theorem one_consC {c : UInt8} {l : Tx} (hc : c ≠ 61) : oneC 61 (c :: l) = c :: oneC 61 l := by
  unfold oneC
  rw [List.takeWhile_cons, if_pos (by simpa using hc)]
theorem one_atC : ∀ (l : Tx), l.contains 61 = true → Lib.indexByte l 61 = ((oneC 61 l).length : Int) ∧ (oneC 61 l).length < l.length
  | [], h => by simp at h
  | c :: l, h => by
    by_cases hc : c = 61
    · subst hc; simp [oneC, Lib.indexByte]
    · have h3 : l.contains 61 = true := by
        rw [List.contains_cons] at h
        simpa [Ne.symm hc] using h
      obtain ⟨h1, h2⟩ := one_atC l h3
      have hb : (c == 61) = false := by simpa using hc
      have hn : (Lib.indexByte l 61 == -1) = false := by rw [h1, beq_eq_false_iff_ne]; omega
      rw [one_consC hc]
      unfold Lib.indexByte
      rw [hb, hn, h1]
      simp only [Bool.false_eq_true, if_false, List.length_cons]
      omega
theorem one_notC : ∀ (l : Tx), l.contains 61 = false → Lib.indexByte l 61 = -1
  | [], _ => rfl
  | c :: l, h => by
    rw [List.contains_cons, Bool.or_eq_false_iff] at h
    have hc : (c == 61) = false := by
      rw [beq_eq_false_iff_ne]; rintro rfl; simp at h
    unfold Lib.indexByte
    rw [hc, one_notC l h.2]
    rfl
theorem one_selfC {l : Tx} (h : l.contains 61 = false) : oneC 61 l = l := by
  unfold oneC
  apply takeWhile_all
  intro x hx
  rw [bne_iff_ne]
  rintro rfl
  simp [hx] at h
theorem one_takeC (l : Tx) : l.take (oneC 61 l).length = oneC 61 l := take_takeWhile _ l

set_option maxHeartbeats 1000000 in
/-- strings.Cut at a slash. -/
theorem cut_eq (l : Tx) (w : World) (hl : l.length ≤ 140737488355328) :
    Calls Try.prog 159 #[.string (mk l), .string (mk [61])] w fun e w' => e = .returned (.tuple #[.string (mk (oneC 61 l)), .string (mk (afterC 61 l)), .bool (l.contains 61)]) ∧ ∃ q, w' = w.drewN q := by
  have hi := Try.stringslite_Index_one (mk l) 61 w
  rw [mk_data] at hi
  have hk : (⟨#[61]⟩ : ByteArray) = mk [61] := rfl
  rw [hk] at hi
  cases h : l.contains 61
  · rw [one_notC l h] at hi
    have HO := Lib.hid (And.intro (one_selfC h) (after_nilC h))
    go_enter Try.func159, Try.ntmps159
    go_wp2_with (go_at_call 171; refine hi.mono ?_; rintro e w' ⟨rfl, rfl⟩)
    go_ret3
    exact ⟨by rw [HO.out.1, HO.out.2]; rfl, 0, rfl⟩
  · obtain ⟨h1, h2⟩ := one_atC l h
    rw [h1] at hi
    have HA := Lib.hid (show afterC 61 l = l.drop ((oneC 61 l).length + 1) from rfl)
    have HT := Lib.hid (one_takeC l)
    obtain ⟨k, hk⟩ : ∃ k, (oneC 61 l).length = k := ⟨_, rfl⟩
    rw [hk] at hi h2 HA HT
    obtain ⟨n, hn⟩ : ∃ n, l.length = n := ⟨_, rfl⟩
    have HN := Lib.hid hn
    rw [hn] at h2 hl
    have e1 := mk_extract l 0 k
    have e2 := mk_extract l (k + 1) n
    rw [List.drop_zero, Nat.sub_zero, HT.out] at e1
    rw [List.take_of_length_le (by rw [List.length_drop]; omega), ← HA.out] at e2
    have hs : (mk l).size = n := by rw [mk_size]; exact hn
    have hk1 : ((k : Int) + 1) ≤ (n : Int) := by omega
    have hk2 : (k : Int) ≤ (n : Int) := by omega
    have hk0 : (0 : Int) ≤ (k : Int) := by omega
    clear hk hn
    go_enter Try.func159, Try.ntmps159
    go_wp2_with (go_at_call 171; refine hi.mono ?_; rintro e w' ⟨rfl, rfl⟩)
    go_quiet (fail)
    go_wp2_with fail
    go_ret3
    exact ⟨rfl, _, rfl⟩
theorem strings_Cut_eq (l : Tx) (w : World) (hl : l.length ≤ 140737488355328) :
    Calls Try.prog 132 #[.string (mk l), .string (mk [61])] w fun e w' => e = .returned (.tuple #[.string (mk (oneC 61 l)), .string (mk (afterC 61 l)), .bool (l.contains 61)]) ∧ ∃ q, w' = w.drewN q := by
  have hc := cut_eq l w hl
  generalize oneC 61 l = x at *
  generalize afterC 61 l = y at *
  generalize l.contains 61 = b at *
  go_enter Try.func132, Try.ntmps132
  go_wp2_with (go_at_call 159; refine hc.mono ?_; rintro e w' ⟨rfl, q, rfl⟩)
  go_ret3
  exact ⟨rfl, q, rfl⟩
end Go.Proofs.Ytmjggjccmbiheaa
