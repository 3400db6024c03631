/- NameSorts: for all texts the law's call answers true: name.Sort is the reference's, and name.Find tells what the reference tells. -/
import Derived.Test.YtmjggjccmbiheaaSortRef
import Derived.Test.YtmjggjccmbiheaaNameRef
namespace Go.Proofs.Ytmjggjccmbiheaa
open Go.RowKit Go.Proofs Go.Sort
attribute [local go_sem] mk_list mk_size mk_data

theorem ext_drewN (w : World) (n : Nat) : Below w.heap.size w (w.drewN n) := below_drewN (Below.refl _ _) n

set_option maxHeartbeats 2000000 in
theorem sorts (a : Option Addr) (c : Nat) (l : List Tx) (s : Tx) (w : World) (h : StrsAt w a l) (hn : l.length ≤ 9223372036854775807) (_hs : s.length ≤ 140737488351232) :
    Calls Try.prog 7 #[.slice a l.length c, .string (mk s)] w fun e w' => e = .returned (.bool true) ∧ Below w.heap.size w w' := by
  by_cases h100 : 100 < l.length
  · obtain ⟨n, hnx⟩ : ∃ n, l.length = n := ⟨_, rfl⟩
    rw [hnx] at hn h100 ⊢
    clear hnx
    go_enter Try.func7, Try.ntmps7
    go_wp2_with (go_at_call 25; refine (name_lives _).mono ?_; rintro e w' ⟨rfl, hb⟩)
    go_ret
    exact ⟨rfl, hb⟩
  · have hs := sorted_length l
    have hlt := sorted_lt l
    have hSort := name_Sort a c l w h (by omega)
    have hl0 : l.length ≤ 1000000000 := by omega
    obtain ⟨n, hnx⟩ : ∃ n, l.length = n := ⟨_, rfl⟩
    have HN := Lib.hid hnx
    obtain ⟨Y, hY⟩ : ∃ Y, sorted l = Y := ⟨_, rfl⟩
    have HY := Lib.hid hY
    rw [hY] at hs hlt hSort
    rw [hnx] at hn h100 hSort hs hl0 ⊢
    have HL := Lib.hid hlt
    have HS := Lib.hid h
    clear hnx hY hlt h
    go_enter Try.func7, Try.ntmps7
    go_wp2_with fail
    refine hSort.mono ?_
    rintro e w1 ⟨a1, c1, rfl, h1, k1, b1⟩
    have H1 := Lib.hid h1
    clear hSort h1
    obtain ⟨m, hm⟩ : ∃ m, Y.length = m := ⟨_, rfl⟩
    have HM := Lib.hid hm
    rw [hm] at hs k1 ⊢
    clear hm
    go_wp2_with fail
    have c1f := name_Find a1 c1 Y s w1 H1.out (by have := HM.out; omega) HL.out
    rw [HM.out] at c1f
    refine c1f.mono ?_
    rintro e w2 ⟨rfl, q2, hw2⟩
    have b2 : Below w1.heap.size w1 w2 := by rw [hw2]; exact ext_drewN _ _
    clear c1f hw2
    go_wp2_with fail
    have c2f := ref_Find a1 c1 Y s w2 (H1.out.below b2) (by have := HM.out; omega)
    rw [HM.out] at c2f
    refine c2f.mono ?_
    rintro e w3 ⟨rfl, q3, hw3⟩
    have b3 : Below w2.heap.size w2 w3 := by rw [hw3]; exact ext_drewN _ _
    clear c2f hw3
    go_wp2_with fail
    have b03 := ext_trans (ext_trans b1 b2) b3
    have c3f := ref_Sort a c l w3 (HS.out.below b03) (by have := HN.out; omega)
    rw [HN.out, HY.out] at c3f
    refine c3f.mono ?_
    rintro e w4 ⟨a4, c4, rfl, h4, k4, b4⟩
    have H4 := Lib.hid h4
    rw [HM.out] at k4 ⊢
    clear c3f h4
    go_wp2_with fail
    have b14 := ext_trans (ext_trans b2 b3) b4
    have c4f := same_ a1 a4 c1 c4 Y Y w4 (H1.out.below b14) H4.out (by have := HM.out; omega)
    rw [HM.out, decide_eq_true rfl] at c4f
    refine c4f.mono ?_
    rintro e w5 ⟨rfl, q5, hw5⟩
    have b5 : Below w4.heap.size w4 w5 := by rw [hw5]; exact ext_drewN _ _
    clear c4f hw5 b03 b14
    go_wp2_with (go_at_call 25; refine (name_lives _).mono ?_; rintro e w' ⟨rfl, hb⟩)
    go_ret
    exact ⟨rfl, by repeat (first | exact Below.refl _ _ | assumption | refine ext_trans ?_ (by assumption))⟩
end Go.Proofs.Ytmjggjccmbiheaa
