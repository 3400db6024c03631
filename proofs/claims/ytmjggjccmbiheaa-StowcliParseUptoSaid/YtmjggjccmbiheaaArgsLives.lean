/- The law's lives, step by step. -/
import Derived.Test.YtmjggjccmbiheaaArgsHas
namespace Go.Proofs.Ytmjggjccmbiheaa
open Go Go.RowKit Go.Proofs Go.Sort
attribute [local go_sem] mk_list mk_size mk_data

theorem strs_new (w : World) (xs : List Tx) (t : TypeId) : StrsAt (w.alloc (.cells (xs.map fun x => Value.string (mk x)).toArray t)) (some ⟨w.heap.size, 0, none⟩) xs :=
  .inr ⟨w.heap.size, 0, rfl, by simp, fun j hj => by rw [Nat.zero_add, cellA_new]; simp [hj]⟩

def simT : Tx := [115, 105, 109, 117, 108, 97, 116, 101]
def dirT : Tx := [100, 105, 114]
def specsL : List SpecT := [⟨simT, 110, 0⟩, ⟨dirT, 100, 1⟩]
set_option maxHeartbeats 1000000 in
theorem args_specs (w : World) : Calls Try.prog 73 #[] w fun e w' => ∃ A c, e = .returned (.slice A specsL.length c) ∧ SpecsAt w' A specsL ∧ Below w.heap.size w w' := by
  go_enter Try.func73, Try.ntmps73
  go_wp2_with fail
  go_ret
  refine ⟨_, _, rfl, .inr ⟨w.heap.size, 0, rfl, by simp, fun j hj i v hv => ?_⟩, (Below.refl _ _).alloc (Nat.le_refl _) _⟩
  rw [Nat.zero_add, cellA_new]
  have hj2 : j < 2 := hj
  rcases (show j = 0 ∨ j = 1 by omega) with rfl | rfl
  · match i, hv with
    | 0, hv => rw [← hv]; rfl
    | 1, hv => rw [← hv]; rfl
    | 2, hv => rw [← hv]; rfl
    | k + 3, hv => simp [specC] at hv
  · match i, hv with
    | 0, hv => rw [← hv]; rfl
    | 1, hv => rw [← hv]; rfl
    | 2, hv => rw [← hv]; rfl
    | k + 3, hv => simp [specC] at hv

def wordsL : List Tx := [[45, 110, 100], [47, 115], [112]]
def itemsL : List ItemT := [⟨simT, []⟩, ⟨dirT, [[47, 115]]⟩, ⟨[], [[112]]⟩]
theorem parse_lives : parseS specsL wordsL = .inl itemsL := by decide +kernel
theorem has_lives : hasS itemsL simT = true := by decide +kernel
theorem vals_lives : valuesS itemsL dirT = [[47, 115]] := by decide +kernel
theorem opds_lives : valuesS itemsL [] = [[112]] := by decide +kernel

set_option maxRecDepth 100000 in
set_option maxHeartbeats 4000000 in
theorem args_lives (w : World) : Calls Try.prog 26 #[] w fun e w' => e = .returned (.bool true) ∧ Below w.heap.size w w' := by
  have e1 : (⟨#[45, 110, 100]⟩ : ByteArray) = mk [45, 110, 100] := rfl
  have e2 : (⟨#[47, 115]⟩ : ByteArray) = mk [47, 115] := rfl
  have e3 : (⟨#[112]⟩ : ByteArray) = mk [112] := rfl
  have e4 : (⟨#[115, 105, 109, 117, 108, 97, 116, 101]⟩ : ByteArray) = mk simT := rfl
  have e5 : (⟨#[100, 105, 114]⟩ : ByteArray) = mk dirT := rfl
  go_enter Try.func26, Try.ntmps26
  simp only [e1, e2, e3, e4, e5]
  clear e1 e2 e3 e4 e5
  go_wp2_with fail
  refine (args_specs w).mono ?_
  rintro e w1 ⟨A, c, rfl, hs, hb1⟩
  have HS := Lib.hid hs
  have HB1 := Lib.hid hb1
  clear hs hb1
  have HP := Lib.hid (args_Parse A c specsL (some ⟨w1.heap.size, 0, none⟩) 3 wordsL (w1.alloc (.cells #[.string (mk [45, 110, 100]), .string (mk [47, 115]), .string (mk [112])] 9)) (HS.out.below ((Below.refl _ _).alloc (Nat.le_refl _) _)) (strs_new w1 wordsL 9) (by decide) (by decide) (by decide))
  rw [parse_lives] at HP
  go_wp2_with fail
  refine HP.out.mono ?_
  rintro e w2 ⟨⟨B, d, rfl, hi, _⟩, hb2⟩
  have HI := Lib.hid hi
  have HB2 : Hid (Below w.heap.size w w2) := Lib.hid (below_then (HB1.out.alloc HB1.out.size _) (by have := HB1.out.size; simp; omega) hb2)
  clear hi hb2 HP
  have HH := Lib.hid (args_Has B d itemsL simT w2 HI.out (by decide))
  rw [has_lives] at HH
  go_wp2_with fail
  refine HH.out.mono ?_
  rintro e w3 ⟨rfl, hb3⟩
  have HI3 := Lib.hid (HI.out.below hb3)
  have HB3 := Lib.hid (ext_trans HB2.out hb3)
  clear hb3 HH
  have HV := Lib.hid (args_Values B d itemsL dirT w3 HI3.out (by decide) (by decide))
  rw [vals_lives] at HV
  go_wp2_with fail
  refine HV.out.mono ?_
  rintro e w4 ⟨v4, rfl, ho4, hb4⟩
  obtain ⟨a4, c4, rfl, k4, _, _⟩ := StrsAt.own ho4
  have HI4 := Lib.hid (HI3.out.below hb4)
  have HB4 := Lib.hid (ext_trans HB3.out hb4)
  have K4 := Lib.hid k4
  clear hb4 HV ho4 k4
  have HM := Lib.hid (same_ a4 (some ⟨w4.heap.size, 0, none⟩) c4 1 [[47, 115]] [[47, 115]] (w4.alloc (.cells #[.string (mk [47, 115])] 9)) (K4.out.below ((Below.refl _ _).alloc (Nat.le_refl _) _)) (strs_new w4 [[47, 115]] 9) (by decide))
  rw [show decide (([[47, 115]] : List Tx) = [[47, 115]]) = true by decide] at HM
  go_wp2_with fail
  refine HM.out.mono ?_
  rintro e w5 ⟨rfl, hq⟩
  have HB5 := Lib.hid (And.intro (below_then (HB4.out.alloc HB4.out.size _) (by have := HB4.out.size; simp; omega) (below_alike hq)) (below_then ((Below.refl _ w4).alloc (Nat.le_refl _) (.cells #[.string (mk [47, 115])] 9)) (by simp) (below_alike hq)))
  clear hq HM
  have HI5 := Lib.hid (HI4.out.below HB5.out.2)
  have HO := Lib.hid (args_Operands B d itemsL w5 HI5.out (by decide) (by decide))
  rw [opds_lives] at HO
  go_wp2_with fail
  refine HO.out.mono ?_
  rintro e w6 ⟨v6, rfl, ho6, hb6⟩
  obtain ⟨a6, c6, rfl, k6, _, _⟩ := StrsAt.own ho6
  have HB6 := Lib.hid (ext_trans HB5.out.1 hb6)
  have K6 := Lib.hid k6
  clear hb6 HO ho6 k6
  have HM := Lib.hid (same_ a6 (some ⟨w6.heap.size, 0, none⟩) c6 1 [[112]] [[112]] (w6.alloc (.cells #[.string (mk [112])] 9)) (K6.out.below ((Below.refl _ _).alloc (Nat.le_refl _) _)) (strs_new w6 [[112]] 9) (by decide))
  rw [show decide (([[112]] : List Tx) = [[112]]) = true by decide] at HM
  go_wp2_with fail
  refine HM.out.mono ?_
  rintro e w7 ⟨rfl, hq⟩
  have HB7 := Lib.hid (below_then (HB6.out.alloc HB6.out.size (.cells #[.string (mk [112])] 9)) (by have := HB6.out.size; simp; omega) (below_alike hq))
  clear hq HM
  go_wp2_with fail
  go_ret
  exact ⟨rfl, HB7.out⟩
end Go.Proofs.Ytmjggjccmbiheaa
