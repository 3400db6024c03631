/- The law's lives, step by step. -/
import Derived.Test.YtmjggjccmbiheabTreePut
namespace Go.Proofs.Ytmjggjccmbiheab
open Go Go.RowKit Go.Proofs Go.Sort
attribute [local go_sem] mk_list mk_size mk_data

def lv1 : TreeSt := (putS newS 1 [97] 1 []).1
def lv2 : TreeSt := (putS lv1 2 [98] 2 [120]).1
theorem lv1_eq : putS newS 1 [97] 1 [] = (lv1, 2, 0) := by
  have h : (putS newS 1 [97] 1 []).2 = (2, 0) := by decide +kernel
  exact Prod.ext rfl h
theorem lv2_eq : putS lv1 2 [98] 2 [120] = (lv2, 3, 0) := by
  have h : (putS lv1 2 [98] 2 [120]).2 = (3, 0) := by decide +kernel
  exact Prod.ext rfl h
theorem small_new : SmallT newS := by
  refine ⟨fun k p hp => ?_, by decide, by decide⟩
  unfold newS upd at hp
  simp only at hp
  split at hp
  · cases hp; exact ⟨by simp, by simp⟩
  · cases hp
theorem SmallT.enter {S : TreeSt} (h : SmallT S) {d : Int} {l : List En} (hd : (S.M d).isSome = true) (hl : l.length ≤ 100000 ∧ ∀ e ∈ l, 0 ≤ e.2 ∧ e.2 ≤ 1000000) : SmallT (enterS S d l) := by
  refine ⟨fun k p hp => ?_, ?_, h.last⟩
  · unfold enterS setM at hp
    simp only at hp
    by_cases e : k = d
    · subst e; rw [upd_same] at hp; cases hp; exact hl
    · rw [upd_other _ _ e] at hp; exact h.ents k p hp
  · unfold enterS setM
    simp only [hd, if_true]
    exact h.cnt
theorem lv1_is : lv1 = enterS (newN newS 1 1 []) 1 (putP (pn ((newN newS 1 1 []).M 1)).ents ([97], 2)) := by kernel_rfl
theorem small_lv1 : SmallT lv1 := by
  rw [lv1_is]
  refine (small_new.new (by decide) (by decide) 1 1 []).enter (by decide +kernel) ⟨by decide +kernel, ?_⟩
  have h : putP (pn ((newN newS 1 1 []).M 1)).ents ([97], 2) = [([97], 2)] := by decide +kernel
  rw [h]
  intro e he
  rw [List.mem_singleton] at he
  subst he
  decide
theorem lv2_data : (pn (lv2.M 3)).data = [120] := by decide +kernel
theorem lv2_cnt : lv2.cnt = 3 := by decide +kernel

set_option maxRecDepth 100000 in
set_option maxHeartbeats 4000000 in
theorem tree_lives (W : World) : Calls Try.prog 7 #[] W fun e w' => e = .returned (.bool true) ∧ Below W.heap.size W w' := by
  have e0 : (⟨#[]⟩ : ByteArray) = mk [] := rfl
  have e1 : (⟨#[97]⟩ : ByteArray) = mk [97] := rfl
  have e2 : (⟨#[98]⟩ : ByteArray) = mk [98] := rfl
  have e3 : (⟨#[120]⟩ : ByteArray) = mk [120] := rfl
  go_enter Try.func7, Try.ntmps7
  simp only [e0, e1, e2, e3]
  clear e0 e1 e2 e3
  go_wp2_with fail
  refine (tree_New W).mono ?_
  rintro e w1 ⟨⟨t, b, rfl, ht, hft, hfb⟩, hb1⟩
  have HF := Lib.hid (And.intro hb1 (And.intro hft hfb))
  have HP1 := Lib.hid (tree_Put_yes t b newS 1 [97] 1 [] w1 ht small_new (by decide) (by decide) (by decide) (by decide +kernel) (by decide +kernel) (by decide +kernel) (by decide +kernel) (by decide) (by decide))
  rw [lv1_eq] at HP1
  clear ht hb1 hft hfb
  go_wp2_with fail
  refine HP1.out.mono ?_
  rintro e w2 ⟨rfl, ht, hk⟩
  have HK := Lib.hid hk
  have HP2 := Lib.hid (tree_Put_yes t b lv1 2 [98] 2 [120] w2 ht small_lv1 (by decide) (by decide) (by decide) (by decide +kernel) (by decide +kernel) (by decide +kernel) (by decide +kernel) (by decide +kernel) (by decide +kernel))
  rw [lv2_eq] at HP2
  clear ht hk
  go_wp2_with fail
  refine HP2.out.mono ?_
  rintro e w3 ⟨rfl, ht, hk⟩
  have HK2 := Lib.hid (HK.out.trans hk)
  have HT := Lib.hid ht
  clear ht hk
  have HD := Lib.hid (tree_Data t b lv2 3 w3 HT.out (by decide))
  rw [lv2_data] at HD
  go_wp2_with fail
  refine HD.out.mono ?_
  rintro e w4 ⟨rfl, hb4⟩
  have HB4 := Lib.hid hb4
  have HL := Lib.hid (tree_Len t b lv2 w4 (HT.out.below hb4))
  rw [lv2_cnt] at HL
  clear hb4
  go_wp2_with fail
  refine HL.out.mono ?_
  rintro e w5 ⟨rfl, rfl⟩
  go_wp2_with fail
  go_ret
  exact ⟨rfl, Keep.under HF.out.1 (HK2.out.trans (Keep.below HB4.out)) HF.out.2.1 HF.out.2.2 HF.out.1.size⟩
end Go.Proofs.Ytmjggjccmbiheab
