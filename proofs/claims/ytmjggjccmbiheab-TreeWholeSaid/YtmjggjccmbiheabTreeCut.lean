/- Cut and Put, step by step. -/
import Derived.Test.YtmjggjccmbiheabTreeSet
namespace Go.Proofs.Ytmjggjccmbiheab
open Go Go.RowKit Go.Proofs Go.Sort
attribute [local go_sem] mk_list mk_size mk_data field0 field1 field2 field3

def dirE (S : TreeSt) (k : Int) : Int := if (pn (S.M k)).kind = 0 then 5 else if (pn (S.M k)).kind = 1 then 0 else 7
def cutS (S : TreeSt) (d : Int) (s : Tx) : TreeSt × Int :=
  if dirE S d ≠ 0 then (S, dirE S d) else if (findN S d s).2 = false then (S, 5) else if (pn (S.M (findN S d s).1)).ents ≠ [] then (S, 9) else
  (enterS (delM S (findN S d s).1) d (cutP (pn ((delM S (findN S d s).1).M d)).ents s), 0)
theorem SmallT.del {S : TreeSt} (h : SmallT S) (n : Int) : SmallT (delM S n) := by
  refine ⟨fun k p hp => ?_, ?_, h.last⟩
  · unfold delM at hp
    simp only at hp
    by_cases e : k = n
    · subst e; rw [upd_same] at hp; cases hp
    · rw [upd_other _ _ e] at hp; exact h.ents k p hp
  · unfold delM
    simp only
    have := h.cnt
    split <;> omega

set_option maxRecDepth 100000 in
set_option maxHeartbeats 4000000 in
theorem tree_Cut (t b : Nat) (S : TreeSt) (d : Int) (s : Tx) (W : World) (h : TreeAt W t b S) (hs : SmallT S) (hk : wfI d) :
    Calls Try.prog 17 #[.pointer (some ⟨t, 0, none⟩), .int .i64 d, .string (mk s)] W (OpTo t b (cutS S d s) W) := by
  have HD : Hid (Calls Try.prog 28 #[.pointer (some ⟨t, 0, none⟩), .int .i64 d] W fun e w' => e = .returned (.int .i64 (dirE S d)) ∧ Below W.heap.size W w') := Lib.hid (tree_dir t b S d W h hk)
  have HT := Lib.hid h
  have HK := Lib.hid (And.intro hk hs)
  obtain ⟨q, hq⟩ : ∃ q, dirE S d = q := ⟨_, rfl⟩
  obtain ⟨fi, hf⟩ : ∃ fi, findN S d s = fi := ⟨_, rfl⟩
  obtain ⟨n, ok⟩ := fi
  have HS : Hid (cutS S d s = if q ≠ 0 then (S, q) else if ok = false then (S, 5) else if (pn (S.M n)).ents ≠ [] then (S, 9) else (enterS (delM S n) d (cutP (pn ((delM S n).M d)).ents s), 0)) := Lib.hid (by unfold cutS; rw [hq, hf])
  have HN : Hid (wfI n) := Lib.hid (by have := find_bnd hs d s; rw [hf] at this; exact wf_small this.1 (by have := this.2; simp only at this; omega))
  have HF := Lib.hid hf
  rw [hq] at HD
  obtain ⟨r, hr⟩ : ∃ r, cutS S d s = r := ⟨_, rfl⟩
  rw [hr] at HS ⊢
  clear hq hf hr h hk hs
  by_cases hq0 : q = 0
  · subst hq0
    go_enter Try.func17, Try.ntmps17
    go_wp2_with fail
    refine HD.out.mono ?_
    rintro e w1 ⟨rfl, hb⟩
    have HB := Lib.hid hb
    obtain ⟨t0, _, hlt⟩ := (HT.out.below hb).cell
    obtain ⟨A, c, hln, he⟩ := (HT.out.below hb).node HK.out.1
    have hln := hln w1 (Below.refl _ _)
    have HFI := Lib.hid (ents_Find A c _ s w1 he (by have := (HK.out.2.pn d).1; omega))
    rw [show findE (allE (pn (S.M d)).ents) s = (n, ok) from HF.out] at HFI
    generalize pn (S.M d) = p at *
    obtain ⟨kd, up, da, es⟩ := p
    simp only at hln HFI
    clear hb he
    go_wp2_with fail
    refine HFI.out.mono ?_
    rintro e w2 ⟨rfl, hb2⟩
    have HB2 := Lib.hid (ext_trans HB.out hb2)
    obtain ⟨t0, _, hlt⟩ := (HT.out.below HB2.out).cell
    clear hb2 hln
    cases ok with
    | false =>
      have HS2 : Hid (r = (S, 5)) := HS
      obtain rfl := HS2.out
      go_wp2_with fail
      go_ret
      exact ⟨rfl, HT.out.below HB2.out, Keep.below HB2.out⟩
    | true =>
      obtain ⟨A2, c2, hln, _⟩ := (HT.out.below HB2.out).node HN.out
      have hln := hln w2 (Below.refl _ _)
      obtain ⟨p, hp⟩ : ∃ p, pn (S.M n) = p := ⟨_, rfl⟩
      rw [hp] at hln HS
      obtain ⟨kd2, up2, da2, es2⟩ := p
      simp only at hln HS
      clear hp
      cases es2 with
      | cons x es2 =>
        have HS2 : Hid (r = (S, 9)) := Lib.hid (by rw [HS.out]; simp)
        obtain rfl := HS2.out
        have hpos : ((es2.length + 1 : Nat) : Int) > 0 := by omega
        rw [List.length_cons] at hln
        go_wp2_with fail
        go_ret
        exact ⟨rfl, HT.out.below HB2.out, Keep.below HB2.out⟩
      | nil =>
        have HS2 : Hid (r = (enterS (delM S n) d (cutP (pn ((delM S n).M d)).ents s), 0)) := Lib.hid (by rw [HS.out]; simp)
        obtain rfl := HS2.out
        obtain ⟨w3, hrun, hT3, hK3⟩ := (HT.out.below HB2.out).drop HN.out 0
        have HT3 := Lib.hid hT3
        have HK3 := Lib.hid ((Keep.below HB2.out).trans hK3)
        obtain ⟨s0, _, hlt3⟩ := hT3.cell
        obtain ⟨A3, c3, hln3, he3⟩ := hT3.node HK.out.1
        have hln3 := hln3 w3 (Below.refl _ _)
        have HC := Lib.hid (ents_Cut A3 c3 _ s w3 he3 (by have := ((HK.out.2.del n).pn d).1; omega))
        generalize pn ((delM S n).M d) = p at *
        obtain ⟨kd3, up3, da3, es3⟩ := p
        simp only at hln3 HC
        clear hT3 hK3 he3
        rw [List.length_nil] at hln
        go_wp2_with fail
        refine HC.out.mono ?_
        rintro e w4 hg
        obtain ⟨v, rfl, ho, hb4⟩ := hg
        obtain ⟨A4, c4, rfl, he4, _⟩ := ho.at
        have HEN := Lib.hid (tree_enter t b (delM S n) d A4 c4 _ w4 (HT3.out.below hb4) HK.out.1 (by have := (HK.out.2.del n).cnt; omega) he4)
        have HK4 := Lib.hid (HK3.out.trans (Keep.below hb4))
        clear ho hb4 he4
        go_wp2_with fail
        refine HEN.out.mono ?_
        rintro e w5 ⟨rfl, hT5, hK5⟩
        have HR := Lib.hid (And.intro hT5 (HK4.out.trans hK5))
        clear hT5 hK5
        go_wp2_with fail
        go_ret
        exact ⟨rfl, HR.out.1, HR.out.2⟩
  · have hq0' : (q != 0) = true := by simpa using hq0
    have HS2 : Hid (r = (S, q)) := Lib.hid (by rw [HS.out, if_pos hq0])
    obtain rfl := HS2.out
    clear hq0
    go_enter Try.func17, Try.ntmps17
    go_wp2_with fail
    refine HD.out.mono ?_
    rintro e w1 ⟨rfl, hb⟩
    have HB := Lib.hid hb
    clear hb
    go_wp2_with fail
    go_ret
    exact ⟨rfl, HT.out.below HB.out, Keep.below HB.out⟩
end Go.Proofs.Ytmjggjccmbiheab
