/- path.parts: what its iterator gives, step by step. -/
import Derived.Test.YtmjggjccmbiheaaPaths
import Derived.Test.YtmjggjccmbiheaaRangeBox
namespace Go.Proofs.Ytmjggjccmbiheaa
open Go Go.RowKit Go.Proofs Go.Sort Go.Shelf
attribute [local go_sem] mk_list mk_size mk_data
attribute [local go_sem] Oper.semAt_some

/-- How long the text in the box is. -/
def leftIn (B : Nat) (W : World) : Nat := match W.cell? ⟨B, 0, none⟩ with
  | some (.string s) => s.size
  | _ => 0
theorem leftIn_eq {B : Nat} {W : World} {l : Tx} (h : W.cell? ⟨B, 0, none⟩ = some (.string (mk l))) : leftIn B W = l.length := by unfold leftIn; rw [h]; rfl

theorem grown_drewN (W : World) (q : Nat) : W.grownBy (W.drewN q) none := ⟨rfl, rfl, rfl, Nat.le_refl _, fun _ _ _ => rfl⟩

set_option maxRecDepth 100000 in
set_option maxHeartbeats 2000000 in
theorem parts_iter (n Bn N : Nat) (hn : 1 ≤ n) (t : Tx) (ht : t.length ≤ 140737488355328) (hN : (partsL t).length ≤ N) (W0 : World) (hB : Boxed W0 Bn 9 (.string (mk t))) :
    SeqBox Fence.wide n Try.prog 149 #[.pointer (some ⟨Bn, 0, none⟩)] (fun x : Tx => #[.string (mk x)]) Bn (fun xs => xs = partsL t) N W0 := by
  intro l J W hW hJg hJb hY h0
  have hBW : Boxed W Bn 9 (.string (mk t)) := hW.trans hB
  refine callsIn_of_wp Try.func149 rfl trivial ?_ rfl
  simp only [Try.ntmps149, List.size_toArray, List.length_cons, List.length_nil, Nat.reduceAdd, Nat.reduceSub, Array.replicate_succ, Array.replicate_zero, List.push_toArray, List.append_toArray, List.nil_append, List.cons_append]
  gi_wp2
  gi_loopw [3] (fun p wr => ∃ (pre : List Tx) (cur : Tx), Boxed wr Bn 9 (.string (mk cur)) ∧ cur.length ≤ 140737488355328 ∧ pre ++ partsL cur = partsL t ∧ J pre wr)
    (fun p wr => leftIn Bn wr)
  case atStart => exact ⟨[], t, hBW, ht, by simp, h0⟩
  case round =>
    obtain ⟨pre, cur, hb, hcl, hp, hj⟩ := hrel
    have c1 := hb.cell
    by_cases he : cur = []
    · subst he
      have HP := Lib.hid (show pre = partsL t by rw [← hp, partsL_nil, List.append_nil])
      gi_wp2
      go_end0
      exact ⟨⟨_, rfl⟩, pre, HP.out, hj⟩
    · have he' : (cur == []) = false := by simpa using he
      have HC := Lib.hid (strings_Cut_slash cur wr hcl)
      have HST := Lib.hid (partsL_step cur)
      have HLT := Lib.hid (after_lt he)
      have HAL : Hid ((after cur).length ≤ 140737488355328) := Lib.hid (by have := after_lt he; omega)
      have hk : (⟨#[47]⟩ : ByteArray) = mk [47] := rfl
      obtain ⟨x, hx⟩ : ∃ x, one cur = x := ⟨_, rfl⟩
      obtain ⟨y, hy⟩ : ∃ y, after cur = y := ⟨_, rfl⟩
      obtain ⟨b, hbb⟩ : ∃ b, cur.contains 47 = b := ⟨_, rfl⟩
      rw [hx, hy] at HST
      rw [hy] at HLT HAL
      rw [hx, hy, hbb] at HC
      clear hx hy hbb
      simp only [hk]
      have hk2 : (⟨#[46]⟩ : ByteArray) = mk [46] := rfl
      simp only [hk2]
      by_cases hx0 : x = []
      · subst hx0
        gi_wp2_with (refine ⟨trivial, ?_⟩; gi_at_call 132; refine (callsIn_wide.2 HC.out).mono ?_; rintro e w' ⟨rfl, q, hq⟩; have hb1 : Boxed w' Bn 9 (.string (mk cur)) := (by rw [hq]; exact hb); have hj1 := hJg _ _ w' hj (by rw [hq]; exact grown_drewN _ _); have c2 := hb1.cell; have z2 := hb1.frozen; have HM := Lib.hid (leftIn_eq c1); clear hq hb hj c1)
        refine ⟨fun _ h => (by cases h), ?_⟩
        gi_wp2
        go_roundw
        case rel => exact ⟨pre, y, hb1.set _, HAL.out, by rw [← hp, HST.out]; rw [if_neg (by decide)]; rfl, hJb _ _ _ hj1⟩
        case measure => rw [leftIn_eq (hb1.set (.string (mk y))).cell, HM.out]; exact HLT.out
      · by_cases hx1 : x = [46]
        · subst hx1
          gi_wp2_with (refine ⟨trivial, ?_⟩; gi_at_call 132; refine (callsIn_wide.2 HC.out).mono ?_; rintro e w' ⟨rfl, q, hq⟩; have hb1 : Boxed w' Bn 9 (.string (mk cur)) := (by rw [hq]; exact hb); have hj1 := hJg _ _ w' hj (by rw [hq]; exact grown_drewN _ _); have c2 := hb1.cell; have z2 := hb1.frozen; have HM := Lib.hid (leftIn_eq c1); clear hq hb hj c1)
          refine ⟨fun _ h => (by cases h), ?_⟩
          gi_wp2
          go_roundw
          case rel => exact ⟨pre, y, hb1.set _, HAL.out, by rw [← hp, HST.out]; rw [if_neg (by decide)]; rfl, hJb _ _ _ hj1⟩
          case measure => rw [leftIn_eq (hb1.set (.string (mk y))).cell, HM.out]; exact HLT.out
        · have hx2 : List.isEmpty x = false := by cases x <;> simp at hx0 ⊢
          have hx3 : (x == [46]) = false := by simpa using hx1
          have hok : okP x = true := by unfold okP; rw [hx3]; simp [hx0]
          have hlen : pre.length < N := by
            rw [HST.out, hok] at hp
            have h9 := congrArg List.length hp
            simp at h9
            omega
          gi_wp2_with (refine ⟨trivial, ?_⟩; gi_at_call 132; refine (callsIn_wide.2 HC.out).mono ?_; rintro e w' ⟨rfl, q, hq⟩; have hb1 : Boxed w' Bn 9 (.string (mk cur)) := (by rw [hq]; exact hb); have hj1 := hJg _ _ w' hj (by rw [hq]; exact grown_drewN _ _); have c2 := hb1.cell; have z2 := hb1.frozen; have HM := Lib.hid (leftIn_eq c1); clear hq hb hj c1; obtain ⟨fn, tmps, assign, body, hy, hR⟩ := hY pre x w' hj1 hlen)
          refine hR.mono ?_
          rintro e W3 ⟨rfl, hj3, hb3⟩
          have hb3 : Boxed W3 Bn 9 (.string (mk cur)) := hb3.trans hb1
          have c3 := hb3.cell
          have z3 := hb3.frozen
          gi_wp2
          go_roundw
          case rel => exact ⟨pre ++ [x], y, hb3.set _, HAL.out, by rw [← hp, HST.out, if_pos hok, List.append_assoc], hJb _ _ _ hj3⟩
          case measure => rw [leftIn_eq (hb3.set (.string (mk y))).cell, HM.out]; exact HLT.out
end Go.Proofs.Ytmjggjccmbiheaa
