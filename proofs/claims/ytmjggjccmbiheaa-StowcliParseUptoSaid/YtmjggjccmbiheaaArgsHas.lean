/- args.Has and the law's lives, step by step. -/
import Derived.Test.YtmjggjccmbiheaaArgsVals
namespace Go.Proofs.Ytmjggjccmbiheaa
open Go Go.RowKit Go.Proofs Go.Sort
attribute [local go_sem] mk_list mk_size mk_data

/-- An item's cells as they lie. -/
structure RawV where
  long : Tx
  s : Value
instance : Inhabited RawV := ⟨⟨[], .slice none 0 0⟩⟩
def rawV (x : RawV) : List Value := [.string (mk x.long), x.s]

theorem has_1 (x : RawV) (B : Nat) (n : Tx) (w : World) (h : w.cell? ⟨B, 0, none⟩ = some (.string (mk n))) (hx : x.s.oneCell' = true) :
    Calls Try.prog 104 #[.agg (rawV x).toArray, .pointer (some ⟨B, 0, none⟩)] w fun e w' => e = .returned (.bool (x.long == n)) ∧ Below w.heap.size w w' := by
  have hB := World.block_lt_of_cell? w _ h
  simp only at hB
  unfold rawV
  obtain ⟨l, s⟩ := x
  simp only at hx ⊢
  go_enter Try.func104, Try.ntmps104
  go_wp2_with fail
  go_ret
  exact ⟨rfl, (Below.refl _ _).alloc (Nat.le_refl _) _⟩

theorem items_none (a : Option Addr) (c : Nat) (fv : Value) (w : World) : Calls Try.prog 131 #[.slice a 0 c, fv] w fun e w' => e = .returned (.int .i64 (-1)) ∧ w' = w := by
  go_enter Try.func131, Try.ntmps131
  go_wp2_with fail
  refine wp_loop_rounds 1 ?_
  rw [rounds_succ]
  go_wp2_with fail
  go_ret
  exact ⟨rfl, rfl⟩
theorem items_none2 (a : Option Addr) (c : Nat) (fv : Value) (w : World) : Calls Try.prog 103 #[.slice a 0 c, fv] w fun e w' => e = .returned (.bool false) ∧ w' = w := by
  go_enter Try.func103, Try.ntmps103
  go_wp2_with (go_at_call 131; refine (items_none _ _ _ _).mono ?_; rintro e w' ⟨rfl, rfl⟩)
  go_ret
  exact ⟨rfl, rfl⟩

theorem raws_of {w : World} {b off : Nat} {items : List ItemT} (h : ∀ (j : Nat) (h : j < items.length), w.cell? ⟨b, off + j * 2, none⟩ = some (.string (mk items[j].long)) ∧ ∃ A' c', w.cell? ⟨b, off + j * 2 + 1, none⟩ = some (.slice A' items[j].vals.length c') ∧ StrsAt w A' items[j].vals) :
    ∃ zs : List RawV, zs.length = items.length ∧ zs.map (·.long) = items.map (·.long) ∧ (∀ z ∈ zs, z.s.oneCell' = true) ∧ ∀ (j : Nat) (hj : j < zs.length) (i : Nat) (v : Value), (rawV zs[j])[i]? = some v → w.cell? ⟨b, off + j * 2 + i, none⟩ = some v := by
  have hz : ∀ n, n ≤ items.length → ∃ zs : List RawV, zs.length = n ∧ zs.map (·.long) = (items.take n).map (·.long) ∧ (∀ z ∈ zs, z.s.oneCell' = true) ∧ ∀ (j : Nat) (hj : j < zs.length) (i : Nat) (v : Value), (rawV zs[j])[i]? = some v → w.cell? ⟨b, off + j * 2 + i, none⟩ = some v := by
    intro n
    induction n with
    | zero => exact fun _ => ⟨[], rfl, by simp, by simp, by simp⟩
    | succ n ih =>
      intro hn
      obtain ⟨zs, h1, h2, h3, h4⟩ := ih (by omega)
      obtain ⟨c1, A', c', c2, _⟩ := h n (by omega)
      refine ⟨zs ++ [⟨items[n].long, .slice A' items[n].vals.length c'⟩], by simp [h1], ?_, ?_, ?_⟩
      · rw [List.map_append, h2, List.take_succ_eq_append_getElem (by omega), List.map_append]
        rfl
      · intro z hzz
        rcases List.mem_append.1 hzz with hzz | hzz
        · exact h3 z hzz
        · rw [List.mem_singleton.1 hzz]; rfl
      · intro j hj i v hv
        by_cases hjn : j < zs.length
        · rw [List.getElem_append_left hjn] at hv
          exact h4 j hjn i v hv
        · have hjn2 : j = n := by simp at hj; omega
          subst hjn2
          rw [List.getElem_append_right (by omega)] at hv
          simp only [h1, Nat.sub_self, List.getElem_cons_zero, rawV] at hv
          match i, hv with
          | 0, hv => simp only [List.getElem?_cons_zero, Option.some.injEq] at hv; subst hv; exact c1
          | 1, hv => simp only [List.getElem?_cons_succ, List.getElem?_cons_zero, Option.some.injEq] at hv; subst hv; exact c2
          | i + 2, hv => simp at hv
  obtain ⟨zs, h1, h2, h3, h4⟩ := hz items.length (Nat.le_refl _)
  rw [List.take_length] at h2
  exact ⟨zs, h1, h2, h3, h4⟩

set_option maxHeartbeats 2000000 in
theorem args_Has (A : Option Addr) (c : Nat) (items : List ItemT) (long : Tx) (w : World) (h : ItemsAt w A items) (hl : items.length ≤ 100000000000) :
    Calls Try.prog 74 #[.slice A items.length c, .string (mk long)] w fun e w' => e = .returned (.bool (hasS items long)) ∧ Below w.heap.size w w' := by
  obtain ⟨w1, hw1⟩ : ∃ w1, w.alloc (.cells #[.string (mk long)] 9) = w1 := ⟨_, rfl⟩
  obtain ⟨B, hB⟩ : ∃ B, w.heap.size = B := ⟨_, rfl⟩
  have HB : Hid (Below w.heap.size w w1 ∧ w1.cell? ⟨B, 0, none⟩ = some (.string (mk long)) ∧ B < w1.heap.size) := Lib.hid (by
    rw [← hw1, ← hB]
    exact ⟨(Below.refl _ _).alloc (Nat.le_refl _) _, cellA_new _ _ _ 0, by simp⟩)
  have HC : Hid (Calls Try.prog 103 #[.slice A items.length c, .func (.func 104) #[] #[.pointer (some ⟨B, 0, none⟩)]] w1 fun e w' => e = .returned (.bool (items.any fun x => x.long == long)) ∧ Below w1.heap.size w1 w') := Lib.hid (by
    rcases h with rfl | ⟨b, off, rfl, hlt, hc⟩
    · refine (items_none2 A c _ w1).mono ?_
      rintro e w' ⟨rfl, rfl⟩
      exact ⟨rfl, Below.refl _ _⟩
    · obtain ⟨zs, z1, z2, z3, z4⟩ := raws_of hc
      have hsub : ∃ ys : List { z : RawV // z.s.oneCell' = true }, ys.map (·.1) = zs := ⟨zs.pmap (fun z hz => ⟨z, hz⟩) z3, by rw [List.map_pmap]; simp⟩
      obtain ⟨ys, hys⟩ := hsub
      have hyl : ys.length = zs.length := by rw [← hys]; simp
      haveI : Inhabited { z : RawV // z.s.oneCell' = true } := ⟨⟨default, rfl⟩⟩
      have hcall := AnyQ.slices_ContainsFunc Try.laysCF103 2 (fun w => by kernel_rfl) (fun w => by kernel_rfl) (fun y : { z : RawV // z.s.oneCell' = true } => rawV y.1) (fun _ => rfl) (fun y => y.1.long == long) 104 #[.pointer (some ⟨B, 0, none⟩)] (enters_of Try.func104 (by kernel_rfl) rfl) b off items.length c ys w1
        (fun W x hW => (has_1 x.1 B long W (by rw [hW.cell (p := ⟨B, 0, none⟩) HB.out.2.2]; exact HB.out.2.1) x.2).mono (fun e w' ⟨he, hb⟩ => ⟨he, below_then hW hW.size hb⟩)) (by omega) (by omega) (Nat.lt_of_lt_of_le hlt HB.out.1.size) (fun j hj i v hv => by
          rw [HB.out.1.cell (p := ⟨b, off + j * 2 + i, none⟩) hlt]
          refine z4 j (by omega) i v ?_
          rw [getElem!_pos ys j hj] at hv
          subst hys
          simpa using hv)
      refine Calls.mono hcall ?_
      rintro e w' ⟨rfl, hb⟩
      refine ⟨?_, hb⟩
      rw [List.take_of_length_le (by omega)]
      have e1 : ys.any (fun y => y.1.long == long) = (zs.map (·.long)).any (· == long) := by rw [← hys]; simp [List.any_map, Function.comp_def]
      have e2 : (items.any fun x => x.long == long) = (items.map (·.long)).any (· == long) := by simp [List.any_map, Function.comp_def]
      rw [e1, e2, z2])
  have HS : Hid (hasS items long = (!(long == []) && items.any fun x => x.long == long)) := Lib.hid rfl
  generalize (items.any fun x => x.long == long) = r at HC HS
  generalize hasS items long = q at HS ⊢
  obtain ⟨n, hn⟩ : ∃ n, items.length = n := ⟨_, rfl⟩
  rw [hn] at HC ⊢
  have hc1 := HB.out.2.1
  clear hn h hl
  cases hlg : (long == [])
  · have hl2 : long.isEmpty = false := by cases long <;> simp at hlg ⊢
    rw [hlg] at HS
    go_enter Try.func74, Try.ntmps74
    go_wp2_with (go_at_call 103; refine HC.out.mono ?_; rintro e w' ⟨rfl, hb⟩)
    go_ret
    exact ⟨ret_bool (by rw [HS.out]; rfl), below_then HB.out.1 HB.out.1.size hb⟩
  · have hl2 : long.isEmpty = true := by cases long <;> simp at hlg ⊢
    rw [hlg] at HS
    go_enter Try.func74, Try.ntmps74
    go_wp2_with fail
    go_ret
    exact ⟨ret_bool (by rw [HS.out]; rfl), HB.out.1⟩
end Go.Proofs.Ytmjggjccmbiheaa
