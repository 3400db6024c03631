/- path.Clean, step by step: a text's parts, the way back taken. -/
import Derived.Test.YtmjggjccmbiheaaPathParts
namespace Go.Proofs.Ytmjggjccmbiheaa
open Go Go.RowKit Go.Proofs Go.Sort Go.Shelf
attribute [local go_sem] mk_list mk_size mk_data
attribute [local go_sem] Oper.semAt_some

/-- One part more, or one less. -/
def cleanStep (out : List Tx) (p : Tx) : List Tx := if p == [46, 46] then out.dropLast else out ++ [p]
def cleanP (l : List Tx) : List Tx := l.foldl cleanStep []
theorem cleanP_snoc (l : List Tx) (p : Tx) : cleanP (l ++ [p]) = cleanStep (cleanP l) p := by unfold cleanP; rw [List.foldl_append]; rfl
theorem cleanP_len (l : List Tx) : (cleanP l).length ≤ l.length := by
  have h : ∀ (l out : List Tx), (l.foldl cleanStep out).length ≤ out.length + l.length := by
    intro l
    induction l with
    | nil => intro out; simp
    | cons p l ih =>
      intro out
      have := ih (cleanStep out p)
      rw [List.foldl_cons]
      have h2 : (cleanStep out p).length ≤ out.length + 1 := by
        unfold cleanStep
        split <;> simp; omega
      simp only [List.length_cons]
      omega
  simpa [cleanP] using h l []

/-- Texts with slashes between. -/
def joinS (xs : List Tx) : Tx := Lib.join xs [47]
def wt (xs : List Tx) : Nat := (xs.map fun x => x.length + 1).sum
theorem wt_append (a b : List Tx) : wt (a ++ b) = wt a + wt b := by simp [wt]
theorem joinS_le : ∀ xs : List Tx, (joinS xs).length ≤ wt xs
  | [] => by simp [joinS, Lib.join, wt]
  | [x] => by simp [joinS, Lib.join, wt]
  | x :: y :: l => by
    have := joinS_le (y :: l)
    unfold joinS Lib.join at this ⊢
    rw [List.intercalate_cons_cons]
    simp only [List.length_append, List.length_singleton]
    have h2 : wt (x :: y :: l) = x.length + 1 + wt (y :: l) := by simp [wt]
    omega
theorem wt_filter (p : Tx → Bool) : ∀ xs : List Tx, wt (xs.filter p) ≤ wt xs
  | [] => by simp [wt]
  | x :: l => by
    have h := wt_filter p l
    have h2 : wt (x :: l) = x.length + 1 + wt l := by simp [wt]
    rw [List.filter_cons]
    split
    · have h3 : wt (x :: l.filter p) = x.length + 1 + wt (l.filter p) := by simp [wt]
      omega
    · omega
theorem wt_split : ∀ l : Tx, wt (split l) = l.length + 1
  | [] => by simp [wt, split]
  | c :: l => by
    have h := wt_split l
    unfold split
    split
    · have h3 : wt ([] :: split l) = 1 + wt (split l) := by simp [wt]
      rw [h3, h]; simp; omega
    · split
      · rename_i x t e
        rw [e] at h
        have h3 : wt ((c :: x) :: t) = x.length + 1 + 1 + wt t := by simp [wt]
        have h4 : wt (x :: t) = x.length + 1 + wt t := by simp [wt]
        simp only [List.length_cons]; omega
      · rename_i e
        exact absurd e (split_ne l)
theorem wt_partsL (l : Tx) : wt (partsL l) ≤ l.length + 1 := by
  unfold partsL
  exact Nat.le_trans (wt_filter _ _) (Nat.le_of_eq (wt_split l))
theorem wt_dropLast (xs : List Tx) : wt xs.dropLast ≤ wt xs := by
  rcases List.eq_nil_or_concat xs with rfl | ⟨a, b, rfl⟩
  · simp
  · rw [List.concat_eq_append, List.dropLast_concat, wt_append]; omega
theorem wt_cleanP (l : List Tx) : wt (cleanP l) ≤ wt l := by
  have h : ∀ (l out : List Tx), wt (l.foldl cleanStep out) ≤ wt out + wt l := by
    intro l
    induction l with
    | nil => intro out; simp [wt]
    | cons p l ih =>
      intro out
      have h1 := ih (cleanStep out p)
      rw [List.foldl_cons]
      have h2 : wt (p :: l) = p.length + 1 + wt l := by simp [wt]
      have h3 : wt (cleanStep out p) ≤ wt out + (p.length + 1) := by
        unfold cleanStep
        split
        · have := wt_dropLast out; omega
        · rw [wt_append]; simp [wt]
      omega
  have := h l []
  simpa [cleanP, wt] using this

/-- strings.Join with a slash, of a slice of texts. -/
theorem join_slash (a : Option Addr) (c : Nat) (xs : List Tx) (w : World) (h : StrsAt w a xs) (hn : xs.length ≤ 140737488355328) (hc : xs.length ≤ c) (hj : (joinS xs).length ≤ 140737488355328) :
    Calls Try.prog 89 #[.slice a xs.length c, .string (mk [47])] w fun e w' => e = .returned (.string (mk (joinS xs))) ∧ Below w.heap.size w w' := by
  rcases h with rfl | ⟨b, off, rfl, hlt, hx⟩
  · refine (Try.strings_Join_none a c (mk [47]) w).mono ?_
    rintro e w' ⟨rfl, rfl⟩
    exact ⟨rfl, Below.refl _ _⟩
  · have hm : (xs.map mk).map (fun x => x.data.toList) = xs := by rw [List.map_map]; exact List.map_id'' (fun x => mk_data x) xs
    have h1 := Try.strings_Join b off c (xs.map mk) (mk [47]) w (fun j x hj => by
      rw [List.getElem?_map] at hj
      obtain ⟨y, hy, rfl⟩ := Option.map_eq_some_iff.1 hj
      obtain ⟨hlt, rfl⟩ := List.getElem?_eq_some_iff.1 hy
      exact hx j hlt) hlt (by simpa using hn) (by simpa using hc) (by rw [hm, mk_data]; exact hj)
    rw [hm, mk_data, List.length_map] at h1
    exact h1

theorem row_pop {W : World} {D g k c : Nat} {xs : List Tx} (h : W.ownsRow D 9 1 (.slice (some ⟨g, 0, none⟩) (k + 1) c) (k + 1) (xs.map fun x => .string (mk x))) :
    W.ownsRow D 9 1 (.slice (some ⟨g, 0, none⟩) k c) k (xs.dropLast.map fun x => .string (mk x)) := by
  have hl : xs.length = k + 1 := by simpa using h.1
  refine ⟨by simp; omega, ?_⟩
  rcases h.2 with ⟨h0, _⟩ | ⟨g', cap', cur, hv, hb, hg, hn, hm, hs, ht⟩
  · cases h0
  cases hv
  refine .inr ⟨g, c, cur, rfl, hb, hg, by omega, hm, hs, ?_⟩
  have := congrArg (List.take k) ht
  rw [List.take_take, Nat.min_eq_left (by omega), ← List.map_take] at this
  rw [Nat.mul_one, this, List.dropLast_eq_take, hl]
  rfl

set_option maxRecDepth 100000 in
set_option maxHeartbeats 2000000 in
theorem path_Clean (l : Tx) (w : World) (hl : l.length ≤ 4000000000000) :
    Calls Try.prog 121 #[.string (mk l)] w fun e w' => e = .returned (.string (mk (47 :: joinS (cleanP (partsL l))))) ∧ Below w.heap.size w w' := by
  refine (callsIn_wide (n := 9)).1 ?_
  obtain ⟨i0, hi, hzz⟩ := Option.map_eq_some_iff.1 info9
  simp only [Prod.mk.injEq] at hzz
  have HZ := Lib.hid hzz
  clear hzz
  refine callsIn_of_wp_marks Try.func121 rfl trivial ?_ rfl
  simp only [Try.ntmps121, List.size_toArray, List.length_cons, List.length_nil, Nat.reduceAdd, Nat.reduceSub, Array.replicate_succ, Array.replicate_zero, List.push_toArray, List.append_toArray, List.nil_append, List.cons_append]
  gi_wp2_with (refine ⟨trivial, ?_⟩; gi_at_call 116; refine (callsIn_wide.2 (parts_make _ _)).mono ?_; rintro e w' ⟨rfl, rfl⟩)
  have bO := Boxed.new w 29 (.slice none 0 0)
  have bN := Boxed.new (w.alloc (.cells #[.slice none 0 0] 29)) 9 (.string (mk l))
  rw [World.size_alloc] at bN
  have hB0 : Below w.heap.size w ((w.alloc (.cells #[.slice none 0 0] 29)).alloc (.cells #[.string (mk l)] 9)) := ((Below.refl _ w).alloc (Nat.le_refl _) _).alloc (by simp) _
  have hpl := partsL_len l
  refine range_box (F := Fence.wide) (n := 9) rfl (by omega) (gf := 149) (lb := #[.pointer (some ⟨w.heap.size + 1, 0, none⟩)]) rfl trivial (enters_of Try.func149 (by kernel_rfl) rfl)
    (parts_iter 8 (w.heap.size + 1) (l.length + 1) (by omega) l (by omega) hpl _ bN) (by simp) (fun _ => rfl)
    (fun pre => BoxS w (w.heap.size + 2) w.heap.size (cleanP pre)) (by
      have hb := boxS_bears w (w.heap.size + 2) w.heap.size (by omega)
      intro s W W' row h hg hr
      exact hb (cleanP s) W W' row h hg (by simpa using hr))
    (fun s W v h => boxS_set w (w.heap.size + 2) w.heap.size (w.heap.size + 1) (by omega) (by omega) (cleanP s) W v h)
    ⟨⟨_, bO.alloc _, World.ownsRow_nil _ _ _ _⟩, hB0, by simp⟩
    (fun x => { tmps := #[.string (mk l), undef, .string ⟨#[]⟩, .pointer (some ⟨w.heap.size, 0, none⟩), .string (mk x), .string (mk l), .func (.func 149) #[] #[.pointer (some ⟨w.heap.size + 1, 0, none⟩)], .string (mk x), undef, undef, undef, undef, undef, undef, undef, undef, undef, undef, undef, undef, undef, undef, undef, undef, undef, undef, undef], defers := [] }) ?assign ?body ?done
  case assign =>
    intro l x W K hK
    gi_wp2
    exact hK
  case body =>
    rintro l2 pre x W ⟨⟨v, hv, hrow⟩, hB, hsz⟩ hlt
    have hc := hv.cell
    have hst := cleanP_snoc pre x
    have hcl := cleanP_len pre
    obtain ⟨out, ho⟩ : ∃ out, cleanP pre = out := ⟨_, rfl⟩
    rw [ho] at hrow hst hcl
    have HST := Lib.hid hst
    have hk3 : (⟨#[46, 46]⟩ : ByteArray) = mk [46, 46] := rfl
    clear hst ho
    cases hx : (x == [46, 46])
    · have HS2 : Hid (cleanP (pre ++ [x]) = out ++ [x]) := Lib.hid (by rw [HST.out]; unfold cleanStep; rw [hx]; rfl)
      have HR := Lib.hid hrow
      have HB := Lib.hid hB
      have HV := Lib.hid hv
      have HSZ := Lib.hid hsz
      clear hrow hB hv hsz
      simp only [hk3]
      gi_wp2_with (gi_at_builtin; refine wpListIn_append_own _ rfl _ _ 29 rfl (w.heap.size + 2) 9 i0 (.string ⟨#[]⟩) 1 16 Try.underlying29 hi HZ.out.1 HZ.out.2.1 HZ.out.2.2 rfl (by decide) _ _ _ rfl (HR.out.alloc _) ⟨W.heap.size, 0, none⟩ 1 1 [.string (mk x)] rfl rfl (cell_one_new _ _ _) (by simp [Value.oneCell']) (by simp only [maxLen]; omega) (by omega) (by have := HSZ.out; simp; omega) ?_; intro v' w1 hown' hgrow _; have HO := Lib.hid hown'; obtain ⟨g', cap', rfl⟩ := ownsRow_succ hown'; have HP := Lib.hid (boxS_put (Bn := w.heap.size + 1) (by omega) (by omega) HSZ.out HV.out HR.out HB.out hown' hgrow); have hc1 := HP.out.1.cell; have hf1 := HP.out.1.frozen; clear hown' hgrow)
      rw [HS2.out]
      exact HP.out.2
    · have HS2 : Hid (cleanP (pre ++ [x]) = out.dropLast) := Lib.hid (by rw [HST.out]; unfold cleanStep; rw [hx]; rfl)
      by_cases h0 : out.length = 0
      · have hv0 : ∃ a c, v = .slice a 0 c := by
          rcases hrow.2 with ⟨rfl, _⟩ | ⟨g, cap, cur, rfl, _⟩
          · exact ⟨_, _, rfl⟩
          · rw [h0]; exact ⟨_, _, rfl⟩
        obtain ⟨va, vc, rfl⟩ := hv0
        have HS3 : Hid (cleanP (pre ++ [x]) = out) := Lib.hid (by rw [HS2.out, List.eq_nil_of_length_eq_zero h0]; rfl)
        have HI := Lib.hid (show BoxS w (w.heap.size + 2) w.heap.size out W from ⟨⟨_, hv, hrow⟩, hB, hsz⟩)
        clear hrow hB hv hsz
        simp only [hk3]
        gi_wp2
        rw [HS3.out]
        exact ⟨KeepsOthers.refl _, HI.out⟩
      · obtain ⟨k, hkl⟩ : ∃ k, out.length = k + 1 := ⟨out.length - 1, by omega⟩
        rw [hkl] at hrow
        obtain ⟨g, cap, rfl⟩ := ownsRow_succ hrow
        have hf := hv.frozen
        have hcap : k + 1 ≤ cap ∧ cap ≤ maxLen := by
          rcases hrow.2 with ⟨h0, _⟩ | ⟨g', cap', cur, e, _, _, hn, hm, _⟩
          · cases h0
          · cases e; exact ⟨hn, hm⟩
        have hne : g ≠ w.heap.size := by have := (hrow.lt g rfl).1; omega
        have HI := Lib.hid (show BoxS w (w.heap.size + 2) w.heap.size out.dropLast (W.setCell ⟨w.heap.size, 0, none⟩ (.slice (some ⟨g, 0, none⟩) k cap)) from by
          refine ⟨⟨_, hv.set _, ?_⟩, hB.setCell (p := ⟨w.heap.size, 0, none⟩) (Nat.le_refl _) _, by simpa using hsz⟩
          have h5 := row_pop hrow
          rw [show out.dropLast.length = k by simp; omega]
          exact h5.kept (grownBy_setCell' W w.heap.size _) (.inr (by simp [Value.ownBlock]; exact hne)))
        have hb1 : (W.setCell ⟨w.heap.size, 0, none⟩ (.slice (some ⟨g, 0, none⟩) k cap)).heap[w.heap.size + 1]? = W.heap[w.heap.size + 1]? := Below.heap_setCell _ _ _ _ (by simp)
        have HB1 := Lib.hid hb1
        have hkc : (k : Int) ≤ (cap : Int) := by omega
        have hk0 : (0 : Int) ≤ (k : Int) := by omega
        have hkp : (0 : Int) < (k : Int) + 1 := by omega
        have hcm : cap ≤ 9223372036854775807 := by have := hcap.2; simp only [maxLen] at this; omega
        clear hrow hB hv hsz hb1 hcap
        simp only [hk3]
        gi_wp2
        exact ⟨KeepsOthers.setCell _ _ _, HB1.out, by rw [HS2.out]; exact HI.out⟩
  case done =>
    rintro D ys W hD rfl ⟨⟨v, hv, hrow⟩, hB, hsz⟩ hK
    have hc := hv.cell
    have hw1 := wt_partsL l
    have hw2 := wt_cleanP (partsL l)
    have hw3 := joinS_le (cleanP (partsL l))
    have hw4 := cleanP_len (partsL l)
    obtain ⟨a5, c5, rfl, k5, hc5, _⟩ := StrsAt.own hrow
    have hj := join_slash a5 c5 _ W k5 (by omega) hc5 (by omega)
    have HJ := Lib.hid hj
    have HB := Lib.hid hB
    have hk4 : (⟨#[47]⟩ : ByteArray) = mk [47] := rfl
    have hD2 : w.heap.size + 2 ≤ D := by simpa using hD
    have hDW : D < W.heap.size := (Array.getElem?_eq_some_iff.1 hK).1
    obtain ⟨n5, hn5⟩ : ∃ n, (cleanP (partsL l)).length = n := ⟨_, rfl⟩
    rw [hn5] at HJ hc
    obtain ⟨jj, hjj⟩ : ∃ jj, joinS (cleanP (partsL l)) = jj := ⟨_, rfl⟩
    rw [hjj] at HJ
    have HJJ := Lib.hid hjj
    have hjl : ¬ (9223372036854775807 < 1 + jj.length) := by rw [← hjj]; omega
    have HKK := Lib.hid hK
    clear hw1 hw2 hw3 hw4 k5 hj hB hrow hv hn5 hjj hsz hc5
    clear hk4
    gi_wp2_with (refine ⟨trivial, ?_⟩; gi_at_call 89; refine (callsIn_wide.2 HJ.out).mono ?_; rintro e w' ⟨rfl, hb⟩)
    have hK2 : w'.heap[D]? = some (.deferred (some [])) := (hb.block D hDW).trans HKK.out
    refine ⟨by simp, .inl ⟨_, _, rfl, run_takeDeferred hK2, ?_⟩⟩
    refine ⟨_, results_tmp rfl _ _ _, ?_, ?_⟩
    · show Ending.returned (.string (mk [47] ++ mk jj)) = _
      rw [mk_append, HJJ.out]
      rfl
    · exact (below_then HB.out HB.out.size hb).trans (belowK_b (w := w) (Nat.le_refl _) w' D _ _ (by omega) hK2 rfl rfl)
end Go.Proofs.Ytmjggjccmbiheaa
