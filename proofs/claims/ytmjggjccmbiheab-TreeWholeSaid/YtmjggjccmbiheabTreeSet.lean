/- Set and Cut, step by step. -/
import Derived.Test.YtmjggjccmbiheabTreeMay
namespace Go.Proofs.Ytmjggjccmbiheab
open Go Go.RowKit Go.Proofs Go.Sort
attribute [local go_sem] mk_list mk_size mk_data field0 field1 field2 field3

structure SmallT (S : TreeSt) : Prop where
  ents : ∀ k p, S.M k = some p → p.ents.length ≤ 100000 ∧ ∀ e ∈ p.ents, 0 ≤ e.2 ∧ e.2 ≤ 1000000
  cnt : S.cnt ≤ 100000
  last : 0 ≤ S.last ∧ S.last ≤ 1000000
theorem SmallT.pn {S : TreeSt} (h : SmallT S) (k : Int) : (pn (S.M k)).ents.length ≤ 100000 ∧ ∀ e ∈ (Ytmjggjccmbiheab.pn (S.M k)).ents, 0 ≤ e.2 ∧ e.2 ≤ 1000000 := by
  cases hm : S.M k with
  | none => exact ⟨by simp [Ytmjggjccmbiheab.pn], by simp [Ytmjggjccmbiheab.pn]⟩
  | some p => exact h.ents k p hm
theorem wf_small {k : Int} (h0 : 0 ≤ k) (h1 : k ≤ 1000000000) : wfI k := WalkArith.wf_i64 (by omega)
theorem find_mem {xs : List En} {s : Tx} (h : (findE (allE xs) s).2 = true) : ((findE (allE xs) s).1) ∈ xs.map (·.2) := by
  unfold findE at h ⊢
  cases hf : (allE xs).find? (fun e => e.1 == s) with
  | none => rw [hf] at h; simp at h
  | some e =>
    have h1 := List.mem_of_find?_eq_some hf
    unfold allE at h1
    split at h1
    · exact List.mem_map.2 ⟨e, h1, rfl⟩
    · cases h1
theorem find_bnd {S : TreeSt} (h : SmallT S) (d : Int) (s : Tx) : 0 ≤ (findN S d s).1 ∧ (findN S d s).1 ≤ 1000000 := by
  unfold findN
  cases hf : (findE (allE (pn (S.M d)).ents) s).2
  · have : (findE (allE (pn (S.M d)).ents) s).1 = 0 := by
      unfold findE at hf ⊢
      cases hg : (allE (pn (S.M d)).ents).find? (fun e => e.1 == s) with
      | none => rfl
      | some e => rw [hg] at hf; simp at hf
    omega
  · obtain ⟨e, he, e1⟩ := List.mem_map.1 (find_mem hf)
    rw [← e1]
    exact (h.pn d).2 e he

def OpTo (t b : Nat) (r : TreeSt × Int) (W : World) (e : Ending) (W' : World) : Prop := e = .returned (.int .i64 r.2) ∧ TreeAt W' t b r.1 ∧ Keep t b W W'
def setS (S : TreeSt) (n : Int) (data : Tx) : TreeSt × Int :=
  if (pn (S.M n)).kind = 0 then (S, 5) else if (pn (S.M n)).kind = 1 then (S, 8) else if mayE (pn (S.M n)).kind data ≠ 0 then (S, mayE (pn (S.M n)).kind data) else (setM S n { pn (S.M n) with data := data }, 0)

set_option maxRecDepth 100000 in
set_option maxHeartbeats 2000000 in
theorem tree_Set (t b : Nat) (S : TreeSt) (n : Int) (data : Tx) (W : World) (h : TreeAt W t b S) (hs : SmallT S) (hk : wfI n) (hl : data.length ≤ 140737488351300) :
    Calls Try.prog 19 #[.pointer (some ⟨t, 0, none⟩), .int .i64 n, .string (mk data)] W (OpTo t b (setS S n data) W) := by
  have HA := Lib.hid (tree_at t b S n W h hk)
  have HT := Lib.hid h
  have HK := Lib.hid (And.intro hk hs.cnt)
  obtain ⟨p, hp⟩ : ∃ p, pn (S.M n) = p := ⟨_, rfl⟩
  have HS : Hid (setS S n data = if p.kind = 0 then (S, 5) else if p.kind = 1 then (S, 8) else if mayE p.kind data ≠ 0 then (S, mayE p.kind data) else (setM S n { p with data := data }, 0)) := Lib.hid (by unfold setS; rw [hp])
  rw [hp] at HA
  obtain ⟨r, hr⟩ : ∃ r, setS S n data = r := ⟨_, rfl⟩
  rw [hr] at HS ⊢
  obtain ⟨kd, up, da, es⟩ := p
  have HM := Lib.hid (fun w => tree_may kd data w hl)
  unfold NodeTo at HA
  simp only at HA HS
  clear h hs hk hl hp hr
  by_cases h0 : kd = 0
  · subst h0
    obtain rfl := HS.out
    simp only [if_true] at *
    go_enter Try.func19, Try.ntmps19
    go_wp2_with fail
    refine HA.out.mono ?_
    rintro e w1 ⟨⟨A, c, rfl, he⟩, hb⟩
    have HB := Lib.hid hb
    clear he hb
    go_wp2_with fail
    go_ret
    have hb2 := HB.out.alloc HB.out.size (.cells #[.int .i64 0, .int .i64 up, .string (mk da), .slice A es.length c] 51)
    exact ⟨rfl, HT.out.below hb2, Keep.below hb2⟩
  · have h0' : (kd == 0) = false := by simpa using h0
    by_cases h1 : kd = 1
    · subst h1
      have HS2 : Hid (r = (S, 8)) := HS
      obtain rfl := HS2.out
      clear h0 h0'
      go_enter Try.func19, Try.ntmps19
      go_wp2_with fail
      refine HA.out.mono ?_
      rintro e w1 ⟨⟨A, c, rfl, he⟩, hb⟩
      have HB := Lib.hid hb
      clear he hb
      go_wp2_with fail
      go_ret
      have hb2 := HB.out.alloc HB.out.size (.cells #[.int .i64 1, .int .i64 up, .string (mk da), .slice A es.length c] 51)
      exact ⟨rfl, HT.out.below hb2, Keep.below hb2⟩
    · have h1' : (kd == 1) = false := by simpa using h1
      obtain ⟨m, hm⟩ : ∃ m, mayE kd data = m := ⟨_, rfl⟩
      have HS2 : Hid (r = if m ≠ 0 then (S, m) else (setM S n ⟨kd, up, data, es⟩, 0)) := Lib.hid (by rw [HS.out, if_neg h0, if_neg h1, hm])
      rw [hm] at HM
      clear h0 h1 HS hm
      by_cases hm0 : m = 0
      · subst hm0
        have HS3 : Hid (r = (setM S n ⟨kd, up, data, es⟩, 0)) := HS2
        obtain rfl := HS3.out
        go_enter Try.func19, Try.ntmps19
        go_wp2_with fail
        refine HA.out.mono ?_
        rintro e w1 ⟨⟨A, c, rfl, he⟩, hb⟩
        have HB := Lib.hid (And.intro he hb)
        clear he hb
        go_wp2_with fail
        refine (HM.out _).mono ?_
        rintro e w2 ⟨rfl, rfl⟩
        have hT1 := HT.out.below HB.out.2
        obtain ⟨t0, _, hlt⟩ := hT1.cell
        obtain ⟨w', hrun, HR, s0, s1, s2, s3, s4⟩ := hT1.putLocal HK.out.1 (by have := HK.out.2; omega) kd up data es A c HB.out.1
        clear hT1
        go_wp2_with fail
        go_region_held3 (fun w' => w'.cell? ⟨t, 0, none⟩ = some (.map (some b)) ∧ w'.cell? ⟨w1.heap.size, 0, none⟩ = some (.int .i64 kd) ∧ w'.cell? ⟨w1.heap.size, 1, none⟩ = some (.int .i64 up) ∧ w'.cell? ⟨w1.heap.size, 2, none⟩ = some (.string (mk data)) ∧ w'.cell? ⟨w1.heap.size, 3, none⟩ = some (.slice A es.length c)) (first | (with_reducible exact ⟨by assumption, by assumption, by assumption, by assumption, by assumption⟩) | go_keep) (fail)
        go_wp2_with fail
        go_ret
        exact ⟨rfl, HR.out.1, (Keep.below HB.out.2).trans HR.out.2⟩
      · have hm0' : (m != 0) = true := by simpa using hm0
        have HS3 : Hid (r = (S, m)) := Lib.hid (by rw [HS2.out, if_pos hm0])
        obtain rfl := HS3.out
        clear hm0
        go_enter Try.func19, Try.ntmps19
        go_wp2_with fail
        refine HA.out.mono ?_
        rintro e w1 ⟨⟨A, c, rfl, he⟩, hb⟩
        have HB := Lib.hid (And.intro he hb)
        clear he hb
        go_wp2_with fail
        refine (HM.out _).mono ?_
        rintro e w2 ⟨rfl, rfl⟩
        go_wp2_with fail
        go_ret
        have hb2 := HB.out.2.alloc HB.out.2.size (.cells #[.int .i64 kd, .int .i64 up, .string (mk da), .slice A es.length c] 51)
        exact ⟨rfl, HT.out.below hb2, Keep.below hb2⟩
end Go.Proofs.Ytmjggjccmbiheab
