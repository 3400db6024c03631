/- args.reader.find and the two closures that it is handed, step by step. -/
import Derived.Test.YtmjggjccmbiheaaArgsMem
import Derived.Shelf.SlicesQ.IndexFunc
namespace Go.Proofs.Ytmjggjccmbiheaa
open Go Go.RowKit Go.Proofs Go.Sort
attribute [local go_sem] mk_list mk_size mk_data

theorem cellA_new (w : World) (cs : Array Value) (t : TypeId) (i : Nat) : (w.alloc (.cells cs t)).cell? ⟨w.heap.size, i, none⟩ = cs[i]? := by
  unfold World.cell?
  simp only
  rw [heap_alloc_new]
  rfl
theorem frozenA_new (w : World) (cs : Array Value) (t : TypeId) (i : Nat) : (w.alloc (.cells cs t)).frozen? ⟨w.heap.size, i, none⟩ = false := by
  unfold World.frozen?
  simp only
  rw [heap_alloc_new]
  simp

theorem args_long1 (s : SpecT) (B : Nat) (n : Tx) (w : World) (h : w.cell? ⟨B, 0, none⟩ = some (.string (mk n))) :
    Calls Try.prog 134 #[specV s, .pointer (some ⟨B, 0, none⟩)] w fun e w' => e = .returned (.bool (s.long == n)) ∧ Below w.heap.size w w' := by
  have hB := World.block_lt_of_cell? w _ h
  simp only at hB
  unfold specV specC
  obtain ⟨l, c, k⟩ := s
  go_enter Try.func134, Try.ntmps134
  go_wp2_with fail
  go_ret
  exact ⟨rfl, (Below.refl _ _).alloc (Nat.le_refl _) _⟩

set_option maxHeartbeats 1000000 in
theorem args_short1 (s : SpecT) (B C : Nat) (t : Tx) (i : Nat) (hi : i < t.length) (w : World) (h : w.cell? ⟨B, 0, none⟩ = some (.string (mk t))) (h2 : w.cell? ⟨C, 0, none⟩ = some (.int .i64 i)) :
    Calls Try.prog 136 #[specV s, .pointer (some ⟨B, 0, none⟩), .pointer (some ⟨C, 0, none⟩)] w fun e w' => e = .returned (.bool (!(s.short == 0) && s.short == t[i])) ∧ Below w.heap.size w w' := by
  have hB := World.block_lt_of_cell? w _ h
  have hC := World.block_lt_of_cell? w _ h2
  simp only at hB hC
  have hBW : Below w.heap.size w w := Below.refl _ _
  obtain ⟨r, hr⟩ : ∃ r, (!(s.short == 0) && s.short == t[i]) = r := ⟨_, rfl⟩
  rw [hr]
  obtain ⟨l, c, k⟩ := s
  unfold specV specC
  simp only at hr ⊢
  have hpos : i < (mk t).size := by rw [mk_size]; exact hi
  have hpos2 : (i : Int) < (t.length : Int) := by omega
  have hi0 : (0 : Int) ≤ (i : Int) := by omega
  obtain ⟨b, hb'⟩ : ∃ b : Int, (((mk t)[i]'hpos).toNat : Int) = b := ⟨_, rfl⟩
  have hb2 : (((t[i]).toNat : Int)) = b := hb'
  have h0 := byte_eq c 0 (by omega)
  have h1 : (((c.toNat : Nat) : Int) == b) = (c == t[i]) := by
    rw [← hb2, Bool.eq_iff_iff]
    simp only [beq_iff_eq]
    constructor
    · intro e; exact UInt8.toNat_inj.1 (by omega)
    · intro e; rw [e]
  obtain ⟨d, hd⟩ : ∃ d : Int, (c.toNat : Int) = d := ⟨_, rfl⟩
  rw [hd] at h0 h1 ⊢
  have HR : Hid (r = (!(d == 0) && d == b)) := Lib.hid (by rw [← hr, h1]; congr 2; exact h0.symm)
  obtain rfl := HR.out
  clear h0 h1 hb2 hd HR hr
  cases hd0 : (d == 0)
  · have hd1 : (d != 0) = true := by rw [bne, hd0]; rfl
    go_enter Try.func136, Try.ntmps136
    go_wp2_with fail
    go_quiet (fail)
    go_wp2_with fail
    go_ret
    exact ⟨rfl, below_drewN ((Below.refl _ _).alloc (Nat.le_refl _) _) _⟩
  · have hd1 : (d != 0) = false := by rw [bne, hd0]; rfl
    go_enter Try.func136, Try.ntmps136
    go_wp2_with fail
    go_quiet (fail)
    go_wp2_with fail
    go_ret
    exact ⟨rfl, below_drewN ((Below.refl _ _).alloc (Nat.le_refl _) _) _⟩

set_option maxHeartbeats 1000000 in
theorem args_find1 (s : SpecT) (B g : Nat) (lb : Array Value) (p : SpecT → Bool) (eg : ∀ args w, (callFunc g args).run Try.prog w = .ok (.enter g args) w) (w : World) (h : w.cell? ⟨B, 0, none⟩ = some (.func (.func g) #[] lb))
    (hp : ∀ W, Below w.heap.size w W → Calls Try.prog g (#[specV s] ++ lb) W fun e w' => e = .returned (.bool (p s)) ∧ Below W.heap.size W w') :
    Calls Try.prog 161 #[specV s, .pointer (some ⟨B, 0, none⟩)] w fun e w' => e = .returned (.bool (!(s.long == []) && p s)) ∧ Below w.heap.size w w' := by
  have hB := World.block_lt_of_cell? w _ h
  simp only at hB
  have hb0 : Below w.heap.size w (w.alloc (.cells (specC s).toArray 68)) := (Below.refl _ _).alloc (Nat.le_refl _) _
  have HC := Lib.hid (hp _ hb0)
  have HB0 := Lib.hid hb0
  generalize p s = r at HC ⊢
  clear hp hb0
  obtain ⟨l, c, k⟩ := s
  unfold specV specC at *
  simp only at HC HB0 ⊢
  cases hl : (l == [])
  · have hl2 : l.isEmpty = false := by cases l <;> simp at hl ⊢
    go_enter Try.func161, Try.ntmps161
    go_wp2_with (go_at_fn g; refine HC.out.mono ?_; rintro e w' ⟨rfl, hb⟩)
    go_ret
    exact ⟨rfl, below_then HB0.out HB0.out.size hb⟩
  · have hl2 : l.isEmpty = true := by cases l <;> simp at hl ⊢
    go_enter Try.func161, Try.ntmps161
    go_wp2_with fail
    go_ret
    exact ⟨rfl, HB0.out⟩

theorem idxBy_find (q : SpecT → Bool) (d : SpecT) : ∀ (zs : List SpecT) (k : Nat), (Lib.idxByFrom (fun _ y => q y) d zs k = -1 ∧ zs.find? q = none) ∨ ∃ (i : Nat) (h : i < zs.length), Lib.idxByFrom (fun _ y => q y) d zs k = ((k + i : Nat) : Int) ∧ zs.find? q = some zs[i]
  | [], k => .inl ⟨rfl, rfl⟩
  | z :: zs, k => by
    unfold Lib.idxByFrom
    cases hq : q z
    · rw [List.find?_cons, hq]
      rcases idxBy_find q d zs (k + 1) with ⟨h1, h2⟩ | ⟨i, hi, h1, h2⟩
      · exact .inl ⟨by simpa using h1, h2⟩
      · exact .inr ⟨i + 1, by simpa using hi, by simp only [Bool.false_eq_true, if_false]; rw [h1]; congr 1; omega, h2⟩
    · rw [List.find?_cons, hq]
      exact .inr ⟨0, by simp, by simp, rfl⟩
theorem specs_none (a : Option Addr) (c : Nat) (fv : Value) (w : World) : Calls Try.prog 160 #[.slice a 0 c, fv] w fun e w' => e = .returned (.int .i64 (-1)) ∧ w' = w := by
  go_enter Try.func160, Try.ntmps160
  go_wp2_with fail
  refine wp_loop_rounds 1 ?_
  rw [rounds_succ]
  go_wp2_with fail
  go_ret
  exact ⟨rfl, rfl⟩

set_option maxHeartbeats 2000000 in
theorem args_find (ss : List SpecT) (R : Nat) (sa : Option Addr) (sc g : Nat) (lb : Array Value) (p : SpecT → Bool) (eg : ∀ args w, (callFunc g args).run Try.prog w = .ok (.enter g args) w) (w : World)
    (h : w.cell? ⟨R, 0, none⟩ = some (.slice sa ss.length sc)) (hs : SpecsAt w sa ss) (hn : ss.length ≤ 1000000)
    (hp : ∀ s W, Below w.heap.size w W → Calls Try.prog g (#[specV s] ++ lb) W fun e w' => e = .returned (.bool (p s)) ∧ Below W.heap.size W w') :
    Calls Try.prog 133 #[.pointer (some ⟨R, 0, none⟩), .func (.func g) #[] lb] w fun e w' => e = .returned (.tuple #[specV ((findS ss p).getD default), .bool (findS ss p).isSome]) ∧ Below w.heap.size w w' := by
  have hR := World.block_lt_of_cell? w _ h
  simp only at hR
  have hb0 : Below w.heap.size w ((w.alloc (.cells #[.func (.func g) #[] lb] 148)).alloc (.cells #[.string ⟨#[]⟩, .int .u8 0, .int .i64 0] 68)) := ((Below.refl _ _).alloc (Nat.le_refl _) _).alloc (by simp) _
  have HB0 := Lib.hid hb0
  have HP := Lib.hid hp
  have HSP := Lib.hid hs
  obtain ⟨n, hn1⟩ : ∃ n, ss.length = n := ⟨_, rfl⟩
  have HN := Lib.hid hn1
  rw [hn1] at h hn
  clear hp hb0 hs hn1
  go_enter Try.func133, Try.ntmps133
  go_wp2_with fail
  obtain ⟨w1, hw1⟩ : ∃ w1, w.alloc (.cells #[.func (.func g) #[] lb] 148) = w1 := ⟨_, rfl⟩
  have hz1 : w1.heap.size = w.heap.size + 1 := by rw [← hw1]; simp
  have hc1 : w1.cell? ⟨w.heap.size, 0, none⟩ = some (.func (.func g) #[] lb) := by rw [← hw1, cellA_new]; rfl
  rw [hw1] at HB0 ⊢
  obtain ⟨w2, hw2⟩ : ∃ w2, w1.alloc (.cells #[.string ⟨#[]⟩, .int .u8 0, .int .i64 0] 68) = w2 := ⟨_, rfl⟩
  have hz2 : w2.heap.size = w.heap.size + 2 := by rw [← hw2]; simp; omega
  have hc2 : w2.cell? ⟨w.heap.size, 0, none⟩ = some (.func (.func g) #[] lb) := by rw [← hw2, World.cell?_alloc_lt _ _ _ (by show w.heap.size < w1.heap.size; omega)]; exact hc1
  have hd2 : ∀ i, w2.cell? ⟨w.heap.size + 1, i, none⟩ = (#[.string ⟨#[]⟩, .int .u8 0, .int .i64 0] : Array Value)[i]? := fun i => by rw [← hw2, ← hz1]; exact cellA_new _ _ _ _
  have hf2 : ∀ i, w2.frozen? ⟨w.heap.size + 1, i, none⟩ = false := fun i => by rw [← hw2, ← hz1]; exact frozenA_new _ _ _ _
  rw [hw2] at HB0 ⊢
  have HZ := Lib.hid hz2
  have HD := Lib.hid (And.intro hd2 hf2)
  have hq : ∀ W : World, Below w2.heap.size w2 W → W.cell? ⟨w.heap.size, 0, none⟩ = some (.func (.func g) #[] lb) ∧ Below w.heap.size w W := fun W hW => ⟨by
    rw [hW.cell (p := ⟨w.heap.size, 0, none⟩) (by show w.heap.size < w2.heap.size; omega)]
    exact hc2, below_then HB0.out HB0.out.size hW⟩
  have hpb : PredBelow Try.prog 161 #[.pointer (some ⟨w.heap.size, 0, none⟩)] (fun x => .agg (specC x).toArray) (fun s => !(s.long == []) && p s) w2 := fun W x hW => by
    have h1 := hq W hW
    exact (args_find1 x w.heap.size g lb p eg W h1.1 (fun W' hW' => HP.out x W' (below_then h1.2 h1.2.size hW'))).mono (fun e w' ⟨he, hb⟩ => ⟨he, below_then hW hW.size hb⟩)
  have H2R : Hid (w2.cell? ⟨R, 0, none⟩ = some (.slice sa n sc)) := Lib.hid (by rw [HB0.out.cell (p := ⟨R, 0, none⟩) hR]; exact h)
  have HCALL : Hid (Calls Try.prog 160 #[.slice sa n sc, .func (.func 161) #[] #[.pointer (some ⟨w.heap.size, 0, none⟩)]] w2 fun e w' => ((findS ss p = none ∧ e = .returned (.int .i64 (-1))) ∨ ∃ (i : Nat) (h : i < ss.length), findS ss p = some ss[i] ∧ e = .returned (.int .i64 i)) ∧ Below w2.heap.size w2 w') := Lib.hid (by
    rcases HSP.out with hss | ⟨b, off, rfl, hlt, hcell⟩
    · have hn0 : n = 0 := by rw [← HN.out, hss]; rfl
      subst hn0
      refine (specs_none sa sc _ w2).mono ?_
      rintro e w' ⟨rfl, rfl⟩
      exact ⟨.inl ⟨by rw [hss]; rfl, rfl⟩, Below.refl _ _⟩
    · have hc := AnyQ.slices_IndexFunc Try.laysIF160 3 (fun w => by kernel_rfl) (fun w => by kernel_rfl) specC (fun _ => rfl) (fun s => !(s.long == []) && p s) 161 #[.pointer (some ⟨w.heap.size, 0, none⟩)] (enters_of Try.func161 (by kernel_rfl) rfl) b off n sc ss w2 hpb (by rw [HN.out]; exact Nat.le_refl _) (by omega) (Nat.lt_of_lt_of_le hlt HB0.out.size) (fun j hj i v hv => by
        rw [HB0.out.cell (p := ⟨b, off + j * 3 + i, none⟩) hlt]
        refine hcell j hj i v ?_
        rwa [getElem!_pos ss j hj] at hv)
      refine Calls.mono hc ?_
      rintro e w' ⟨rfl, hb⟩
      refine ⟨?_, hb⟩
      rw [List.take_of_length_le (by rw [HN.out]; exact Nat.le_refl _)]
      rcases idxBy_find (fun s => !(s.long == []) && p s) default ss 0 with ⟨h1, h2⟩ | ⟨i, hi, h1, h2⟩
      · exact .inl ⟨h2, by unfold Lib.idxBy; rw [h1]⟩
      · exact .inr ⟨i, hi, h2, by unfold Lib.idxBy; rw [h1, Nat.zero_add]⟩)
  obtain ⟨B, hB⟩ : ∃ B, w.heap.size + 1 = B := ⟨_, rfl⟩
  rw [hB] at HD ⊢
  have HBB := Lib.hid hB
  clear hB hw2 hq hpb hd2 hf2 hc2 hc1 hz1 hw1 hz2 h
  refine HCALL.out.mono ?_
  rintro e w3 ⟨hh, hb⟩
  have HB3 := Lib.hid (below_then HB0.out HB0.out.size hb)
  have hB3 : B < w2.heap.size := by have := HZ.out; have := HBB.out; omega
  have d0 : w3.cell? ⟨B, 0, none⟩ = some (.string ⟨#[]⟩) := by rw [hb.cell (p := ⟨B, 0, none⟩) hB3, HD.out.1]; rfl
  have d1 : w3.cell? ⟨B, 1, none⟩ = some (.int .u8 0) := by rw [hb.cell (p := ⟨B, 1, none⟩) hB3, HD.out.1]; rfl
  have d2 : w3.cell? ⟨B, 2, none⟩ = some (.int .i64 0) := by rw [hb.cell (p := ⟨B, 2, none⟩) hB3, HD.out.1]; rfl
  have f0 : w3.frozen? ⟨B, 0, none⟩ = false := by rw [hb.frozen (p := ⟨B, 0, none⟩) hB3, HD.out.2]
  have f1 : w3.frozen? ⟨B, 1, none⟩ = false := by rw [hb.frozen (p := ⟨B, 1, none⟩) hB3, HD.out.2]
  have f2 : w3.frozen? ⟨B, 2, none⟩ = false := by rw [hb.frozen (p := ⟨B, 2, none⟩) hB3, HD.out.2]
  have hRB : Hid (R < w2.heap.size) := Lib.hid (Nat.lt_of_lt_of_le hR HB0.out.size)
  have r0 : w3.cell? ⟨R, 0, none⟩ = some (.slice sa n sc) := by rw [hb.cell (p := ⟨R, 0, none⟩) hRB.out]; exact H2R.out
  have HS3 : Hid (SpecsAt w3 sa ss) := Lib.hid (HSP.out.below HB3.out)
  have hwB : Hid (w.heap.size ≤ B) := Lib.hid (by have := HBB.out; omega)
  clear hb hB3
  rcases hh with ⟨hnone, rfl⟩ | ⟨i, hi, hsome, rfl⟩
  · have HX := Lib.hid hnone
    clear hnone
    go_wp2_with fail
    refine bodyPost_ret (v := .tuple #[specV default, .bool false]) ?_ rfl ⟨?_, ?_⟩
    · rw [results_cell_tmp rfl]
      go_simp
      rfl
    · rw [HX.out]; rfl
    · exact ((HB3.out.setCell (p := ⟨B, 0, none⟩) hwB.out _).setCell (p := ⟨B, 1, none⟩) hwB.out _).setCell (p := ⟨B, 2, none⟩) hwB.out _
  · have HX := Lib.hid hsome
    clear hsome
    have hin : i < n := by have := HN.out; omega
    rcases HS3.out with hss | ⟨b, off, rfl, hlt, hcell⟩
    · exact absurd hi (by rw [hss]; simp)
    · have c0 := hcell i hi 0 _ rfl
      have c1 := hcell i hi 1 _ rfl
      have c2 := hcell i hi 2 _ rfl
      rw [Nat.add_zero] at c0
      obtain ⟨s, hs⟩ : ∃ s, ss[i] = s := ⟨_, rfl⟩
      rw [hs] at c0 c1 c2 HX
      have hi0 : (0 : Int) ≤ (i : Int) := by omega
      have hinI : (i : Int) < (n : Int) := by omega
      have hlt0 : ¬ ((i : Int) < 0) := by omega
      obtain ⟨l, c, k⟩ := s
      simp only at c0 c1 c2
      clear hcell hs hi hin hlt
      go_wp2_with fail
      refine bodyPost_ret (v := .tuple #[.agg #[.string (mk l), .int .u8 c.toNat, .int .i64 k], .bool true]) ?_ rfl ⟨?_, ?_⟩
      · rw [results_cell_tmp rfl]
        go_simp
      · rw [HX.out]; rfl
      · exact ((HB3.out.setCell (p := ⟨B, 0, none⟩) hwB.out _).setCell (p := ⟨B, 1, none⟩) hwB.out _).setCell (p := ⟨B, 2, none⟩) hwB.out _
end Go.Proofs.Ytmjggjccmbiheaa
