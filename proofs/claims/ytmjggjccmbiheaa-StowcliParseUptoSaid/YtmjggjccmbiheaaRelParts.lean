/- rel.alike, rel.parts, step by step: the parts of the way from a directory to a path. -/
import Derived.Test.YtmjggjccmbiheaaRelPlain
import Derived.Deep.AppendSrc
namespace Go.Proofs.Ytmjggjccmbiheaa
open Go.RowKit Go.Proofs Go.Sort
attribute [local go_sem] mk_list mk_size mk_data

section
variable {P : Program}
/-- Nothing is appended. -/
theorem run_append_zero (w : World) (t ty e : TypeId) (i : TypeInfo) (ht : P.underlying t = some (.slice e)) (hi : P.info? e = some i) (b : Option Addr) (n cap : Nat) (hn : n ≤ cap) (a : Option Addr) (c : Nat) :
    (Builtin.append_ #[t, t] ty #[.slice b n cap, .slice a 0 c]).run P w = .ok (.slice b n cap) w := by
  cases b with
  | none => cases a <;> simp [Builtin.append_, run_underlying ht, sizeOf, typeInfo, hi, Builtin.lenOf, hn, Builtin.firstCells, loadCells, loadCellsFrom]
  | some b => cases a <;> simp [Builtin.append_, run_underlying ht, sizeOf, typeInfo, hi, Builtin.lenOf, hn, Builtin.firstCells, storeCells, loadCells, loadCellsFrom]
theorem wpList_append_run (w : World) {ops : Array Oper} {rest : List Oper} {o : Oper} {a : Act} {Q : Exit → Act → World → Prop} (hgd : o.guard = none) (d s : Operand) (t t' : TypeId)
    (ho : o.op = .call { callee := .builtin .append, args := #[d, s], argTypes := #[t, t'] }) (v u : Value) (hd : a.eval d = v) (hs : a.eval s = u) {v' : Value} {w' : World}
    (hr : (Builtin.append_ #[t, t'] o.type #[v, u]).run P w = .ok v' w') (h : wpList P ops Q rest (a.put o.dst v') w') : wpList P ops Q (o :: rest) a w :=
  wpList_plain hgd fun _ hK => by
    unfold Oper.wp execOp
    simp only [ho, resolve, invoke, builtin, Sem.run_bind, Sem.run_pure, Result.andThen_ok, List.map_toArray, List.map_cons, List.map_nil, hd, hs, hr]
    exact hK _ _ h
end
/-- append(v, ys...) of texts onto a row of the call's own. -/
theorem wpList_append_strs {ops : Array Oper} {rest : List Oper} {o : Oper} {a : Act} {Q : Exit → Act → World → Prop} {w0 W : World} (base : Nat) (hgd : o.guard = none) (s x : Operand)
    (ho : o.op = .call { callee := .builtin .append, args := #[s, x], argTypes := #[29, 29] })
    (v : Value) (n m : Nat) (xs ys : List Tx) (hs : a.eval s = v) (A : Option Addr) (c : Nat) (hx : a.eval x = .slice A m c) (hm : ys.length = m) (HY : StrsAt W A ys)
    (HO : W.ownsRow base 9 1 v n (xs.map fun x => .string (mk x))) (HB : Below base w0 W) (hbase : base ≤ W.heap.size) (hl : (n + m) * 16 ≤ 140737488355328)
    (h : ∀ v1 w1, w1.ownsRow base 9 1 v1 (n + m) ((xs ++ ys).map fun x => .string (mk x)) → Below base w0 w1 → wpList Try.prog ops Q rest (a.put o.dst v1) w1) :
    wpList Try.prog ops Q (o :: rest) a W := by
  subst hm
  obtain ⟨i0, hi, hzz⟩ := Option.map_eq_some_iff.1 info9
  simp only [Prod.mk.injEq] at hzz
  obtain ⟨hz0, hz1, hz2⟩ := hzz
  cases ys with
  | nil =>
    have hv : ∃ b cap, v = .slice b n cap ∧ n ≤ cap := by
      rcases HO.2 with ⟨rfl, h0⟩ | ⟨g, cap, cur, rfl, _, _, hn, _⟩
      · exact ⟨none, 0, by rw [h0], by omega⟩
      · exact ⟨_, cap, rfl, hn⟩
    obtain ⟨b, cap, rfl, hn⟩ := hv
    refine wpList_append_run W hgd s x 29 29 ho _ _ hs hx (run_append_zero W 29 o.type 9 i0 Try.underlying29 hi b n cap hn A c) ?_
    exact h _ _ (by simpa using HO) HB
  | cons y ys =>
    rcases HY with h0 | ⟨b, off, rfl, hlt, hc⟩
    · cases h0
    refine wpList_append_own W hgd s x 29 ho base 9 i0 (.string ByteArray.empty) 1 16 Try.underlying29 hi hz0 hz1 hz2 rfl (by decide) v n _ hs HO ⟨b, off, none⟩ _ c ((y :: ys).map fun x => .string (mk x)) hx (by simp)
      (fun j u hj => ?_) (fun u hu => by obtain ⟨_, _, rfl⟩ := List.mem_map.1 hu; rfl) (by simp only [maxLen]; omega) hl hbase ?_
    · rw [List.getElem?_map] at hj
      obtain ⟨z, hz, rfl⟩ := Option.map_eq_some_iff.1 hj
      obtain ⟨hjl, rfl⟩ := List.getElem?_eq_some_iff.1 hz
      rw [show (⟨b, off, none⟩ : Addr).add j = ⟨b, off + j, none⟩ from by unfold Addr.add; split <;> simp_all]
      exact hc j hjl
    · intro v1 w1 hown hg _
      refine h v1 w1 (by rw [List.map_append]; exact hown) (HB.grown hg hbase (fun k hk => own_base HO k hk.symm))

theorem below_alike {w w' : World} (h : ∃ q, w' = w.drewN q) : Below w.heap.size w w' := by
  obtain ⟨q, rfl⟩ := h; exact below_drewN (Below.refl _ _) q

set_option maxHeartbeats 1000000 in
theorem rel_alike (a1 a2 : Option Addr) (c1 c2 : Nat) (xs ys : List Tx) (w : World) (h1 : StrsAt w a1 xs) (h2 : StrsAt w a2 ys) (n1 : xs.length ≤ 1000000000000) :
    Calls Try.prog 122 #[.slice a1 xs.length c1, .slice a2 ys.length c2] w fun e w' => e = .returned (.int .i64 (common xs ys)) ∧ ∃ q, w' = w.drewN q := by
  obtain ⟨m, hm⟩ : ∃ m, min xs.length ys.length = m := ⟨_, rfl⟩
  obtain ⟨n, hn⟩ : ∃ n, xs.length = n := ⟨_, rfl⟩
  obtain ⟨p, hp⟩ : ∃ p, ys.length = p := ⟨_, rfl⟩
  have HN := Lib.hid (And.intro hn hp)
  rw [hn, hp] at hm ⊢
  rw [hn] at n1
  have hmin : min (n : Int) (p : Int) = (m : Int) := by omega
  have hmn : m ≤ n := by omega
  have hmp : m ≤ p := by omega
  have HM : Hid (m = n ∨ m = p) := Lib.hid (by omega)
  clear hn hp hm
  go_enter Try.func122, Try.ntmps122
  go_wp2_with fail
  go_loopg [5, 12] m (fun g v i wx => ∃ k : Nat, k + g = m ∧ v = .int .i64 k ∧ i = .int .i64 k ∧ Hid (xs.take k = ys.take k) ∧ ∃ q, wx = w.drewN q)
  case atStart => exact ⟨0, by omega, rfl, rfl, Lib.hid rfl, 0, rfl⟩
  case round =>
    obtain ⟨k, hk, rfl, rfl, hp, q, rfl⟩ := hrel
    cases gk with
    | zero =>
      obtain rfl : k = m := by omega
      have HE : Hid (common xs ys = k) := Lib.hid (common_of k xs ys (by have := HN.out; omega) (by have := HN.out; omega) hp.out (fun u v => by have := HN.out; have := HM.out; omega))
      go_wp2_with fail
      go_ret
      exact ⟨ret_i64 (by rw [HE.out]), q, rfl⟩
    | succ g =>
      have hx : k < xs.length := by have := HN.out; omega
      have hy : k < ys.length := by have := HN.out; omega
      obtain ⟨b1, o1, rfl, l1, e1⟩ := (h1.drewN q).cells hx
      obtain ⟨b2, o2, rfl, l2, e2⟩ := (h2.drewN q).cells hy
      have f1 := e1 k hx
      have f2 := e2 k hy
      have T1 := Lib.hid (List.take_succ_eq_append_getElem hx)
      have T2 := Lib.hid (List.take_succ_eq_append_getElem hy)
      have HX : Hid (xs[k] ≠ ys[k] → common xs ys = k) := Lib.hid (fun hne => common_of k xs ys (by omega) (by omega) hp.out (fun _ _ => hne))
      obtain ⟨x, hx1⟩ : ∃ x, xs[k] = x := ⟨_, rfl⟩
      obtain ⟨y, hy1⟩ : ∃ y, ys[k] = y := ⟨_, rfl⟩
      rw [hx1] at f1 T1 HX
      rw [hy1] at f2 T2 HX
      have hi0 : (0 : Int) ≤ (k : Int) := by omega
      have hkm : (k : Int) < (m : Int) := by omega
      have hkn : (k : Int) < (n : Int) := by omega
      have hkp : (k : Int) < (p : Int) := by omega
      obtain ⟨W, hW⟩ : ∃ W, w.drewN q = W := ⟨_, rfl⟩
      rw [hW] at f1 f2 ⊢
      have HW := Lib.hid hW
      clear hx1 hy1 e1 e2 l1 l2 h1 h2 hW
      cases hxy : (x == y)
      · have HE : Hid (common xs ys = k) := Lib.hid (HX.out (by simpa using hxy))
        go_wp2_with fail
        go_quiet (fail)
        go_wp2_with fail
        go_ret
        exact ⟨ret_i64 (by rw [HE.out]), _, by rw [← HW.out]; exact World.drewN_drewN ..⟩
      · have HT : Hid (xs.take (k + 1) = ys.take (k + 1)) := Lib.hid (by rw [T1.out, T2.out, hp.out, eq_of_beq hxy])
        go_wp2_with fail
        go_quiet (fail)
        go_wp2_with fail
        go_roundg g
        case measure => omega
        case rel => exact ⟨k + 1, by omega, by go_num, by go_num, HT, _, by rw [← HW.out]; exact World.drewN_drewN ..⟩

set_option maxRecDepth 100000 in
set_option maxHeartbeats 2000000 in
theorem rel_parts (dir s : Tx) (w : World) (h1 : dir.length ≤ 1000000000) (h2 : s.length ≤ 1000000000) :
    Calls Try.prog 91 #[.string (mk dir), .string (mk s)] w fun e w' => ∃ v, e = .returned v ∧ w'.ownsRow w.heap.size 9 1 v (relP dir s).length ((relP dir s).map fun x => .string (mk x)) ∧ Below w.heap.size w w' := by
  have HC1 := Lib.hid (path_Clean dir w (by omega))
  have e1 : (47 : UInt8) :: joinS (cleanP (partsL dir)) = cleanS dir := rfl
  rw [e1] at HC1
  have HC2 := Lib.hid (fun W => path_Clean s W (by omega))
  have e2 : (47 : UInt8) :: joinS (cleanP (partsL s)) = cleanS s := rfl
  rw [e2] at HC2
  have l1 : (cleanS dir).length ≤ 4000000000 := by rw [cleanS_eq, List.length_cons]; have := joinS_le (pathP dir); have := wt_pathP dir; omega
  have l2 : (cleanS s).length ≤ 4000000000 := by rw [cleanS_eq, List.length_cons]; have := joinS_le (pathP s); have := wt_pathP s; omega
  have HP1 := Lib.hid (fun W => path_Parts (cleanS dir) W (by omega))
  have HP2 := Lib.hid (fun W => path_Parts (cleanS s) W (by omega))
  rw [partsL_cleanS] at HP1 HP2
  have hpl1 := pathP_len dir
  have hpl2 := pathP_len s
  have hcm := common_le (pathP dir) (pathP s)
  have HR : Hid (relP dir s = List.replicate ((pathP dir).length - common (pathP dir) (pathP s)) [46, 46] ++ (pathP s).drop (common (pathP dir) (pathP s))) := Lib.hid rfl
  obtain ⟨A, hA⟩ : ∃ A, pathP dir = A := ⟨_, rfl⟩
  obtain ⟨B, hB⟩ : ∃ B, pathP s = B := ⟨_, rfl⟩
  obtain ⟨R, hR⟩ : ∃ R, relP dir s = R := ⟨_, rfl⟩
  rw [hA, hB] at hcm HR
  rw [hA] at HP1 hpl1
  rw [hB] at HP2 hpl2
  rw [hR] at HR ⊢
  generalize cleanS dir = d at *
  generalize cleanS s = t at *
  clear hA hB hR e1 e2
  obtain ⟨n, hn⟩ : ∃ n, A.length = n := ⟨_, rfl⟩
  obtain ⟨p, hp⟩ : ∃ p, B.length = p := ⟨_, rfl⟩
  obtain ⟨c, hc⟩ : ∃ c, common A B = c := ⟨_, rfl⟩
  have HN := Lib.hid (And.intro hn (And.intro hp hc))
  rw [hn, hp, hc] at hcm
  rw [hn, hc] at HR
  rw [hn] at hpl1
  rw [hp] at hpl2
  have hnl : n ≤ 1000000001 := by omega
  have hpl : p ≤ 1000000001 := by omega
  clear hn hp hc l1 l2 hpl1 hpl2 h1 h2
  go_enter Try.func91, Try.ntmps91
  go_wp2_with fail
  refine HC1.out.mono ?_
  rintro e w1 ⟨rfl, b1⟩
  have B1 := Lib.hid b1
  clear b1
  go_wp2_with fail
  refine (HP1.out w1).mono ?_
  rintro e w2 ⟨v1, rfl, o1, b2⟩
  have B2 := Lib.hid (ext_trans B1.out b2)
  obtain ⟨a1, c1, rfl, k1, hc1, _⟩ := StrsAt.own o1
  have K1 := Lib.hid k1
  have C1 := Lib.hid hc1
  rw [HN.out.1]
  clear o1 b2 k1 hc1
  go_wp2_with fail
  refine (HC2.out w2).mono ?_
  rintro e w3 ⟨rfl, b3⟩
  have B3 := Lib.hid (And.intro (ext_trans B2.out b3) (K1.out.below b3))
  clear b3
  go_wp2_with fail
  refine (HP2.out w3).mono ?_
  rintro e w4 ⟨v2, rfl, o2, b4⟩
  have B4 := Lib.hid (And.intro (ext_trans B3.out.1 b4) (B3.out.2.below b4))
  obtain ⟨a2, c2, rfl, k2, hc2, _⟩ := StrsAt.own o2
  have K2 := Lib.hid k2
  have C2 := Lib.hid hc2
  rw [HN.out.2.1]
  clear o2 b4 k2 hc2
  have hal := rel_alike a1 a2 c1 c2 A B w4 B4.out.2 K2.out (by have := HN.out; omega)
  rw [HN.out.1, HN.out.2.1, HN.out.2.2] at hal
  have HAL := Lib.hid hal
  clear hal
  go_wp2_with fail
  refine HAL.out.mono ?_
  rintro e w5 ⟨rfl, hq⟩
  have B5 := Lib.hid (And.intro (ext_trans B4.out.1 (below_alike hq)) (K2.out.below (below_alike hq)))
  clear hq
  obtain ⟨m, hm⟩ : ∃ m, n = c + m := ⟨n - c, by omega⟩
  have hsub : (n : Int) - (c : Int) = (m : Int) := by omega
  have HM := Lib.hid hm
  have hml : m ≤ 1000000001 := by omega
  have hBS : Hid (w.heap.size ≤ w5.heap.size) := Lib.hid B5.out.1.size
  clear hm
  have hkk : (⟨#[46, 46]⟩ : ByteArray) = mk [46, 46] := rfl
  go_wp2_with fail
  clear hsub
  go_loopg [8, 22] m (fun g v i wx => ∃ k : Nat, k + g = m ∧ i = .int .i64 k ∧ Hid (Below w5.heap.size w5 wx) ∧ Hid (wx.ownsRow w5.heap.size 9 1 v k ((List.replicate k ([46, 46] : Tx)).map fun x => .string (mk x))))
  case atStart => exact ⟨0, by omega, rfl, Lib.hid (Below.refl _ _), Lib.hid (World.ownsRow_nil _ _ _ _)⟩
  case round =>
    obtain ⟨k, hk, rfl, hb, ho⟩ := hrel
    cases gk with
    | zero =>
      obtain rfl : k = m := by omega
      have hcp : (c : Int) ≤ (p : Int) := by omega
      have hc0 : (0 : Int) ≤ (c : Int) := by omega
      have hpc : (p : Int) ≤ (c2 : Int) := by have := C2.out; have := HN.out; omega
      have K5 := B5.out.2.below hb.out
      have HD : Hid ((B.drop c).length = p - c) := Lib.hid (by rw [List.length_drop, HN.out.2.1])
      have HF : Hid (List.replicate k ([46, 46] : Tx) ++ B.drop c = R) := Lib.hid (by rw [HR.out, HM.out, Nat.add_sub_cancel_left])
      have HL : Hid (k + (p - c) = R.length) := Lib.hid (by rw [← HF.out, List.length_append, List.length_replicate, HD.out])
      have hbs := hb.out.size
      have hpk : (k + (p - c)) * 16 ≤ 140737488355328 := by omega
      have HE : ∀ (v1 : Value) (w1 : World), w1.ownsRow w5.heap.size 9 1 v1 (k + (p - c)) ((List.replicate k ([46, 46] : Tx) ++ B.drop c).map fun x => .string (mk x)) → Below w5.heap.size w5 w1 → Hid (w1.ownsRow w.heap.size 9 1 v1 R.length (R.map fun x => .string (mk x)) ∧ Below w.heap.size w w1) := fun v1 w1 ho hbl => Lib.hid (by
        rw [HF.out, HL.out] at ho
        exact ⟨row_mono ho hBS.out, ext_trans B5.out.1 hbl⟩)
      have HEE := Lib.hid HE
      clear HE
      rcases K5 with hB | ⟨bb, off, rfl, hlt, hcell⟩
      · have hp0 : p = 0 := by rw [← HN.out.2.1, hB]; rfl
        have hcz : c = 0 := by omega
        have HY : ∀ A, StrsAt wr A (B.drop c) := fun A => .inl (by rw [hB]; simp)
        have HYY := Lib.hid HY
        clear hB HY
        subst hp0 hcz
        go_wp2_with (at_builtin; refine wpList_append_strs w5.heap.size rfl _ _ rfl _ k 0 (List.replicate k [46, 46]) (B.drop 0) rfl _ _ rfl HD.out (HYY.out _) ho.out hb.out hbs hpk ?_; intro v1 w1 ho1 hb1; have HX := HEE.out v1 w1 ho1 hb1; clear ho1 hb1)
        go_ret
        exact ⟨_, rfl, HX.out⟩
      · have hn2 : ∀ j, j < p - c → wr.cell? ⟨bb, off + c + j, none⟩ = some (.string (mk ((B.drop c).getD j []))) := fun j hj => by
          have := hcell (c + j) (by rw [HN.out.2.1]; omega)
          rw [Nat.add_assoc, this, List.getD_eq_getElem?_getD, List.getElem?_drop, List.getElem?_eq_getElem]
          rfl
        have HY : Hid (StrsAt wr (some ⟨bb, off + c, none⟩) (B.drop c)) := Lib.hid (.inr ⟨bb, off + c, rfl, hlt, fun j hj => by
          rw [hn2 j (by have := HD.out; omega), List.getD_eq_getElem?_getD, List.getElem?_eq_getElem hj]; rfl⟩)
        have HY0 : Hid (p = c → ∀ A, StrsAt wr A (B.drop c)) := Lib.hid (fun e A => .inl (List.eq_nil_of_length_eq_zero (by have := HD.out; omega)))
        clear hn2 hcell
        by_cases hcc : c2 = c
        · subst hcc
          obtain rfl : p = c2 := by omega
          rw [Nat.sub_self] at HD HEE hpk
          go_wp2_with (at_builtin; refine wpList_append_strs w5.heap.size rfl _ _ rfl _ k _ (List.replicate k [46, 46]) (B.drop p) rfl _ _ rfl HD.out (HY0.out rfl _) ho.out hb.out hbs hpk ?_; intro v1 w1 ho1 hb1; have HX := HEE.out v1 w1 ho1 hb1; clear ho1 hb1)
          go_ret
          exact ⟨_, rfl, HX.out⟩
        · have hcc2 : ¬ (c2 - c = 0) := by omega
          have hadd : (⟨bb, off, none⟩ : Addr).add c = ⟨bb, off + c, none⟩ := by unfold Addr.add; split <;> simp_all
          go_wp2_with (at_builtin; refine wpList_append_strs w5.heap.size rfl _ _ rfl _ k _ (List.replicate k [46, 46]) (B.drop c) rfl _ _ rfl HD.out HY.out ho.out hb.out hbs hpk ?_; intro v1 w1 ho1 hb1; have HX := HEE.out v1 w1 ho1 hb1; clear ho1 hb1)
          go_ret
          exact ⟨_, rfl, HX.out⟩
    | succ g =>
      have hkm : (k : Int) < (m : Int) := by omega
      have hk0 : (0 : Int) ≤ (k : Int) := by omega
      go_wp2_with (at_builtin; refine put_one w5.heap.size rfl _ _ 29 9 _ 1 16 rfl Try.underlying29 info9 rfl (by decide) (by decide) u8 k _ [.string (mk [46, 46])] rfl rfl rfl (by simp [Value.oneCell']) ho.out hb.out hb.out.size (by omega) ?_; intro v1 w4 hown1 hb1 hg1)
      go_roundg g
      case measure => omega
      case rel => exact ⟨k + 1, by omega, by go_num, Lib.hid hb1, Lib.hid (by rw [List.replicate_succ', List.map_append]; exact hown1)⟩
end Go.Proofs.Ytmjggjccmbiheaa
