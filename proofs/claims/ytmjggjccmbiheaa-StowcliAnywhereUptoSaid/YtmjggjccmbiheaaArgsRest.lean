/- The law's call ArgsRest. -/
import Derived.Test.YtmjggjccmbiheaaArgsLives
namespace Go.Proofs.Ytmjggjccmbiheaa
open Go Go.RowKit Go.Proofs Go.Sort
attribute [local go_sem] mk_list mk_size mk_data

/-- append(v, ys...) of texts onto a row of the call's own, at an operation that is wanted. -/
theorem wpList_append_strsW {ops : Array Oper} {rest : List Oper} {o : Oper} {a : Act} {Q : Exit → Act → World → Prop} {w0 W : World} (base : Nat) (hwd : Region.wanted o (yielded ops a.tmps) = true) (s x : Operand)
    (ho : o.op = .call { callee := .builtin .append, args := #[s, x], argTypes := #[29, 29] })
    (v : Value) (n m : Nat) (xs ys : List Tx) (hs : a.eval s = v) (A : Option Addr) (c : Nat) (hx : a.eval x = .slice A m c) (hm : ys.length = m) (HY : StrsAt W A ys)
    (HO : W.ownsRow base 9 1 v n (xs.map fun x => .string (mk x))) (HB : Below base w0 W) (hbase : base ≤ W.heap.size) (hl : (n + m) * 16 ≤ 140737488355328)
    (h : ∀ v1 w1, w1.ownsRow base 9 1 v1 (n + m) ((xs ++ ys).map fun x => .string (mk x)) → Below base w0 w1 → wpList Try.prog ops Q rest (a.put o.dst v1) w1) :
    wpList Try.prog ops Q (o :: rest) a W := by
  refine BigFrame.wpList_want hwd (fun K hK => ?_)
  subst hm
  obtain ⟨i0, hi, hzz⟩ := Option.map_eq_some_iff.1 info9
  simp only [Prod.mk.injEq] at hzz
  obtain ⟨hz0, hz1, hz2⟩ := hzz
  cases ys with
  | nil =>
    have hv : ∃ b cap, v = .slice b n cap ∧ n ≤ cap := by
      rcases HO.2 with ⟨rfl, h0⟩ | ⟨g, cap, cur, rfl, _, _, hn, _⟩
      · exact ⟨none, 0, by rw [h0], by omega⟩
      · exact ⟨_, cap, rfl, hn⟩
    obtain ⟨b, cap, rfl, hn⟩ := hv
    have hr := run_append_zero W 29 o.type 9 i0 Try.underlying29 hi b n cap hn A c
    unfold Oper.wp execOp
    simp only [List.length_nil] at hx
    simp only [ho, resolve, invoke, builtin, Sem.run_bind, Sem.run_pure, Result.andThen_ok, List.map_toArray, List.map_cons, List.map_nil, hs, hx, hr]
    exact hK _ _ (h _ _ (by simpa using HO) HB)
  | cons y ys =>
    rcases HY with h0 | ⟨b, off, rfl, hlt, hc⟩
    · cases h0
    refine wp_append_own W s x 29 ho base 9 i0 (.string ByteArray.empty) 1 16 Try.underlying29 hi hz0 hz1 hz2 rfl (by decide) v n _ hs HO ⟨b, off, none⟩ _ c ((y :: ys).map fun x => .string (mk x)) hx (by simp)
      (fun j u hj => ?_) (fun u hu => by obtain ⟨_, _, rfl⟩ := List.mem_map.1 hu; rfl) (by simp only [maxLen]; omega) hl hbase ?_
    · rw [List.getElem?_map] at hj
      obtain ⟨z, hz, rfl⟩ := Option.map_eq_some_iff.1 hj
      obtain ⟨hjl, rfl⟩ := List.getElem?_eq_some_iff.1 hz
      rw [show (⟨b, off, none⟩ : Addr).add j = ⟨b, off + j, none⟩ from by unfold Addr.add; split <;> simp_all]
      exact hc j hjl
    · intro v1 w1 hown hg _
      exact hK _ _ (h v1 w1 (by rw [List.map_append]; exact hown) (HB.grown hg hbase (fun k hk => own_base HO k hk.symm)))

theorem wt_le {B : Nat} : ∀ (xs : List Tx), (∀ x ∈ xs, x.length ≤ B) → wt xs ≤ xs.length * (B + 1)
  | [], _ => by simp [wt]
  | x :: l, h => by
    have h1 := wt_le l (fun y hy => h y (List.mem_cons_of_mem _ hy))
    have h2 := h x (by simp)
    rw [wt_cons, List.length_cons, Nat.succ_mul]
    omega

set_option maxRecDepth 100000 in
set_option maxHeartbeats 8000000 in
theorem args_rest (a0 : Option Addr) (c0 : Nat) (ss : List SpecT) (a1 : Option Addr) (c1 : Nat) (ws : List Tx) (a2 : Option Addr) (c2 : Nat) (rs : List Tx) (w : World) (hs : SpecsAt w a0 ss) (hw : StrsAt w a1 ws) (hr : StrsAt w a2 rs)
    (l0 : ss.length ≤ 9223372036854775807) (l1 : ws.length ≤ 10000000) (l2 : rs.length ≤ 10000000) (hc1 : ws.length ≤ c1) (hx1 : ∀ x ∈ ws, x.length ≤ 1048576) (hx2 : ∀ x ∈ rs, x.length ≤ 1048576) :
    Calls Try.prog 5 #[.slice a0 ss.length c0, .slice a1 ws.length c1, .slice a2 rs.length c2] w fun e w' => e = .returned (.bool true) ∧ Below w.heap.size w w' := by
  obtain ⟨p, hp⟩ : ∃ p, ss.length = p := ⟨_, rfl⟩
  obtain ⟨n, hn⟩ : ∃ n, ws.length = n := ⟨_, rfl⟩
  obtain ⟨q, hq⟩ : ∃ q, rs.length = q := ⟨_, rfl⟩
  have HN := Lib.hid (And.intro hp (And.intro hn hq))
  have HS := Lib.hid hs
  have HW := Lib.hid hw
  have HRS := Lib.hid hr
  have HC1 := Lib.hid hc1
  have HX1 := Lib.hid (wt_le ws hx1)
  have HX2 := Lib.hid (wt_le rs hx2)
  rw [hp] at l0
  rw [hn] at l1 HX1
  rw [hq] at l2 HX2
  rw [hp, hn, hq]
  clear hp hn hq hs hw hr hc1 hx1 hx2
  by_cases g0 : 40 < p
  · have d0 : decide (40 < p) = true := by simpa using g0
    have d0' : (40 : Int) < (p : Int) := by omega
    go_enter Try.func5, Try.ntmps5
    go_wp2_with (go_at_call 26; refine (args_lives _).mono ?_; rintro e w' ⟨rfl, hb⟩)
    go_ret
    exact ⟨rfl, hb⟩
  have d0' : ¬ ((40 : Int) < (p : Int)) := by omega
  by_cases g1 : 100 < n
  · have d1' : (100 : Int) < (n : Int) := by omega
    go_enter Try.func5, Try.ntmps5
    go_wp2_with (go_at_call 26; refine (args_lives _).mono ?_; rintro e w' ⟨rfl, hb⟩)
    go_ret
    exact ⟨rfl, hb⟩
  have d1' : ¬ ((100 : Int) < (n : Int)) := by omega
  by_cases g2 : 100 < q
  · have d2' : (100 : Int) < (q : Int) := by omega
    go_enter Try.func5, Try.ntmps5
    go_wp2_with (go_at_call 26; refine (args_lives _).mono ?_; rintro e w' ⟨rfl, hb⟩)
    go_ret
    exact ⟨rfl, hb⟩
  have d2' : ¬ ((100 : Int) < (q : Int)) := by omega
  have HP := Lib.hid (args_Parse a0 c0 ss a1 c1 ws w HS.out HW.out (by have := HN.out; omega) HC1.out (by have := HX1.out; omega))
  rw [HN.out.1, HN.out.2.1] at HP
  have HNH := Lib.hid (wt_append ws ([45, 45] :: rs))
  obtain ⟨P, hP⟩ : ∃ P, parseS ss ws = P := ⟨_, rfl⟩
  rw [hP] at HP
  have HPP := Lib.hid hP
  clear hP
  have hk : (⟨#[45, 45]⟩ : ByteArray) = mk [45, 45] := rfl
  go_enter Try.func5, Try.ntmps5
  simp only [hk]
  go_wp2_with fail
  refine HP.out.mono ?_
  rintro e w1 hpt
  have hform : ∃ (A : Option Addr) (m c : Nat) (k er : Int), e = .returned (.tuple #[.slice A m c, .int .i64 k, .int .i64 er]) ∧ Below w.heap.size w w1 ∧ (er = 19 ∨ (er = 0 ∧ ∃ its, P = .inl its ∧ its.length = m ∧ ItemsAt w1 A its)) := by
    cases P with
    | inl its =>
      obtain ⟨⟨A, c, rfl, hi, _⟩, hb⟩ := hpt
      exact ⟨A, its.length, c, -1, 0, rfl, hb, .inr ⟨rfl, its, rfl, rfl, hi⟩⟩
    | inr k =>
      obtain ⟨rfl, hb⟩ := hpt
      exact ⟨none, 0, 0, k, 19, rfl, hb, .inl rfl⟩
  obtain ⟨A, m, c, k, er, rfl, hb1, hcase⟩ := hform
  have HB1 := Lib.hid hb1
  have HCASE := Lib.hid hcase
  clear hb1 hcase hpt HP
  go_wp2_with fail
  go_loopg [10] n (fun g iv wx => ∃ i : Nat, i + g = n ∧ iv = .int .i64 i ∧ Hid (∀ x ∈ ws.take i, x ≠ [45, 45]) ∧ wx = w1)
  case atStart => exact ⟨0, by omega, rfl, Lib.hid (by simp), rfl⟩
  case round =>
    obtain ⟨i, hi, rfl, hall, rfl⟩ := hrel
    cases gk with
    | succ g =>
      have hiw : i < ws.length := by have := HN.out; omega
      obtain ⟨b, off, rfl, l1', e1⟩ := (HW.out.below HB1.out).cells hiw
      have f1 := e1 i hiw
      have HT := Lib.hid (List.take_succ_eq_append_getElem hiw)
      obtain ⟨x, hx⟩ : ∃ x, ws[i] = x := ⟨_, rfl⟩
      rw [hx] at f1 HT
      have hiI : (i : Int) < (n : Int) := by omega
      have hi0 : (0 : Int) ≤ (i : Int) := by omega
      clear hx e1 l1'
      cases hd : (x == [45, 45])
      · go_wp2_with fail
        go_roundg g
        case measure => omega
        case rel => exact ⟨i + 1, by omega, by go_num, Lib.hid (by
          rw [HT.out]
          intro y hy
          rcases List.mem_append.1 hy with hy | hy
          · exact hall.out y hy
          · rw [List.mem_singleton.1 hy]; simpa using hd), rfl⟩
      · go_wp2_with (go_at_call 26; refine (args_lives _).mono ?_; rintro e w' ⟨rfl, hb⟩)
        go_ret
        exact ⟨rfl, ext_trans HB1.out hb⟩
    | zero =>
      obtain rfl : i = n := by omega
      have HALL : Hid (∀ x ∈ ws, x ≠ [45, 45]) := Lib.hid (by have := hall.out; rwa [List.take_of_length_le (by have := HN.out; omega)] at this)
      have hsz1 := HB1.out.size
      have HM0 : Hid ((wr.alloc (.cells #[] 9)).ownsRow wr.heap.size 9 1 (.slice (some ⟨wr.heap.size, 0, none⟩) 0 0) 0 (([] : List Tx).map fun x => .string (mk x))) := Lib.hid (World.ownsRow_made wr #[] 0 (Nat.le_refl _) (by decide) rfl)
      have HBA : Hid (Below wr.heap.size wr (wr.alloc (.cells #[] 9))) := Lib.hid ((Below.refl _ _).alloc (Nat.le_refl _) _)
      have bd1 : (0 + i) * 16 ≤ 140737488355328 := by omega
      have bd2 : (0 + i + 1) * 16 ≤ 140737488355328 := by omega
      have bd3 : (0 + i + 1 + q) * 16 ≤ 140737488355328 := by omega
      obtain ⟨WS, hWS⟩ : ∃ WS, [] ++ ws ++ [[45, 45]] ++ rs = WS := ⟨_, rfl⟩
      have HWS := Lib.hid hWS
      have HWE : Hid (ws ++ [45, 45] :: rs = WS) := Lib.hid (by rw [← hWS]; simp)
      have HWT : Hid (wt WS ≤ 1000000000) := Lib.hid (by rw [← HWE.out, HNH.out, wt_cons]; have := HX1.out; have := HX2.out; simp only [List.length_cons, List.length_nil]; omega)
      clear hWS
      have tok1 : True := trivial
      have tok2 : True := trivial
      clear hall
      go_wp2_with (first
        | (at_builtin; have _t := tok1; refine wpList_append_strs wr.heap.size rfl _ _ rfl _ 0 i [] ws rfl _ _ rfl HN.out.2.1 (HW.out.below (ext_trans HB1.out HBA.out)) HM0.out HBA.out (by simp) bd1 ?_; intro v1 w2 ho1 hb1; have HO1 := Lib.hid ho1; have HB2 := Lib.hid hb1; have HZ2 := Lib.hid hb1.size; clear ho1 hb1 tok1)
        | (at_builtin; have _t := tok2; refine wpList_append_strs wr.heap.size rfl _ _ rfl _ (0 + i) 1 ([] ++ ws) [[45, 45]] rfl _ _ rfl rfl (strs_new w2 [[45, 45]] 9) (HO1.out.alloc _) (HB2.out.alloc HZ2.out _) (by have := HZ2.out; simp; omega) bd2 ?_; intro v2 w3 ho2 hb2; have HO2 := Lib.hid ho2; have HB3 := Lib.hid hb2; have HZ3 := Lib.hid hb2.size; clear ho2 hb2 tok2)
        | (at_builtin; refine wpList_append_strs wr.heap.size rfl _ _ rfl _ (0 + i + 1) q ([] ++ ws ++ [[45, 45]]) rs rfl _ _ rfl HN.out.2.2 (HRS.out.below (ext_trans HB1.out HB3.out)) HO2.out HB3.out HZ3.out bd3 ?_; intro v3 w4 ho3 hb3; have HB4 := Lib.hid hb3; rw [HWS.out] at ho3; obtain ⟨a3, c3, rfl, k3, hc3, _⟩ := StrsAt.own ho3; have HK3 := Lib.hid (And.intro k3 hc3); clear ho3 hb3 k3 hc3))
      have HP2 := Lib.hid (args_Parse a0 c0 ss a3 c3 WS w4 (HS.out.below (ext_trans HB1.out HB4.out)) HK3.out.1 (by have := HN.out; omega) HK3.out.2 HWT.out)
      rw [HN.out.1] at HP2
      have HDET : Hid (∀ its, P = .inl its → parseS ss WS = .inl (its ++ rs.map opdT)) := Lib.hid (fun its h => by rw [← HWE.out]; exact parseS_rest rs HALL.out (by rw [HPP.out]; exact h))
      obtain ⟨P2, hP2⟩ : ∃ P2, parseS ss WS = P2 := ⟨_, rfl⟩
      rw [hP2] at HP2 HDET
      have HPP2 := Lib.hid hP2
      clear hP2
      refine HP2.out.mono ?_
      rintro e w5 hpt
      rcases HCASE.out with rfl | ⟨rfl, its, hPi, hlen, hit⟩
      · have hform : ∃ (A : Option Addr) (m c : Nat) (k er : Int), e = .returned (.tuple #[.slice A m c, .int .i64 k, .int .i64 er]) ∧ Below w4.heap.size w4 w5 := by
          cases P2 with
          | inl its =>
            obtain ⟨⟨A, c, rfl, hi, _⟩, hb⟩ := hpt
            exact ⟨A, its.length, c, -1, 0, rfl, hb⟩
          | inr k =>
            obtain ⟨rfl, hb⟩ := hpt
            exact ⟨none, 0, 0, k, 19, rfl, hb⟩
        obtain ⟨A5, m5, c5, k5, er5, rfl, hb5⟩ := hform
        have HB5 := Lib.hid (ext_trans HB1.out (ext_trans HB4.out hb5))
        clear hb5 hpt HP2
        go_wp2_with (go_at_call 26; refine (args_lives _).mono ?_; rintro e w' ⟨rfl, hb⟩; have HBF := Lib.hid (ext_trans HB5.out hb); clear hb)
        go_ret
        exact ⟨rfl, HBF.out⟩
      · obtain rfl := HDET.out its hPi
        obtain ⟨⟨A5, c5, rfl, hi5, _⟩, hb5⟩ := hpt
        have HB5 := Lib.hid (ext_trans HB1.out (ext_trans HB4.out hb5))
        have HI5 := Lib.hid hi5
        have HIT := Lib.hid (hit.below (ext_trans HB4.out hb5))
        have HG1 := Lib.hid (goS_inl _ _ _ _ its (show goS ss ws.length ws 0 [] = .inl its by rw [← hPi]; exact HPP.out))
        obtain ⟨o1, o2, o3⟩ := opd_facts rs
        have HML : Hid ((its ++ rs.map opdT).length = m + q ∧ tv (its ++ rs.map opdT) ≤ 1000000000) := Lib.hid (by
          refine ⟨by rw [List.length_append, o1, HN.out.2.2, hlen], ?_⟩
          rw [tv_append, o2, HN.out.2.2]
          have h1 := HG1.out.2; rw [tv_nil] at h1; have h2 := HX1.out; omega)
        have HVM : Hid (valuesS (its ++ rs.map opdT) [] = valuesS its [] ++ rs) := Lib.hid (by rw [valuesS_append, o3])
        obtain ⟨VS, hVS⟩ : ∃ VS, valuesS its [] ++ rs = VS := ⟨_, rfl⟩
        rw [hVS] at HVM
        have HVS := Lib.hid hVS
        obtain ⟨M, hM⟩ : ∃ M, its ++ rs.map opdT = M := ⟨_, rfl⟩
        rw [hM] at HML HVM HI5 ⊢
        have hml : m ≤ 1000000000 := by have h1 := HG1.out.1; rw [hlen, List.length_nil] at h1; have h2 := HX1.out; omega
        have HTI : Hid (tv its ≤ 1000000000) := Lib.hid (by have h1 := HG1.out.2; rw [tv_nil] at h1; have h2 := HX1.out; omega)
        have HVL := Lib.hid (valuesS_len [] its)
        have HO := Lib.hid (args_Operands A5 c5 M w5 HI5.out (by rw [HML.out.1]; omega) (by have := HML.out.2; omega))
        rw [HVM.out, HML.out.1] at HO
        rw [HML.out.1]
        have hlenH := Lib.hid hlen
        have hnm : (((m + q : Nat) : Int) == (m : Int) + (q : Int)) = true := by rw [beq_iff_eq]; omega
        clear hVS hM o1 o2 o3 hlen hit hi5 hb5 HP2 hPi
        go_wp2_with fail
        refine HO.out.mono ?_
        rintro e w6 ⟨v6, rfl, ho6, hb6⟩
        obtain ⟨a6, c6, rfl, k6, _, _⟩ := StrsAt.own ho6
        have HB6 := Lib.hid (ext_trans HB5.out hb6)
        have K6 := Lib.hid k6
        have HOL := Lib.hid (args_Operands A c its w6 (HIT.out.below hb6) (by rw [hlenH.out]; omega) (by have := HTI.out; omega))
        rw [hlenH.out] at HOL
        clear ho6 k6 hb6 HO
        go_wp2_with fail
        refine HOL.out.mono ?_
        rintro e w7 ⟨v7, rfl, ho7, hb7⟩
        have HB7 := Lib.hid hb7
        have HO7 := Lib.hid ho7
        have HZ7 := Lib.hid hb7.size
        have bd4 : ((valuesS its []).length + q) * 16 ≤ 140737488355328 := by have := HVL.out; have := HTI.out; omega
        clear hb7 ho7 HOL
        go_wp2_with (at_builtin; refine wpList_append_strsW w6.heap.size (by kernel_rfl) _ _ rfl v7 _ q (valuesS its []) rs rfl _ _ rfl HN.out.2.2 (HRS.out.below (ext_trans HB6.out HB7.out)) HO7.out HB7.out HZ7.out bd4 ?_; intro v8 w8 ho8 hb8; have HB8 := Lib.hid hb8; rw [HVS.out] at ho8; obtain ⟨a8, c8, rfl, k8, _, _⟩ := StrsAt.own ho8; have K8 := Lib.hid k8; clear ho8 hb8 k8)
        have HLV : Hid (VS.length ≤ 1000000000000) := Lib.hid (by rw [← HVS.out, List.length_append, HN.out.2.2]; have h1 := HVL.out; have h2 := HTI.out; omega)
        have HSM := Lib.hid (same_ a6 a8 c6 c8 VS VS w8 (K6.out.below HB8.out) K8.out HLV.out)
        rw [show decide (VS = VS) = true by simp] at HSM
        refine HSM.out.mono ?_
        rintro e w9 ⟨rfl, hq9⟩
        have HB9 := Lib.hid (ext_trans (ext_trans HB6.out HB8.out) (below_alike hq9))
        clear hq9 HSM
        go_wp2_with (go_at_call 26; refine (args_lives _).mono ?_; rintro e w' ⟨rfl, hb⟩; have HBF := Lib.hid (ext_trans HB9.out hb); clear hb)
        go_ret
        exact ⟨rfl, HBF.out⟩
end Go.Proofs.Ytmjggjccmbiheaa
