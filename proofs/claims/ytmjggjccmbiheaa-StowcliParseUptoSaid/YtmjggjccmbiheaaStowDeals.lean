/- stowcli.last, stowcli.deals, step by step. -/
import Derived.Test.YtmjggjccmbiheaaStowPlain
import Derived.Maps.Own
import Derived.Maps.OwnOps
import Derived.Maps.OwnSet
namespace Go.Proofs.Ytmjggjccmbiheaa
open Go Go.RowKit Go.Proofs Go.Sort Go.Maps Go.WideMaps
attribute [local go_sem] mk_list mk_size mk_data

set_option maxHeartbeats 1000000 in
theorem stow_last (A : Option Addr) (c : Nat) (its : List ItemT) (long other : Tx) (w : World) (h : ItemsAt w A its) (hl : its.length ≤ 100000000000) (ht : tv its ≤ 100000000000) (hv : ∀ x ∈ its, ∀ v ∈ x.vals, v.length ≤ 1000000000) :
    Calls Try.prog 124 #[.slice A its.length c, .string (mk long), .string (mk other)] w fun e w' => e = .returned (.string (mk (lastS its long other))) ∧ Below w.heap.size w w' := by
  have HV := Lib.hid (args_Values A c its long w h hl ht)
  have HL : Hid (lastS its long other = match (valuesS its long).getLast? with
    | none => other
    | some v => cleanS v) := Lib.hid rfl
  have hvl : ∀ v ∈ valuesS its long, v.length ≤ 1000000000 := fun v hv' => by
    unfold valuesS at hv'
    obtain ⟨x, hx, hxv⟩ := List.mem_flatMap.1 hv'
    exact hv x (List.mem_filter.1 hx).1 v hxv
  have hlen := Nat.le_trans (valuesS_len long its) ht
  have HVL := Lib.hid hvl
  generalize lastS its long other = r at HL ⊢
  generalize valuesS its long = vs at HV HL HVL hlen
  obtain ⟨n, hn⟩ : ∃ n, its.length = n := ⟨_, rfl⟩
  obtain ⟨m, hm⟩ : ∃ m, vs.length = m := ⟨_, rfl⟩
  have HM := Lib.hid hm
  rw [hn] at HV ⊢
  rw [hm] at hlen
  clear hn hm h hl ht hv hvl
  go_enter Try.func124, Try.ntmps124
  go_wp2_with fail
  refine HV.out.mono ?_
  rintro e w1 ⟨v, rfl, ho, hb⟩
  obtain ⟨a1, c1, rfl, k1, _, _⟩ := StrsAt.own ho
  have HB := Lib.hid hb
  have K1 := Lib.hid k1
  rw [HM.out]
  clear ho hb k1
  cases m with
  | zero =>
    have hr : Hid (r = other) := Lib.hid (by rw [HL.out, List.eq_nil_of_length_eq_zero HM.out]; rfl)
    obtain rfl := hr.out
    go_wp2_with fail
    go_ret
    exact ⟨rfl, HB.out⟩
  | succ m =>
    have hmv : m < vs.length := by have := HM.out; omega
    obtain ⟨b, off, rfl, l1, e1⟩ := K1.out.cells hmv
    have f1 := e1 m hmv
    have hr : Hid (r = cleanS vs[m]) := Lib.hid (by
      rw [HL.out, List.getLast?_eq_getElem?, List.getElem?_eq_getElem (by omega)]
      simp only
      congr 2
      have := HM.out; omega)
    have HX := Lib.hid (HVL.out vs[m] (List.getElem_mem hmv))
    obtain ⟨x, hx⟩ : ∃ x, vs[m] = x := ⟨_, rfl⟩
    rw [hx] at f1 hr HX
    have HC := Lib.hid (path_Clean x w1 (by have := HX.out; omega))
    have e2 : (47 : UInt8) :: joinS (cleanP (partsL x)) = cleanS x := rfl
    rw [e2, ← hr.out] at HC
    have hm0 : (0 : Int) ≤ (m : Int) := by omega
    have hm1 : (m : Int) < (m : Int) + 1 := by omega
    clear e2 hx e1 l1
    go_wp2_with (go_at_call 121; refine HC.out.mono ?_; rintro e w' ⟨rfl, hb⟩)
    go_ret
    exact ⟨rfl, ext_trans HB.out hb⟩

def dealC (d : DealT) : List Value := [.int .i64 d.1, .string (mk d.2)]
theorem dealC_len : ∀ l : List DealT, (l.flatMap dealC).length = l.length * 2
  | [] => rfl
  | x :: l => by rw [List.flatMap_cons, List.length_append, dealC_len l, List.length_cons]; simp [dealC]; omega

/-- An entry of a map's literal. -/
theorem wpList_insert_own {H : Type} {P : Program} (w : World) {ops : Array Oper} {rest : List Oper} {o : Oper} {a : Act} {Q : Exit → Act → World → Prop}
    (hg : o.guard = none) (m x v : Operand) (t : TypeId) (hop : o.op = Op.insert t m x v)
    (k e : TypeId) (K : Keyed P k) (ht : P.underlying t = some (.map k e)) (R : Value → Option (DataW H × List MemPlace)) (b n : Nat) (D : DataW H)
    (hm : a.eval m = .map (some b)) (hown : w.ownsMap P k R b n D) (hn : n < maxLen) (key val : Value) (kl : Lit) (hx : a.eval x = key) (hv : a.eval v = val) (hkey : keyOf P k key = some kl)
    (d : DataW H) (ps : List MemPlace) (hval : R val = some (d, ps))
    (hK : ∀ w', w'.ownsMap P k R b (n + 1) (D.put kl d) → w.grownBy w' (some b) → wpList P ops Q rest (a.put o.dst undef) w') :
    wpList P ops Q (o :: rest) a w := by
  refine wpList_plain hg fun K' hK' => ?_
  obtain ⟨w', hrun, r1, r2⟩ := hown.update K ht hn hkey hval
  unfold Oper.wp
  simp [execOp, hop, hm, hx, hv, hrun, Result.andThen]
  exact hK' _ _ (hK w' r1 r2)
theorem law9 : Keyed Try.prog 9 := string_keyed Try.underlying9
def kindsD : DataW Unit := ((DataW.map []).put (.string stowT) (.lit (.int .i64 1))).put (.string deleteT) (.lit (.int .i64 2)) |>.put (.string restowT) (.lit (.int .i64 3))
theorem kinds_eq : kindsD = .map [(.string deleteT, .lit (.int .i64 2)), (.string restowT, .lit (.int .i64 3)), (.string stowT, .lit (.int .i64 1))] := by kernel_rfl
def inK (l : Tx) : Bool := deleteT == l || (restowT == l || stowT == l)
theorem kinds_has (l : Tx) : Maps.has kindsD (.string l) = inK l := by
  rw [kinds_eq]
  unfold Maps.has inK
  simp only [List.any_cons, List.any_nil, Bool.or_false, Lit.sameKey]
theorem kinds_at (l : Tx) (c : Int) (h : kindsD.atKey (.string l) (.lit (.int .i64 0)) = .lit (.int .i64 c)) (k : Int) : kindOf l k = if inK l then c else k := by
  rw [kinds_eq] at h
  unfold DataW.atKey at h
  simp only [List.find?_cons, List.find?_nil, Lit.sameKey] at h
  unfold kindOf inK
  by_cases h1 : l = deleteT
  · subst h1
    simp at h
    subst h; rfl
  · by_cases h2 : l = restowT
    · subst h2
      simp [show (deleteT == restowT) = false by decide] at h
      subst h; rfl
    · by_cases h3 : l = stowT
      · subst h3
        simp [show (deleteT == stowT) = false by decide, show (restowT == stowT) = false by decide] at h
        subst h; rfl
      · simp [h1, h2, h3, Ne.symm h1, Ne.symm h2, Ne.symm h3]

theorem infoD : (Try.prog.info? 98).map (fun i => (i.zero, i.size, i.bytes)) = some (some (.agg #[.int .i64 0, .string ⟨#[]⟩]), 2, 24) := by kernel_rfl
theorem zeroK (w : World) : (zeroValue 3).run Try.prog w = .ok (.int .i64 0) w := by kernel_rfl
theorem ownsMap_below {w w' : World} {b n : Nat} {D : DataW Unit} {B : Nat} (h : w.ownsMap Try.prog 9 (plainElem Try.prog 3) b n D) (hb : Below B w w') (hB : b < B) : w'.ownsMap Try.prog 9 (plainElem Try.prog 3) b n D := by
  obtain ⟨es, clock, h1, h2, h3, h4⟩ := h
  exact ⟨es, clock, (hb.block b hB).trans h1, h2, h3, h4⟩

set_option maxRecDepth 100000 in
set_option maxHeartbeats 8000000 in
theorem stow_deals (A : Option Addr) (c : Nat) (its : List ItemT) (w : World) (h : ItemsAt w A its) (hl : its.length ≤ 100000000000) (hok : ∀ x ∈ its, x.long.length ≤ 1000 ∧ (x.long = [] → x.vals.length = 1)) :
    Calls Try.prog 97 #[.slice A its.length c] w fun e w' => ∃ v, e = .returned v ∧ w'.ownsRow w.heap.size 98 2 v (dealsT its).length ((dealsT its).flatMap dealC) ∧ Below w.heap.size w w' := by
  have hmm := @run_makeMap Try.prog
  obtain ⟨n, hn⟩ : ∃ n, its.length = n := ⟨_, rfl⟩
  have HN := Lib.hid hn
  have HI := Lib.hid h
  have HOK := Lib.hid hok
  rw [hn] at hl ⊢
  have k1 : (⟨#[115, 116, 111, 119]⟩ : ByteArray) = mk stowT := rfl
  have k2 : (⟨#[100, 101, 108, 101, 116, 101]⟩ : ByteArray) = mk deleteT := rfl
  have k3 : (⟨#[114, 101, 115, 116, 111, 119]⟩ : ByteArray) = mk restowT := rfl
  clear hn h hok
  go_enter Try.func97, Try.ntmps97
  simp only [k1, k2, k3]
  clear k1 k2 k3
  have hm0 : (w.alloc (.map #[] 0)).ownsMap Try.prog 9 (plainElem Try.prog 3) w.heap.size 0 (DataW.map [] : DataW Unit) := World.ownsMap_made _ _ _ _
  have t1 : True := trivial
  have t2 : True := trivial
  have t3 : True := trivial
  go_wp2_with (first | (have _t := t1; refine wpList_insert_own _ rfl _ _ _ 132 rfl 9 3 law9 Try.underlying132 _ w.heap.size 0 _ rfl hm0 (by decide) _ _ (.string stowT) rfl rfl (by exact keyOf_string_mk Try.underlying9 (by decide)) _ [] (plainElem_int Try.underlying3 (by decide)) ?_; intro w1 hm1 hg1; clear t1 hm0) | (have _t := t2; refine wpList_insert_own _ rfl _ _ _ 132 rfl 9 3 law9 Try.underlying132 _ w.heap.size (0 + 1) _ rfl hm1 (by decide) _ _ (.string deleteT) rfl rfl (by exact keyOf_string_mk Try.underlying9 (by decide)) _ [] (plainElem_int Try.underlying3 (by decide)) ?_; intro w2 hm2 hg2; clear t2 hm1) | (have _t := t3; refine wpList_insert_own _ rfl _ _ _ 132 rfl 9 3 law9 Try.underlying132 _ w.heap.size (0 + 1 + 1) _ rfl hm2 (by decide) _ _ (.string restowT) rfl rfl (by exact keyOf_string_mk Try.underlying9 (by decide)) _ [] (plainElem_int Try.underlying3 (by decide)) ?_; intro w3 hm3 hg3; clear t3 hm2))
  have hb1 : Below w.heap.size w w1 := ((Below.refl _ w).alloc (Nat.le_refl _) (.map #[] 0)).grown hg1 (by simp) (fun k hk => by cases hk; exact Nat.le_refl _)
  have hb2 : Below w.heap.size w w2 := hb1.grown hg2 hb1.size (fun k hk => by cases hk; exact Nat.le_refl _)
  have HB3 : Hid (Below w.heap.size w w3) := Lib.hid (hb2.grown hg3 hb2.size (fun k hk => by cases hk; exact Nat.le_refl _))
  have HM3 : Hid (w3.ownsMap Try.prog 9 (plainElem Try.prog 3) w.heap.size (0 + 1 + 1 + 1) kindsD) := Lib.hid hm3
  have HLT := Lib.hid (World.ownsMap.lt hm3)
  clear hb1 hb2 hg1 hg2 hg3 hm3 hmm
  go_loopg [4, 5, 14] n (fun g kv ov iv wx => ∃ (i : Nat) (kd : Int) (ds : List DealT), i + g = n ∧ kv = .int .i64 kd ∧ iv = .int .i64 i ∧ Hid (Below w3.heap.size w3 wx) ∧ Hid (wx.ownsRow w3.heap.size 98 2 ov ds.length (ds.flatMap dealC)) ∧ Hid ((kd, ds) = foldD (its.take i)))
  case atStart => exact ⟨0, 1, [], by omega, rfl, rfl, Lib.hid (Below.refl _ _), Lib.hid (World.ownsRow_nil _ _ _ _), Lib.hid rfl⟩
  case round =>
    obtain ⟨i, kd, ds, hi, rfl, rfl, hb, ho, hf⟩ := hrel
    cases gk with
    | zero =>
      obtain rfl : i = n := by omega
      have HD : Hid (ds = dealsT its) := Lib.hid (by
        have := hf.out
        rw [List.take_of_length_le (by have := HN.out; omega)] at this
        unfold dealsT; rw [← this])
      go_wp2_with fail
      go_ret
      exact ⟨_, rfl, by rw [← HD.out]; exact row_mono ho.out HB3.out.size, ext_trans HB3.out hb.out⟩
    | succ g =>
      have hiw : i < its.length := by have := HN.out; omega
      have hiI : (i : Int) < (n : Int) := by omega
      have hi0 : (0 : Int) ≤ (i : Int) := by omega
      obtain ⟨b, off, rfl, hlt, f1, A', c', f2, hs⟩ := ((HI.out.below HB3.out).below hb.out).cells hiw
      have HTK := Lib.hid (List.take_succ_eq_append_getElem hiw)
      have HOKX := Lib.hid (HOK.out _ (List.getElem_mem hiw))
      obtain ⟨x, hx⟩ : ∃ x, its[i] = x := ⟨_, rfl⟩
      rw [hx] at f1 f2 hs HTK HOKX
      obtain ⟨xl, xv⟩ := x
      simp only at f1 f2 hs HOKX
      have HF1 : Hid (foldD (its.take (i + 1)) = stepD (kd, ds) ⟨xl, xv⟩) := Lib.hid (by rw [HTK.out, foldD_snoc, ← hf.out])
      have HDL : Hid (ds.length ≤ n) := Lib.hid (by have := foldD_len (its.take i); rw [← hf.out, List.length_take] at this; simp only at this; omega)
      have hbs := hb.out.size
      have HBA : Hid (Below w3.heap.size w3 (wr.alloc (.cells #[.string (mk xl), .slice A' xv.length c'] 108))) := Lib.hid (hb.out.alloc hbs _)
      have hmap : (wr.alloc (.cells #[.string (mk xl), .slice A' xv.length c'] 108)).ownsMap Try.prog 9 (plainElem Try.prog 3) w.heap.size (0 + 1 + 1 + 1) kindsD := ownsMap_below HM3.out HBA.out HLT.out
      have HS := Lib.hid hs
      have hxl : (mk xl).size ≤ maxLen := by rw [mk_size]; unfold maxLen; have := HOKX.out.1; omega
      clear hx hs
      have HKA := Lib.hid (fun cc h => kinds_at xl cc h kd)
      have hkh := kinds_has xl
      cases he : List.isEmpty xl
      · have hne : Hid ((xl == ([] : Tx)) = false) := Lib.hid (by cases xl <;> simp at he ⊢)
        cases hin : inK xl
        · rw [hin] at hkh HKA
          go_wp2_with (first | (at_lookup; refine wpList_lookup_own_ok_int _ rfl _ _ 132 rfl 9 3 .i64 law9 Try.underlying132 Try.underlying3 (zeroK _) w.heap.size (0 + 1 + 1 + 1) _ rfl hmap _ _ rfl (by exact keyOf_string_mk Try.underlying9 hxl) ?_; intro cc hat hwc; have HAT := Lib.hid hat; clear hat hwc))
          go_roundg g
          case measure => omega
          case rel => exact ⟨i + 1, kd, ds, by omega, rfl, by go_num, HBA, Lib.hid (ho.out.alloc _), Lib.hid (by
            rw [HF1.out]; unfold stepD; simp only; rw [HKA.out _ HAT.out, hne.out]; simp)⟩
        · rw [hin] at hkh HKA
          go_wp2_with (first | (at_lookup; refine wpList_lookup_own_ok_int _ rfl _ _ 132 rfl 9 3 .i64 law9 Try.underlying132 Try.underlying3 (zeroK _) w.heap.size (0 + 1 + 1 + 1) _ rfl hmap _ _ rfl (by exact keyOf_string_mk Try.underlying9 hxl) ?_; intro cc hat hwc; have HAT := Lib.hid hat; clear hat hwc))
          go_roundg g
          case measure => omega
          case rel => exact ⟨i + 1, cc, ds, by omega, rfl, by go_num, HBA, Lib.hid (ho.out.alloc _), Lib.hid (by
            rw [HF1.out]; unfold stepD; simp only; rw [HKA.out _ HAT.out, hne.out]; simp)⟩
      · have hxe : xl = [] := List.isEmpty_iff.1 he
        subst hxe
        have hin : inK [] = false := rfl
        rw [hin] at hkh HKA
        have hv1 := HOKX.out.2 rfl
        match xv, hv1 with
        | [p], _ =>
          obtain ⟨bb, o2, rfl, l2, e2⟩ := HS.out.cells (k := 0) (by simp)
          have e3 := (HS.out.below ((Below.refl _ wr).alloc (Nat.le_refl _) (.cells #[.string (mk []), .slice (some ⟨bb, o2, none⟩) 1 c'] 108)))
          have g1 : (wr.alloc (.cells #[.string (mk []), .slice (some ⟨bb, o2, none⟩) 1 c'] 108)).cell? ⟨bb, o2, none⟩ = some (.string (mk p)) := by
            rw [World.cell?_alloc_lt _ _ _ l2]
            exact e2 0 (by simp)
          have HF2 : Hid (stepD (kd, ds) ⟨[], [p]⟩ = (kd, ds ++ [(kd, p)])) := Lib.hid rfl
          have hdl := HDL.out
          clear e2 e3 l2 he
          have hbs2 : w3.heap.size ≤ (wr.alloc (.cells #[.string (mk []), .slice (some ⟨bb, o2, none⟩) 1 c'] 108)).heap.size := by simp; omega
          have hbd : (ds.length + 1) * 24 ≤ 140737488355328 := by omega
          go_wp2_with (first | (at_lookup; refine wpList_lookup_own_ok_int _ rfl _ _ 132 rfl 9 3 .i64 law9 Try.underlying132 Try.underlying3 (zeroK _) w.heap.size (0 + 1 + 1 + 1) _ rfl hmap _ _ rfl (by exact keyOf_string_mk Try.underlying9 hxl) ?_; intro cc hat hwc; have HAT := Lib.hid hat; clear hat hwc) | (at_builtin; refine put_one_at (wr.heap.size + 1) (by simp) w3.heap.size rfl _ _ 71 98 _ 2 24 rfl Try.underlying71 infoD rfl (by decide) (by decide) u5 ds.length _ [.int .i64 kd, .string (mk p)] rfl rfl rfl (by simp [Value.oneCell']) (ho.out.alloc _) HBA.out hbs2 hbd ?_; intro v1 w4 hown1 hb4 hg4; have HO1 := Lib.hid hown1; have HB4 := Lib.hid hb4; clear hown1 hb4 hg4))
          go_roundg g
          case measure => omega
          case rel => exact ⟨i + 1, kd, ds ++ [(kd, p)], by omega, rfl, by go_num, HB4, Lib.hid (by rw [List.length_append, List.flatMap_append]; exact HO1.out), Lib.hid (by rw [HF1.out, HF2.out])⟩
end Go.Proofs.Ytmjggjccmbiheaa
