/- dots.Way and the reference's Way, dots.Any, step by step; the law's call DotsWays. -/
import Derived.Test.YtmjggjccmbiheaaRefPath
import Derived.Test.YtmjggjccmbiheaaDots
import Derived.Test.YtmjggjccmbiheaaEntsPut
namespace Go.Proofs.Ytmjggjccmbiheaa
open Go.RowKit Go.Proofs Go.Sort
attribute [local go_sem] mk_list mk_size mk_data

theorem joinS_snoc : ∀ (xs : List Tx) (x : Tx), joinS (xs ++ [x]) = if xs = [] then x else joinS xs ++ (47 :: x)
  | [], x => by simp [joinS, Lib.join]
  | [y], x => by simp [joinS, Lib.join]
  | y :: z :: l, x => by
    have ih := joinS_snoc (z :: l) x
    unfold joinS Lib.join at ih ⊢
    rw [if_neg (by simp)] at ih
    rw [if_neg (by simp)]
    show ([47] : Tx).intercalate (y :: z :: (l ++ [x])) = _
    rw [List.intercalate_cons_cons, List.intercalate_cons_cons]
    have : z :: (l ++ [x]) = z :: l ++ [x] := rfl
    rw [this, ih]
    simp

/-- What a way is turned to. -/
def wayL (on : Bool) (ps : List Tx) : List Tx := if on then ps.map toL else ps
theorem wt_map_to : ∀ ps : List Tx, wt (ps.map toL) ≤ wt ps
  | [] => by simp [wt]
  | p :: ps => by
    have h1 := wt_map_to ps
    have h2 := to_le p
    have h3 : wt (p :: ps) = p.length + 1 + wt ps := by simp [wt]
    have h4 : wt ((p :: ps).map toL) = (toL p).length + 1 + wt (ps.map toL) := by simp [wt]
    omega
theorem wt_way (on : Bool) (ps : List Tx) : wt (wayL on ps) ≤ wt ps := by
  unfold wayL
  cases on
  · simp
  · simpa using wt_map_to ps
theorem wt_mem {ps : List Tx} {k : Nat} (h : k < ps.length) : ps[k].length ≤ wt ps := by
  have h1 := List.take_append_drop k ps
  rw [List.drop_eq_getElem_cons h] at h1
  have h2 := congrArg wt h1
  rw [wt_append] at h2
  have h3 : ∀ (a : Tx) (b : List Tx), wt (a :: b) = a.length + 1 + wt b := fun a b => by simp [wt]
  rw [h3] at h2
  omega

set_option maxRecDepth 100000 in
set_option maxHeartbeats 2000000 in
theorem ref_Way (l : Tx) (on : Bool) (w : World) (hl : l.length ≤ 4000000000) :
    Calls Try.prog 50 #[.string (mk l), .bool on] w fun e w' => e = .returned (.string (mk (joinS (wayL on (partsL l))))) ∧ Below w.heap.size w w' := by
  have hp := ref_Parts l w (by omega)
  have hw1 := wt_partsL l
  have hpl := partsL_len l
  obtain ⟨ps, hps⟩ : ∃ ps, partsL l = ps := ⟨_, rfl⟩
  rw [hps] at hp hw1 hpl ⊢
  obtain ⟨n, hn⟩ : ∃ n, ps.length = n := ⟨_, rfl⟩
  have HN := Lib.hid hn
  have hnl : n ≤ 4000000001 := by omega
  have HW : Hid (wt ps ≤ 4000000001) := Lib.hid (by omega)
  have hk3 : (⟨#[47]⟩ : ByteArray) = mk [47] := rfl
  clear hps hw1 hpl
  go_enter Try.func50, Try.ntmps50
  simp only [hk3]
  go_wp2_with fail
  refine hp.mono ?_
  rintro e w1 ⟨a1, c1, rfl, k1, _, bb⟩
  have K1 := Lib.hid k1
  have B1 := Lib.hid bb
  rw [HN.out]
  clear hp k1 bb hn
  go_wp2_with fail
  go_loopg [7, 6] n (fun g i v wx => ∃ (k : Nat) (acc : Tx), k + g = n ∧ i = .int .i64 k ∧ v = .string (mk acc) ∧ Hid (acc = joinS (wayL on (ps.take k))) ∧ wx = w1)
  case atStart => exact ⟨0, [], by omega, rfl, rfl, Lib.hid (by cases on <;> rfl), rfl⟩
  case round =>
    obtain ⟨k, acc, hk, rfl, rfl, hacc, rfl⟩ := hrel
    cases gk with
    | zero =>
      obtain rfl : k = n := by omega
      have HA : Hid (acc = joinS (wayL on ps)) := Lib.hid (by have := hacc.out; rwa [List.take_of_length_le (by have := HN.out; omega)] at this)
      go_wp2_with fail
      go_ret
      exact ⟨by rw [← HA.out]; rfl, B1.out⟩
    | succ g =>
      have hi : k < ps.length := by have := HN.out; omega
      obtain ⟨bb, o1, rfl, l1, e1⟩ := K1.out.cells hi
      have f1 := e1 k hi
      have HT := Lib.hid (List.take_succ_eq_append_getElem hi)
      have hxl := wt_mem hi
      obtain ⟨x, hx1⟩ : ∃ x, ps[k] = x := ⟨_, rfl⟩
      rw [hx1] at f1 HT hxl
      have hi0 : (0 : Int) ≤ (k : Int) := by omega
      have him' : (k : Int) < (n : Int) := by omega
      have hal : acc.length ≤ 4000000001 := by
        have h1 := joinS_le (wayL on (ps.take k))
        have h2 := wt_way on (ps.take k)
        have h3 := wt_take ps k
        have h4 := HW.out
        rw [← hacc.out] at h1
        omega
      have hx : x.length ≤ 4000000001 := by have := HW.out; omega
      have hto := to_le x
      have a1' := mk_append acc [47]
      have a2 := mk_append (acc ++ [47]) x
      have a3 := mk_append (acc ++ [47]) (toL x)
      have a4 := mk_append acc x
      have a5 := mk_append acc (toL x)
      have hcT := ref_To x
      clear hx1 e1 l1 hxl
      have HST : Hid (joinS (wayL on (ps.take (k + 1))) = (if k = 0 then [] else acc ++ [47]) ++ (if on then toL x else x)) := Lib.hid (by
        rw [HT.out]
        have e2 : wayL on (ps.take k ++ [x]) = wayL on (ps.take k) ++ [if on then toL x else x] := by cases on <;> simp [wayL]
        rw [e2, joinS_snoc, ← hacc.out]
        by_cases h0 : k = 0
        · subst h0
          rw [if_pos (by cases on <;> rfl), if_pos rfl]; rfl
        · rw [if_neg, if_neg h0]
          · simp
          · intro e
            have hlen : (wayL on (ps.take k)).length = k := by cases on <;> simp [wayL] <;> omega
            rw [e] at hlen
            simp at hlen
            omega)
      have HA0 : Hid (k = 0 → acc = []) := Lib.hid (by rintro rfl; rw [hacc.out]; cases on <;> rfl)
      have s1 : ¬ (9223372036854775807 < acc.length + 1) := by omega
      have s2 : ¬ (9223372036854775807 < acc.length + 1 + x.length) := by omega
      have s3 : ¬ (9223372036854775807 < acc.length + 1 + (toL x).length) := by omega
      have s4 : ¬ (9223372036854775807 < acc.length + x.length) := by omega
      have s5 : ¬ (9223372036854775807 < acc.length + (toL x).length) := by omega
      cases on
      · by_cases h0 : k = 0
        · subst h0
          rw [Nat.add_zero] at f1
          go_wp2_with fail
          go_roundg g
          case measure => omega
          case rel => exact ⟨1, acc ++ x, by omega, by go_num, rfl, Lib.hid (by rw [HST.out, HA0.out trivial]; simp), rfl⟩
        · have hkp : (0 : Int) < (k : Int) := by omega
          go_wp2_with fail
          go_roundg g
          case measure => omega
          case rel => exact ⟨k + 1, acc ++ 47 :: x, by omega, by go_num, rfl, Lib.hid (by rw [HST.out, if_neg h0]; simp), rfl⟩
      · by_cases h0 : k = 0
        · subst h0
          rw [Nat.add_zero] at f1
          go_wp2_with (go_at_call 17; refine (hcT _ (by omega)).mono ?_; rintro e w' ⟨rfl, rfl⟩)
          go_roundg g
          case measure => omega
          case rel => exact ⟨1, acc ++ toL x, by omega, by go_num, rfl, Lib.hid (by rw [HST.out, HA0.out trivial]; simp), rfl⟩
        · have hkp : (0 : Int) < (k : Int) := by omega
          go_wp2_with (go_at_call 17; refine (hcT _ (by omega)).mono ?_; rintro e w' ⟨rfl, rfl⟩)
          go_roundg g
          case measure => omega
          case rel => exact ⟨k + 1, acc ++ 47 :: toL x, by omega, by go_num, rfl, Lib.hid (by rw [HST.out, if_neg h0]; simp), rfl⟩

/-- The row so far. -/
def wayK (ps : List Tx) (k : Nat) : List Tx := (ps.take k).map toL ++ ps.drop k
theorem wayK_len (ps : List Tx) (k : Nat) : (wayK ps k).length = ps.length := by simp [wayK]; omega
theorem wayK_at {ps : List Tx} {k : Nat} (h : k < ps.length) : (wayK ps k)[k]? = some ps[k] := by
  unfold wayK
  rw [List.getElem?_append_right (by simp; omega)]
  simp [List.length_take, Nat.min_eq_left (Nat.le_of_lt h), h]
theorem wayK_next {ps : List Tx} {k : Nat} (h : k < ps.length) : (wayK ps k).set k (toL ps[k]) = wayK ps (k + 1) := by
  unfold wayK
  rw [List.set_append_right _ _ (by simp; omega), List.length_map, List.length_take, Nat.min_eq_left (Nat.le_of_lt h), Nat.sub_self, List.drop_eq_getElem_cons h, List.set_cons_zero, List.take_succ_eq_append_getElem h, List.map_append, List.map_singleton, List.append_assoc]
  rfl

set_option maxRecDepth 100000 in
set_option maxHeartbeats 2000000 in
theorem dots_Way (l : Tx) (on : Bool) (w : World) (hl : l.length ≤ 4000000000) :
    Calls Try.prog 49 #[.string (mk l), .bool on] w fun e w' => e = .returned (.string (mk (joinS (wayL on (partsL l))))) ∧ Below w.heap.size w w' := by
  have hp := path_Parts l w (by omega)
  have hw1 := wt_partsL l
  have hpl := partsL_len l
  obtain ⟨ps, hps⟩ : ∃ ps, partsL l = ps := ⟨_, rfl⟩
  rw [hps] at hp hw1 hpl ⊢
  obtain ⟨n, hn⟩ : ∃ n, ps.length = n := ⟨_, rfl⟩
  have HN := Lib.hid hn
  have hnl : n ≤ 4000000001 := by omega
  have hjl := joinS_le (wayL on ps)
  have hwl := wt_way on ps
  have HW : Hid (wt ps ≤ 4000000001 ∧ (joinS (wayL on ps)).length ≤ 140737488355328) := Lib.hid (by omega)
  have hk3 : (⟨#[47]⟩ : ByteArray) = mk [47] := rfl
  clear hps hw1 hpl hjl hwl
  go_enter Try.func49, Try.ntmps49
  simp only [hk3]
  go_wp2_with fail
  refine hp.mono ?_
  rintro e w1 ⟨v1, rfl, o1, bb⟩
  have O1 := Lib.hid o1
  have B1 := Lib.hid bb
  obtain ⟨a1, c1, rfl, k1, hc1, _⟩ := StrsAt.own o1
  rw [HN.out]
  clear hp k1 bb hn o1
  go_wp2_with fail
  go_loopg [11] n (fun g i wx => ∃ k : Nat, k + g = n ∧ i = .int .i64 k ∧ Hid (Below w.heap.size w wx) ∧ Hid (wx.ownsRow w.heap.size 9 1 (.slice a1 n c1) n ((if on then wayK ps k else ps).map fun x => .string (mk x))))
  case atStart => exact ⟨0, by omega, rfl, B1, Lib.hid (by
    have := O1.out
    rw [HN.out] at this
    have e : (if on then wayK ps 0 else ps) = ps := by cases on <;> simp [wayK]
    rw [e]; exact this)⟩
  case round =>
    obtain ⟨k, hk, rfl, hb3, ho⟩ := hrel
    cases gk with
    | zero =>
      obtain rfl : k = n := by omega
      have ho2 : wr.ownsRow w.heap.size 9 1 (.slice a1 k c1) k ((wayL on ps).map fun x => .string (mk x)) := by
        have := ho.out
        have e : (if on then wayK ps k else ps) = wayL on ps := by
          cases on
          · rfl
          · simp only [wayL, wayK, if_true]; rw [List.take_of_length_le (by have := HN.out; omega), List.drop_of_length_le (by have := HN.out; omega), List.append_nil]
        rwa [e] at this
      obtain ⟨a5, c5, e5, k5, hc5, hl5⟩ := StrsAt.own ho2
      cases e5
      have hj := join_slash a1 c1 (wayL on ps) wr k5 (by omega) (by omega) HW.out.2
      rw [← hl5] at hj
      have HJ := Lib.hid hj
      clear ho2 k5 hc5 hl5 hj
      go_wp2_with (go_at_call 89; refine HJ.out.mono ?_; rintro e w' ⟨rfl, hb⟩)
      go_ret
      exact ⟨rfl, below_then hb3.out hb3.out.size hb⟩
    | succ g =>
      have hi : k < ps.length := by have := HN.out; omega
      have hi0 : (0 : Int) ≤ (k : Int) := by omega
      have him' : (k : Int) < (n : Int) := by omega
      cases on
      · go_wp2_with fail
        go_roundg g
        case measure => omega
        case rel => exact ⟨k + 1, by omega, by go_num, hb3, Lib.hid (by have := ho.out; simpa using this)⟩
      · have ho3 : wr.ownsRow w.heap.size 9 1 (.slice a1 n c1) n ((wayK ps k).map fun x => .string (mk x)) := by simpa using ho.out
        have hxl := wt_mem hi
        rcases ho3.2 with ⟨h0, h1⟩ | ⟨gg, cap, cur, e, hbase, hg, hnc, hcm, hcs, ht⟩
        · omega
        cases e
        have f1 := ho3.cells (g := gg) rfl k (.string (mk ps[k])) (by rw [List.getElem?_map, wayK_at hi]; rfl)
        rw [show (⟨gg, 0, none⟩ : Addr).add k = ⟨gg, k, none⟩ from by unfold Addr.add; split <;> simp_all] at f1
        have z1 : wr.frozen? ⟨gg, k, none⟩ = false := by simp [World.frozen?, hg]
        have hnx := wayK_next hi
        obtain ⟨x, hx1⟩ : ∃ x, ps[k] = x := ⟨_, rfl⟩
        rw [hx1] at f1 hnx hxl
        have HNX := Lib.hid hnx
        have HO3 := Lib.hid ho3
        have HBG := Lib.hid hbase
        have hx : x.length ≤ 4000000001 := by have := HW.out.1; omega
        have hcT := dots_To x
        clear hx1 hnx ho3 hbase hg hcs ht hxl
        go_wp2_with (go_at_call 16; refine (hcT _ (by omega)).mono ?_; rintro e w' ⟨rfl, rfl⟩)
        go_roundg g
        case measure => omega
        case rel => exact ⟨k + 1, by omega, by go_num, Lib.hid (hb3.out.setCell (p := ⟨gg, k, none⟩) HBG.out _), Lib.hid (by
          have h5 := own_set HO3.out (k := k) (.string (mk (toL x))) (by omega)
          simp only [if_true]
          rw [← HNX.out, List.map_set]
          exact h5)⟩

abbrev ShortT := { l : Tx // l.length ≤ 1000000000000 }
instance : Inhabited ShortT := ⟨⟨[], by simp⟩⟩
def encSh (x : ShortT) : Value := .string (mk x.1)

theorem dots_Any (a : Option Addr) (c : Nat) (xs : List Tx) (w : World) (h : StrsAt w a xs) (hn : xs.length ≤ 1000000000000) (hx : ∀ x ∈ xs, x.length ≤ 1000000000000) :
    Calls Try.prog 51 #[.slice a xs.length c] w fun e w' => e = .returned (.bool (xs.any fun x => toL x != x)) ∧ ∃ q, w' = w.drewN q := by
  have hc : Calls Try.prog 90 #[.slice a xs.length c, .func (.func 14) #[] #[]] w fun e w' => e = .returned (.bool (xs.any fun x => toL x != x)) ∧ ∃ q, w' = w.drewN q := by
    rcases h with rfl | ⟨b, off, rfl, hlt, hcell⟩
    · refine (AnyE.slices_ContainsFunc_empty Try.laysCF90 a c _ w).mono ?_
      rintro e w' ⟨rfl, rfl⟩
      exact ⟨rfl, 0, rfl⟩
    · obtain ⟨zs, hzs⟩ : ∃ zs : List ShortT, zs.map (·.1) = xs := ⟨xs.pmap (fun x h => ⟨x, h⟩) hx, by rw [List.map_pmap]; simp⟩
      have hl : zs.length = xs.length := by rw [← hzs]; simp
      have h1 := AnyE.slices_ContainsFunc Try.laysCF90 encSh (fun x => toL x.1 != x.1) 14 #[] (enters_of Try.func14 (by kernel_rfl) rfl) b off xs.length c zs w
        (fun W x _ => by
          have hr := dots_Is x.1 W (by have := x.2; omega)
          refine Calls.mono (R := fun e w' => e = .returned (.bool (toL x.1 != x.1)) ∧ W = w') hr ?_
          rintro e w' ⟨rfl, rfl⟩
          exact ⟨rfl, 0, rfl⟩) (by omega) (by omega) (fun j hj => by
          have hj' : j < xs.length := by omega
          rw [hcell j hj']
          subst hzs
          simp [encSh, hj])
      rw [List.take_of_length_le (by omega)] at h1
      refine h1.mono ?_
      rintro e w' ⟨rfl, q, rfl⟩
      refine ⟨ret_bool ?_, q, rfl⟩
      rw [← hzs, List.any_map]
      rfl
  obtain ⟨n, hnx⟩ : ∃ n, xs.length = n := ⟨_, rfl⟩
  rw [hnx] at hc ⊢
  generalize (xs.any fun x => toL x != x) = r at *
  go_enter Try.func51, Try.ntmps51
  go_wp2_with (go_at_call 90; refine hc.mono ?_; rintro e w' ⟨rfl, q, rfl⟩)
  go_ret
  exact ⟨rfl, q, rfl⟩

theorem any_snoc (xs : List Tx) (x : Tx) : (xs ++ [x]).any (fun x => toL x != x) = (xs.any (fun x => toL x != x) || (toL x != x)) := by simp

set_option maxRecDepth 100000 in
set_option maxHeartbeats 2000000 in
theorem ways (l : Tx) (on : Bool) (a : Option Addr) (c : Nat) (xs : List Tx) (w : World) (hl : l.length ≤ 4000000000) (h : StrsAt w a xs) (hn : xs.length ≤ 1000000000000) (hx : ∀ x ∈ xs, x.length ≤ 1000000000000) :
    Calls Try.prog 9 #[.string (mk l), .bool on, .slice a xs.length c] w fun e w' => e = .returned (.bool true) ∧ Below w.heap.size w w' := by
  have hw1 := fun W => dots_Way l on W hl
  have hw2 := fun W => ref_Way l on W hl
  generalize joinS (wayL on (partsL l)) = jj at hw1 hw2
  have HW1 := Lib.hid hw1
  have HW2 := Lib.hid hw2
  have HA := Lib.hid (fun W (hb : Below w.heap.size w W) => dots_Any a c xs W (h.below hb) hn hx)
  obtain ⟨n, hnx⟩ : ∃ n, xs.length = n := ⟨_, rfl⟩
  have HN := Lib.hid hnx
  have HS := Lib.hid h
  have HXS := Lib.hid hx
  rw [hnx] at hn HA ⊢
  clear hnx h hw1 hw2 hx
  go_enter Try.func9, Try.ntmps9
  go_wp2_with fail
  go_loopg [8, 7] n (fun g i v wx => ∃ (k : Nat) (b : Bool), k + g = n ∧ i = .int .i64 k ∧ v = .bool b ∧ Hid (b = (xs.take k).any fun x => toL x != x) ∧ Hid (Below w.heap.size w wx))
  case atStart => exact ⟨0, false, by omega, rfl, rfl, Lib.hid rfl, Lib.hid (Below.refl _ _)⟩
  case round =>
    obtain ⟨k, b, hk, rfl, rfl, hbv, hb⟩ := hrel
    cases gk with
    | zero =>
      obtain rfl : k = n := by omega
      have HBV : Hid (b = xs.any fun x => toL x != x) := Lib.hid (by have := hbv.out; rwa [List.take_of_length_le (by have := HN.out; omega)] at this)
      rw [← HBV.out] at HA
      go_wp2_with fail
      refine (HW1.out wr).mono ?_
      rintro e w1 ⟨rfl, b1⟩
      have hb1 := Lib.hid (below_then hb.out hb.out.size b1)
      clear b1
      go_wp2_with fail
      refine (HW2.out w1).mono ?_
      rintro e w2 ⟨rfl, b1⟩
      have hb2 := Lib.hid (below_then hb1.out hb1.out.size b1)
      clear b1
      go_wp2_with fail
      refine (HA.out w2 hb2.out).mono ?_
      rintro e w3 ⟨rfl, q, hq⟩
      have hb3 := Lib.hid (show Below w.heap.size w w3 by rw [hq]; exact below_drewN hb2.out _)
      clear hq
      go_wp2_with (go_at_call 19; refine (dots_lives _).mono ?_; rintro e w' ⟨rfl, rfl⟩)
      go_ret
      exact ⟨rfl, hb3.out⟩
    | succ g =>
      have hi : k < xs.length := by have := HN.out; omega
      obtain ⟨bb, o1, rfl, l1, e1⟩ := (HS.out.below hb.out).cells hi
      have f1 := e1 k hi
      have HT := Lib.hid (List.take_succ_eq_append_getElem hi)
      have hxl := HXS.out _ (List.getElem_mem hi)
      obtain ⟨x, hx1⟩ : ∃ x, xs[k] = x := ⟨_, rfl⟩
      rw [hx1] at f1 HT hxl
      have hi0 : (0 : Int) ≤ (k : Int) := by omega
      have him' : (k : Int) < (n : Int) := by omega
      have HNX : Hid (((xs.take (k + 1)).any fun x => toL x != x) = (b || (toL x != x))) := Lib.hid (by rw [HT.out, any_snoc, ← hbv.out])
      have hcT := fun W => Calls.mono (ref_To x W (by omega)) (R' := fun e w' => e = .returned (.string (mk (toL x))) ∧ w' = W) (fun e w' ⟨h1, h2⟩ => ⟨h1, h2.symm⟩)
      clear hx1 e1 l1
      cases b
      · go_wp2_with fail
        cases hxx : (toL x == x)
        · go_quiet ((go_at_call 17; exact Calls.quiet_of_same (hcT _)))
          go_wp2_with fail
          go_roundg g
          case measure => omega
          case rel => exact ⟨k + 1, true, by omega, by go_num, rfl, Lib.hid (by rw [HNX.out, bne, hxx]; rfl), Lib.hid (below_drewN hb.out _)⟩
        · go_quiet ((go_at_call 17; exact Calls.quiet_of_same (hcT _)))
          go_wp2_with fail
          go_roundg g
          case measure => omega
          case rel => exact ⟨k + 1, false, by omega, by go_num, rfl, Lib.hid (by rw [HNX.out, bne, hxx]; rfl), Lib.hid (below_drewN hb.out _)⟩
      · go_wp2_with fail
        go_quiet (fail)
        go_wp2_with fail
        go_roundg g
        case measure => omega
        case rel => exact ⟨k + 1, true, by omega, by go_num, rfl, Lib.hid (by rw [HNX.out]; rfl), Lib.hid (below_drewN hb.out _)⟩
end Go.Proofs.Ytmjggjccmbiheaa
