/- The reference's One at options, One, and Parse (args), step by step. -/
import Derived.Test.YtmjggjccmbiheaaRefArgsA
import Derived.IntWalk
import Derived.Deep.RegionHeld3
namespace Go.Proofs.Ytmjggjccmbiheaa
open Go Go.RowKit Go.Proofs Go.Sort
attribute [local go_sem] mk_list mk_size mk_data

theorem got_done {W w' : World} {S B : Nat} {A : Option Addr} {n c : Nat} {items : List ItemT} (u : Value) (hS : W.heap.size = S) (hB : S < B) (hz : w'.heap[S]? = some (.cells #[.slice none 0 0, .int .i64 0] 134)) (R : RowI w' B (.slice A n c) items) (hb : Below W.heap.size W w') :
    RowI ((w'.setCell ⟨S, 0, none⟩ (.slice A n c)).setCell ⟨S, 1, none⟩ u) W.heap.size (.slice A n c) items ∧ Below W.heap.size W ((w'.setCell ⟨S, 0, none⟩ (.slice A n c)).setCell ⟨S, 1, none⟩ u) := by
  constructor
  · refine ((R.keep (((Keep.refl S none w').trans (Keep.setR _ _ _) (.inl rfl)).trans (Keep.setR _ _ _) (.inl rfl)) (got_nostr hz) ?_)).mono (by omega)
    intro e
    have := (R.own _ e).1
    omega
  · exact (hb.setCell (p := ⟨S, 0, none⟩) (by show _ ≤ S; omega) _).setCell (p := ⟨S, 1, none⟩) (by show _ ≤ S; omega) _
theorem heap_stay {W : World} {b : Nat} {o : Obj} (h : W.heap[b]? = some o) (o' : Obj) : (W.alloc o').heap[b]? = some o := by
  rw [((Below.refl W.heap.size W).alloc (Nat.le_refl _) o').block b (Array.getElem?_eq_some_iff.1 h).1]; exact h
theorem tw_lt {p : UInt8 → Bool} : ∀ {l : Tx} {i : Nat} (_ : i < (l.takeWhile p).length), ∃ h2 : i < l.length, p l[i] = true
  | c :: l, i, h => by
    rw [List.takeWhile_cons] at h
    split at h
    · rename_i hc
      cases i with
      | zero => exact ⟨by simp, hc⟩
      | succ i =>
        obtain ⟨h2, h3⟩ := tw_lt (p := p) (l := l) (i := i) (by simpa using h)
        exact ⟨by simpa using h2, by simpa using h3⟩
    · simp at h
theorem tw_at {p : UInt8 → Bool} : ∀ {l : Tx} (h : (l.takeWhile p).length < l.length), p (l[(l.takeWhile p).length]'h) = false
  | c :: l, h => by
    by_cases hc : p c = true
    · have e : ((c :: l).takeWhile p).length = (l.takeWhile p).length + 1 := by rw [List.takeWhile_cons, if_pos hc]; rfl
      have h2 : (l.takeWhile p).length < l.length := by rw [e] at h; simpa using h
      have := tw_at h2
      simp only [e, List.getElem_cons_succ]
      exact this
    · have e : ((c :: l).takeWhile p).length = 0 := by rw [List.takeWhile_cons, if_neg hc]; rfl
      simp only [e, List.getElem_cons_zero]
      simpa using hc
theorem tw_le (p : UInt8 → Bool) (l : Tx) : (l.takeWhile p).length ≤ l.length := (List.takeWhile_prefix p).length_le
theorem at_two (t : Tx) : ∀ (e : Nat) (_ : 2 ≤ e) (h : e < (mk (45 :: 45 :: t)).size) (h3 : e - 2 < t.length), (mk (45 :: 45 :: t))[e]'h = t[e - 2]
  | _ + 2, _, _, _ => rfl
theorem has_61 (t : Tx) : t.contains 61 = decide ((oneC 61 t).length < t.length) := by
  cases h : t.contains 61
  · rw [one_selfC h]; simp
  · simp [(one_atC t h).2]

set_option maxRecDepth 100000 in
set_option maxHeartbeats 4000000 in
theorem ref_One_long (sa : Option Addr) (sc : Nat) (ss : List SpecT) (wa : Option Addr) (wc : Nat) (ws : List Tx) (k : Nat) (W : World) (hsp : SpecsAt W sa ss) (hss : ss.length ≤ 1000000) (hw : StrsAt W wa ws) (hk : k < ws.length) (t : Tx) (ht : ws[k] = 45 :: 45 :: t) (hws : ws.length ≤ 100000000000) (hy : t.length ≤ 100000000000) :
    Calls Try.prog 126 #[.slice sa ss.length sc, .slice wa ws.length wc, .int .i64 k] W (GotTo W.heap.size [] (longS ss t (ws.drop (k + 1))) W) := by
  obtain ⟨b, off, hwa, l1, e1⟩ := hw.cells hk
  have f1 := e1 k hk
  rw [ht] at f1
  have HW := Lib.hid hw
  have HWK := Lib.hid hk
  have HSP := Lib.hid hsp
  have HLS : Hid (longS ss t (ws.drop (k + 1)) = match findS ss fun s => s.long == oneC 61 t with
    | none => none
    | some s => if t.contains 61 then (if s.needs == 1 then some ([⟨s.long, [afterC 61 t]⟩], 0) else none) else putS s (ws.drop (k + 1))) := Lib.hid rfl
  obtain ⟨r, hr⟩ : ∃ r, longS ss t (ws.drop (k + 1)) = r := ⟨_, rfl⟩
  rw [hr] at HLS ⊢
  obtain ⟨n, hn⟩ : ∃ n, ws.length = n := ⟨_, rfl⟩
  have HN := Lib.hid hn
  rw [hn] at hk hws ⊢
  have hkI : (k : Int) < (n : Int) := by omega
  have hk0 : (0 : Int) ≤ (k : Int) := by omega
  obtain ⟨L, hL⟩ : ∃ L, (oneC 61 t).length = L := ⟨_, rfl⟩
  have HL := Lib.hid hL
  have HLE : L ≤ t.length := by rw [← hL]; exact tw_le _ t
  obtain ⟨y, hyy⟩ : ∃ y, (45 : UInt8) :: 45 :: t = y := ⟨_, rfl⟩
  rw [hyy] at f1
  obtain ⟨m, hm⟩ : ∃ m, y.length = m := ⟨_, rfl⟩
  have hmt : m = t.length + 2 := by rw [← hm, ← hyy]; simp
  have hs : (mk y).size = m := by rw [mk_size]; exact hm
  have HY := Lib.hid hyy
  have hpos : 0 < (mk y).size := by rw [hs]; omega
  have hpos1 : 1 < (mk y).size := by rw [hs]; omega
  obtain ⟨b0, hb0⟩ : ∃ b0 : Int, (((mk y)[0]'hpos).toNat : Int) = b0 := ⟨_, rfl⟩
  obtain ⟨b1, hb1⟩ : ∃ b1 : Int, (((mk y)[1]'hpos1).toNat : Int) = b1 := ⟨_, rfl⟩
  have h0 : (b0 != 45) = false := by subst hyy; rw [← hb0]; rfl
  have h1 : (b1 == 45) = true := by subst hyy; rw [← hb1]; rfl
  have hm2 : ¬ ((m : Int) < 2) := by omega
  have hp2 : 0 < m := by omega
  have hp3 : 1 < m := by omega
  have hm100 : (m : Int) ≤ 200000000000 := by omega
  have HMT := Lib.hid hmt
  have hLm : 2 + L ≤ m := by omega
  subst hwa
  clear hyy hr hn hL hw hsp e1 hmt HLE ht hm
  go_enter Try.func126, Try.ntmps126
  go_wp2_with fail
  go_loopg [8] L (fun g ev wx => ∃ e : Nat, e + g = 2 + L ∧ 2 ≤ e ∧ ev = .int .i64 e ∧ wx = W.alloc (.cells #[.slice none 0 0, .int .i64 0] 134))
  case atStart => exact ⟨2, by omega, by omega, rfl, rfl⟩
  case round =>
    obtain ⟨e, he, he2, rfl, rfl⟩ := hrel
    have hem0 : (0 : Int) ≤ (e : Int) := by omega
    cases gk with
    | succ g =>
      have hem : e < m := by omega
      have heI : (e : Int) < (m : Int) := by omega
      have hpe : e < (mk y).size := by rw [hs]; exact hem
      obtain ⟨be, hbe⟩ : ∃ be : Int, (((mk y)[e]'hpe).toNat : Int) = be := ⟨_, rfl⟩
      have hne : (be != 61) = true := by
        obtain ⟨q1, q2⟩ := tw_lt (p := (· != 61)) (l := t) (i := e - 2) (by have := HL.out; unfold oneC at this; omega)
        have hyy := HY.out
        subst hyy
        rw [← hbe, at_two t e he2 hpe q1, show (61 : Int) = ((61 : Nat) : Int) from rfl, byte_ne _ 61 (by omega)]
        exact q2
      go_wp2_with fail
      go_roundg g
      case measure => omega
      case rel => exact ⟨e + 1, by omega, by omega, by go_num, rfl⟩
    | zero =>
      have he3 : e = 2 + L := by omega
      have HE3 := Lib.hid he3
      have hem : e ≤ m := by omega
      have hemI : (e : Int) ≤ (m : Int) := by omega
      have he2I : (2 : Int) ≤ (e : Int) := by omega
      obtain ⟨u, hu⟩ : ∃ u, oneC 61 t = u := ⟨_, rfl⟩
      have hex : (mk y).extract 2 e = mk u := by
        have hyy := HY.out
        rw [mk_extract, ← hyy]
        congr 1
        show t.take (e - 2) = u
        rw [← hu, he3, show 2 + L - 2 = L by omega, ← HL.out]
        exact one_takeC t
      have HU := Lib.hid hu
      rw [hu] at HLS
      obtain ⟨o, ho⟩ : ∃ o, (findS ss fun s => s.long == u) = o := ⟨_, rfl⟩
      have HB0 : Hid (Below W.heap.size W (W.alloc (.cells #[.slice none 0 0, .int .i64 0] 134))) := Lib.hid ((Below.refl _ _).alloc (Nat.le_refl _) _)
      have HNM := Lib.hid (ref_named sa sc ss u (W.alloc (.cells #[.slice none 0 0, .int .i64 0] 134)) (HSP.out.below HB0.out) hss)
      rw [ho] at HLS HNM
      have HZ0 : Hid ((W.alloc (.cells #[.slice none 0 0, .int .i64 0] 134)).heap[W.heap.size]? = some (.cells #[.slice none 0 0, .int .i64 0] 134)) := Lib.hid (heap_alloc_new _ _)
      obtain ⟨S, hS⟩ : ∃ S, W.heap.size = S := ⟨_, rfl⟩
      have HS := Lib.hid hS
      obtain ⟨w0, hw0⟩ : ∃ w0, W.alloc (.cells #[.slice none 0 0, .int .i64 0] 134) = w0 := ⟨_, rfl⟩
      rw [hw0] at HB0 HNM HZ0 ⊢
      rw [hS] at HZ0 ⊢
      clear he3 hu ho hS hw0
      cases hc : t.contains 61
      · have hem2 : e = m := by
          have h2 := has_61 t
          rw [hc, HL.out] at h2
          have h3 : ¬ L < t.length := by simpa using h2.symm
          have := HMT.out; have := HE3.out; omega
        subst hem2
        rw [hc] at HLS
        go_wp2_with fail
        refine HNM.out.mono ?_
        rintro e' w1 ⟨rfl, hb1⟩
        have HB1 := Lib.hid (And.intro (ext_trans HB0.out hb1) hb1)
        clear hb1
        cases o with
        | none =>
          obtain rfl := HLS.out
          have HZ1 := Lib.hid ((HB1.out.2.block _ (Array.getElem?_eq_some_iff.1 HZ0.out).1).trans HZ0.out)
          have c0 := blk_cell HZ1.out 0
          have c1 := blk_cell HZ1.out 1
          have q0 := blk_frozen HZ1.out 0
          have q1 := blk_frozen HZ1.out 1
          have hSl := (Array.getElem?_eq_some_iff.1 HZ1.out).1
          simp only [List.getElem?_toArray, List.getElem?_cons_zero, List.getElem?_cons_succ] at c0 c1
          unfold specV specC
          simp only [Option.getD_none, Option.isSome_none]
          go_wp2_with fail
          refine bodyPost_ret (v := .agg #[.slice none 0 0, .int .i64 0]) ?_ rfl ⟨rfl, ?_⟩
          · rw [results_cell1 rfl]
            go_simp
          · have hB : W.heap.size ≤ S := Nat.le_of_eq HS.out
            exact ((HB1.out.1.setCell (p := ⟨S, 0, none⟩) hB _).setCell (p := ⟨S, 1, none⟩) hB _).alloc (by simp; exact HB1.out.1.size) _
        | some s =>
          obtain ⟨l, sh, nd⟩ := s
          simp only [Bool.false_eq_true, if_false] at HLS
          obtain ⟨w2, hw2⟩ : ∃ w2, w1.alloc (.cells #[.string (mk l), .int .u8 sh.toNat, .int .i64 nd] 67) = w2 := ⟨_, rfl⟩
          have HB2 : Hid (Below W.heap.size W w2 ∧ w2.heap[S]? = some (.cells #[.slice none 0 0, .int .i64 0] 134) ∧ S < w2.heap.size ∧ w2.heap[w1.heap.size]? = some (.cells #[.string (mk l), .int .u8 sh.toNat, .int .i64 nd] 67)) := Lib.hid (by
            rw [← hw2]
            have h1 := (HB1.out.2.block _ (Array.getElem?_eq_some_iff.1 HZ0.out).1).trans HZ0.out
            exact ⟨HB1.out.1.alloc HB1.out.1.size _, heap_stay h1 _, (Array.getElem?_eq_some_iff.1 (heap_stay h1 _)).1, heap_alloc_new _ _⟩)
          have HWI := Lib.hid (ref_with ⟨l, sh, nd⟩ (some ⟨b, off, none⟩) wc ws k (.slice none 0 0) [] w2.heap.size w2 (HW.out.below HB2.out.1) HWK.out (RowI.nil _ _) (Nat.le_refl _) (by rw [HN.out]; omega) (by simp))
          rw [← HLS.out] at HWI
          rw [HN.out] at HWI
          unfold specV specC at HWI ⊢
          simp only [Option.getD_some, Option.isSome_some] at HWI ⊢
          have s0 := blk_cell HB2.out.2.2.2 0
          have s1 := blk_cell HB2.out.2.2.2 1
          have s2 := blk_cell HB2.out.2.2.2 2
          simp only [List.getElem?_toArray, List.getElem?_cons_zero, List.getElem?_cons_succ] at s0 s1 s2
          go_wp2_with fail
          refine HWI.out.mono ?_
          clear hw2 s0 s1 s2 HWI
          cases r with
          | none =>
            rintro e3 w3 ⟨rfl, hb3⟩
            have HB3 := Lib.hid hb3
            have HZ3 := Lib.hid ((hb3.block _ HB2.out.2.2.1).trans HB2.out.2.1)
            clear hb3
            have c0 := blk_cell HZ3.out 0
            have c1 := blk_cell HZ3.out 1
            have q0 := blk_frozen HZ3.out 0
            have q1 := blk_frozen HZ3.out 1
            simp only [List.getElem?_toArray, List.getElem?_cons_zero, List.getElem?_cons_succ] at c0 c1
            go_wp2_with fail
            refine bodyPost_ret (v := .agg #[.slice none 0 0, .int .i64 0]) ?_ rfl ⟨rfl, ?_⟩
            · rw [results_cell1 rfl]
              go_simp
            · have hB : W.heap.size ≤ S := Nat.le_of_eq HS.out
              exact ((below_then HB2.out.1 HB2.out.1.size HB3.out).setCell (p := ⟨S, 0, none⟩) hB _).setCell (p := ⟨S, 1, none⟩) hB _
          | some r =>
            obtain ⟨is, nn⟩ := r
            rintro e3 w3 ⟨⟨v, rfl, hri⟩, hb3⟩
            obtain ⟨A3, d3, rfl, _⟩ := RowI.slice hri
            have HRI := Lib.hid hri
            have HB3 := Lib.hid hb3
            have HZ3 := Lib.hid ((hb3.block _ HB2.out.2.2.1).trans HB2.out.2.1)
            clear hb3 hri
            have c0 := blk_cell HZ3.out 0
            have c1 := blk_cell HZ3.out 1
            have q0 := blk_frozen HZ3.out 0
            have q1 := blk_frozen HZ3.out 1
            simp only [List.getElem?_toArray, List.getElem?_cons_zero, List.getElem?_cons_succ] at c0 c1
            go_wp2_with fail
            have HD := got_done (.int .i64 ((nn : Int) + 1)) HS.out HB2.out.2.2.1 HZ3.out HRI.out (below_then HB2.out.1 HB2.out.1.size HB3.out)
            simp only [List.nil_append] at HD
            refine bodyPost_ret (v := .agg #[.slice A3 is.length d3, .int .i64 ((nn : Int) + 1)]) ?_ rfl ⟨⟨_, rfl, HD.1⟩, HD.2⟩
            rw [results_cell1 rfl]
            go_simp
      · have hlt : L < t.length := by
          have h2 := has_61 t
          rw [hc, HL.out] at h2
          simpa using h2.symm
        have hem3 : e < m := by have := HMT.out; have := HE3.out; omega
        have heI : (e : Int) < (m : Int) := by omega
        have hpe : e < (mk y).size := by rw [hs]; exact hem3
        obtain ⟨be, hbe⟩ : ∃ be : Int, (((mk y)[e]'hpe).toNat : Int) = be := ⟨_, rfl⟩
        have hne : (be != 61) = false := by
          have q2 := tw_at (p := (· != 61)) (l := t) (by have := HL.out; unfold oneC at this; omega)
          have hyy := HY.out
          have h3 : (t.takeWhile (· != 61)).length = e - 2 := by have := HL.out; unfold oneC at this; have := HE3.out; omega
          simp only [h3] at q2
          subst hyy
          rw [← hbe, at_two t e he2 hpe (by have := HE3.out; omega), show (61 : Int) = ((61 : Nat) : Int) from rfl, byte_ne _ 61 (by omega)]
          exact q2
        rw [hc] at HLS
        go_wp2_with fail
        refine HNM.out.mono ?_
        rintro e' w1 ⟨rfl, hb1⟩
        have HB1 := Lib.hid (And.intro (ext_trans HB0.out hb1) hb1)
        clear hb1
        have HZ1 := Lib.hid ((HB1.out.2.block _ (Array.getElem?_eq_some_iff.1 HZ0.out).1).trans HZ0.out)
        have c0 := blk_cell HZ1.out 0
        have c1 := blk_cell HZ1.out 1
        have q0 := blk_frozen HZ1.out 0
        have q1 := blk_frozen HZ1.out 1
        have hSl := (Array.getElem?_eq_some_iff.1 HZ1.out).1
        simp only [List.getElem?_toArray, List.getElem?_cons_zero, List.getElem?_cons_succ] at c0 c1
        have hB : W.heap.size ≤ S := Nat.le_of_eq HS.out
        unfold specV specC
        cases o with
        | none =>
          obtain rfl := HLS.out
          simp only [Option.getD_none, Option.isSome_none]
          go_wp2_with fail
          refine bodyPost_ret (v := .agg #[.slice none 0 0, .int .i64 0]) ?_ rfl ⟨rfl, ?_⟩
          · rw [results_cell1 rfl]
            go_simp
          · exact ((HB1.out.1.setCell (p := ⟨S, 0, none⟩) hB _).setCell (p := ⟨S, 1, none⟩) hB _).alloc (by simp; exact HB1.out.1.size) _
        | some s =>
          obtain ⟨l, sh, nd⟩ := s
          simp only [if_true] at HLS
          simp only [Option.getD_some, Option.isSome_some]
          cases hnd : (nd == 1)
          · have hnd2 : (nd != 1) = true := by rw [bne, hnd]; rfl
            have hr : Hid (r = none) := Lib.hid (by rw [HLS.out]; simp only [hnd]; rfl)
            obtain rfl := hr.out
            go_wp2_with fail
            refine bodyPost_ret (v := .agg #[.slice none 0 0, .int .i64 0]) ?_ rfl ⟨rfl, ?_⟩
            · rw [results_cell1 rfl]
              go_simp
            · exact ((HB1.out.1.setCell (p := ⟨S, 0, none⟩) hB _).setCell (p := ⟨S, 1, none⟩) hB _).alloc (by simp; exact HB1.out.1.size) _
          · have hnd2 : (nd != 1) = false := by rw [bne, hnd]; rfl
            have hr : Hid (r = some ([⟨l, [afterC 61 t]⟩], 0)) := Lib.hid (by rw [HLS.out]; simp only [hnd]; rfl)
            obtain rfl := hr.out
            go_wp2_with fail
            have hex2 := mk_extract y (e + 1) m
            have hx2 : (y.drop (e + 1)).take (m - (e + 1)) = afterC 61 t := by
              have hyy := HY.out
              rw [List.take_of_length_le (by rw [List.length_drop]; have : y.length = m := by rw [← hs, mk_size]
                                             omega), ← hyy]
              unfold afterC
              rw [HL.out, HE3.out, show 2 + L + 1 = L + 1 + 1 + 1 by omega]
              rfl
            rw [hx2] at hex2
            obtain ⟨af, haf⟩ : ∃ af, afterC 61 t = af := ⟨_, rfl⟩
            rw [haf] at hex2
            have HAF := Lib.hid haf
            obtain ⟨w2, hw2⟩ : ∃ w2, w1.alloc (.cells #[.string (mk l), .int .u8 sh.toNat, .int .i64 nd] 67) = w2 := ⟨_, rfl⟩
            have HB2 : Hid (Below W.heap.size W w2 ∧ w2.heap[S]? = some (.cells #[.slice none 0 0, .int .i64 0] 134) ∧ S < w2.heap.size ∧ w2.heap[w1.heap.size]? = some (.cells #[.string (mk l), .int .u8 sh.toNat, .int .i64 nd] 67)) := Lib.hid (by
              rw [← hw2]
              exact ⟨HB1.out.1.alloc HB1.out.1.size _, heap_stay HZ1.out _, (Array.getElem?_eq_some_iff.1 (heap_stay HZ1.out _)).1, heap_alloc_new _ _⟩)
            have hne2 : ¬ w1.heap.size = S := by omega
            obtain ⟨B, hBB⟩ : ∃ B, w1.heap.size = B := ⟨_, rfl⟩
            rw [hw2, hBB]
            rw [hBB] at hne2 HB2
            clear c0 c1 q0 q1 hw2 hx2 haf hBB HNM hSl
            have s0 := blk_cell HB2.out.2.2.2 0
            have c0 := blk_cell HB2.out.2.1 0
            have c1 := blk_cell HB2.out.2.1 1
            have q0 := blk_frozen HB2.out.2.1 0
            have q1 := blk_frozen HB2.out.2.1 1
            have hSl := HB2.out.2.2.1
            simp only [List.getElem?_toArray, List.getElem?_cons_zero, List.getElem?_cons_succ] at s0 c0 c1
            have heI1 : (e : Int) + 1 ≤ (m : Int) := by omega
            have hwr : IntKind.i64.wrap ((e : Int) + 1) = (e : Int) + 1 := IntWalk.i64_in _ (by omega)
            have hz1 : (0 : Int) ≤ (e : Int) + 1 := by omega
            have hn1 : ((e : Int) + 1).toNat = e + 1 := by omega
            have hkp : ∀ (W' : World) (i : Nat) (v : Value), (W'.setCell ⟨S, i, none⟩ v).cell? ⟨B, 0, none⟩ = W'.cell? ⟨B, 0, none⟩ := fun W' i v => by
              rw [World.cell?_setCell_other]
              intro h
              exact hne2 (congrArg Addr.block h).symm
            go_region_held3 (fun w' => w'.cell? ⟨B, 0, none⟩ = some (.string (mk l))) (go_keep) (fail)
            clear hkp hwr hn1 hz1
            go_wp2_with fail
            obtain ⟨w4, hw4⟩ : ∃ w4, (w2.setCell ⟨S, 0, none⟩ (.slice (some ⟨w2.heap.size + 1, 0, none⟩) 1 1)).setCell ⟨S, 1, none⟩ (.int .i64 1) = w4 := ⟨_, rfl⟩
            have hsz : w4.heap.size = w2.heap.size := by rw [← hw4]; simp
            have hb4 : Below W.heap.size W w4 := by rw [← hw4]; exact (HB2.out.1.setCell (p := ⟨S, 0, none⟩) hB _).setCell (p := ⟨S, 1, none⟩) hB _
            have HE := Lib.hid (one_item (W := w4.alloc (.cells #[.string (mk af)] 9)) (base := W.heap.size) ⟨l, [af]⟩ (some ⟨w4.heap.size, 0, none⟩) 1 (by have := hb4.size; simp; omega) ((in_new w4 af).mono hb4.size))
            rw [World.size_alloc, hsz] at HE
            have HW4 := Lib.hid hw4
            have HB4 := Lib.hid hb4
            have HSZ := Lib.hid hsz
            clear hw4 hb4 hsz
            refine bodyPost_ret (v := .agg #[.slice (some ⟨w2.heap.size + 1, 0, none⟩) 1 1, .int .i64 1]) ?_ rfl ⟨⟨_, rfl, ?_⟩, ?_⟩
            · rw [results_cell1 rfl]
              go_simp
            · rw [HW4.out, HAF.out]
              exact HE.out
            · rw [HW4.out]
              exact below_drewN ((HB4.out.alloc HB4.out.size _).alloc (by have := HB4.out.size; simp; omega) _) 1


/-- Items ahead of what is read. -/
def preR (acc : List ItemT) : Option (List ItemT × Nat) → Option (List ItemT × Nat)
  | none => none
  | some (is, n) => some (acc ++ is, n)
theorem preR_nil (r : Option (List ItemT × Nat)) : preR [] r = r := by
  cases r with
  | none => rfl
  | some r => rfl
theorem preR_preR (a b : List ItemT) (r : Option (List ItemT × Nat)) : preR a (preR b r) = preR (a ++ b) r := by
  cases r with
  | none => rfl
  | some r => simp [preR]
theorem short_none {ss : List SpecT} {c : UInt8} {w : Tx} (rest : List Tx) (h : (findS ss fun s => !(s.short == 0) && s.short == c) = none) : shortS ss (c :: w) rest = none := by
  unfold shortS; rw [h]
theorem short_last {ss : List SpecT} {c : UInt8} {s : SpecT} (rest : List Tx) (h : (findS ss fun s => !(s.short == 0) && s.short == c) = some s) : shortS ss [c] rest = putS s rest := by
  unfold shortS
  rw [h]
  simp only [List.isEmpty_nil, Bool.not_true, Bool.and_false, Bool.false_eq_true, if_false]
  cases putS s rest with
  | none => rfl
  | some r =>
    obtain ⟨i, n⟩ := r
    simp [shortS]
theorem short_more {ss : List SpecT} {c d : UInt8} {w : Tx} {s : SpecT} (rest : List Tx) (h : (findS ss fun s => !(s.short == 0) && s.short == c) = some s) :
    shortS ss (c :: d :: w) rest = if 1 < s.needs then none else if s.needs = 1 then some ([⟨s.long, [d :: w]⟩], 0) else preR [⟨s.long, []⟩] (shortS ss (d :: w) rest) := by
  conv => lhs; unfold shortS
  rw [h]
  by_cases h1 : 1 < s.needs
  · simp [h1]
  · by_cases h2 : s.needs = 1
    · simp [h2]
    · have h3 : nOf s = 0 := by unfold nOf; omega
      have h4 : putS s rest = some ([⟨s.long, []⟩], 0) := by unfold putS; rw [h3]; simp
      simp only [h1, h2, h4, decide_false, Bool.false_and, Bool.false_eq_true, if_false, List.drop_zero]
      cases shortS ss (d :: w) rest with
      | none => simp [preR, h2]
      | some r => obtain ⟨is, m⟩ := r; simp [preR, h2]
theorem step_put_item {ops : Array Oper} {o : Oper} {a : Act} {K : Act → World → Prop} {Q : Exit → Act → World → Prop} {E : Prop} {W0 W : World} (base : Nat) (hg : o.guard = none) (s x : Operand)
    (ho : o.op = .call { callee := .builtin .append, args := #[s, x], argTypes := #[101, 101] }) (v : Value) (items : List ItemT) (hs : a.eval s = v)
    (H0 : RowI W0 base v items) (hbl : Below W0.heap.size W0 W) (hbase : base ≤ W0.heap.size) (hl : (items.length + 1) * 40 ≤ 140737488355328)
    (B : Nat) (hx : a.eval x = .slice (some ⟨B, 0, none⟩) 1 1) (it : ItemT) (A : Option Addr) (c : Nat) (fr : Nat × Nat) (hB : W.heap[B]? = some (.cells #[.string (mk it.long), .slice A it.vals.length c] 105 fr))
    (hsafe : InAt W base v.ownBlock A it.vals)
    (h : ∀ v1 w1, RowI w1 base v1 (items ++ [it]) → Below base W w1 → W.grownBy w1 v.ownBlock → K (a.put o.dst v1) w1) :
    if Region.wanted o (yielded ops a.tmps) = true then Oper.wp Try.prog o a W K Q else E := by
  have hwd : Region.wanted o (yielded ops a.tmps) = true := by simp [Region.wanted, hg]
  rw [if_pos hwd]
  refine wp_put_item s x ho base v items hs H0 hbl hbase hl B hx it A c fr hB hsafe fun v1 w1 r1 g1 _ => h v1 w1 r1 ?_ g1
  exact (Below.refl base W).grown g1 (Nat.le_trans hbase hbl.size) (fun k hk => (H0.own k hk).1)
theorem below_d2' (w : World) (a b : Obj) : Below w.heap.size w ((w.alloc a).alloc b).drew := below_drewN (((Below.refl _ _).alloc (Nat.le_refl _) _).alloc (by simp) _) 1
theorem hpTwo (w : World) (a b : Obj) : ((w.alloc a).alloc b).drew.heap[w.heap.size + 1]? = some b := by
  have h := heap_alloc_new (w.alloc a) b
  rw [World.size_alloc] at h
  exact h
theorem in_two (w : World) (x : Tx) (o : Obj) {v : Value} {B n : Nat} (h : ∀ g, v.ownBlock = some g → B ≤ g ∧ g < n) (hn : n ≤ w.heap.size) (hB : B ≤ w.heap.size) : InAt ((w.alloc (.cells #[.string (mk x)] 9)).alloc o).drew B v.ownBlock (some ⟨w.heap.size, 0, none⟩) [x] :=
  .inr ⟨w.heap.size, 0, rfl, by show w.heap.size < ((w.alloc (.cells #[.string (mk x)] 9)).alloc o).heap.size; simp; omega, ⟨hB, fun e => by have := (h _ e.symm).2; omega⟩, fun j hj => by
    obtain rfl : j = 0 := by simpa using hj
    rw [Nat.zero_add]
    show ((w.alloc (.cells #[.string (mk x)] 9)).alloc o).cell? _ = _
    rw [World.cell?_alloc_lt _ _ _ (by simp), cellA_new]
    rfl⟩
theorem at_one (q : Tx) (j : Nat) (h : j + 1 < (mk (45 :: q)).size) (h3 : j < q.length) : (mk (45 :: q))[j + 1]'h = q[j] := rfl

set_option maxRecDepth 100000 in
set_option maxHeartbeats 4000000 in
theorem ref_One_short (sa : Option Addr) (sc : Nat) (ss : List SpecT) (wa : Option Addr) (wc : Nat) (ws : List Tx) (k : Nat) (W : World) (hsp : SpecsAt W sa ss) (hss : ss.length ≤ 1000000) (hw : StrsAt W wa ws) (hk : k < ws.length) (c : UInt8) (t : Tx) (hc : c ≠ 45) (ht : ws[k] = 45 :: c :: t) (hws : ws.length ≤ 100000000000) (hy : t.length ≤ 10000000000) :
    Calls Try.prog 126 #[.slice sa ss.length sc, .slice wa ws.length wc, .int .i64 k] W (GotTo W.heap.size [] (shortS ss (c :: t) (ws.drop (k + 1))) W) := by
  obtain ⟨b, off, hwa, l1, e1⟩ := hw.cells hk
  have f1 := e1 k hk
  rw [ht] at f1
  have HW := Lib.hid hw
  have HWK := Lib.hid hk
  have HSP := Lib.hid hsp
  obtain ⟨q, hq⟩ : ∃ q, c :: t = q := ⟨_, rfl⟩
  have hqt : q.length = t.length + 1 := by rw [← hq]; rfl
  obtain ⟨rest, hrest⟩ : ∃ rest, ws.drop (k + 1) = rest := ⟨_, rfl⟩
  obtain ⟨r, hr⟩ : ∃ r, shortS ss q rest = r := ⟨_, rfl⟩
  rw [hq, hrest, hr]
  rw [hq] at f1
  have HRS := Lib.hid hrest
  have HR := Lib.hid hr
  obtain ⟨n, hn⟩ : ∃ n, ws.length = n := ⟨_, rfl⟩
  have HN := Lib.hid hn
  rw [hn] at hk hws ⊢
  have hkI : (k : Int) < (n : Int) := by omega
  have hk0 : (0 : Int) ≤ (k : Int) := by omega
  obtain ⟨y, hyy⟩ : ∃ y, (45 : UInt8) :: q = y := ⟨_, rfl⟩
  rw [hyy] at f1
  obtain ⟨m, hm⟩ : ∃ m, y.length = m := ⟨_, rfl⟩
  have hmt : m = q.length + 1 := by rw [← hm, ← hyy]; simp
  have hs : (mk y).size = m := by rw [mk_size]; exact hm
  have HY := Lib.hid hyy
  have hpos : 0 < (mk y).size := by rw [hs]; omega
  have hpos1 : 1 < (mk y).size := by rw [hs]; omega
  obtain ⟨b0, hb0⟩ : ∃ b0 : Int, (((mk y)[0]'hpos).toNat : Int) = b0 := ⟨_, rfl⟩
  obtain ⟨b1, hb1⟩ : ∃ b1 : Int, (((mk y)[1]'hpos1).toNat : Int) = b1 := ⟨_, rfl⟩
  have h0 : (b0 != 45) = false := by subst hyy; rw [← hb0]; rfl
  have h1 : (b1 == 45) = false := by
    subst hyy; subst hq
    rw [← hb1, show (45 : Int) = ((45 : Nat) : Int) from rfl, byte_eq _ 45 (by omega)]
    have : (mk (45 :: c :: t))[1]'hpos1 = c := rfl
    rw [this]
    simpa using hc
  have hm2 : ¬ ((m : Int) < 2) := by omega
  have hp2 : 0 < m := by omega
  have hp3 : 1 < m := by omega
  have hm100 : (m : Int) ≤ 20000000000 := by omega
  have HMT := Lib.hid hmt
  obtain ⟨Q, hQ⟩ : ∃ Q, t.length = Q := ⟨_, rfl⟩
  have HQ : Hid (q.length = Q + 1) := Lib.hid (by omega)
  have hQ2 : m = Q + 2 := by omega
  have HQ2 := Lib.hid hQ2
  have hQ10 : Q ≤ 10000000000 := by omega
  subst hwa
  clear hyy hr hn hw hsp e1 hmt ht hm hq hqt hrest hQ hQ2 hc hy
  have HB0 : Hid (Below W.heap.size W (W.alloc (.cells #[.slice none 0 0, .int .i64 0] 134))) := Lib.hid ((Below.refl _ _).alloc (Nat.le_refl _) _)
  have HZ0 : Hid ((W.alloc (.cells #[.slice none 0 0, .int .i64 0] 134)).heap[W.heap.size]? = some (.cells #[.slice none 0 0, .int .i64 0] 134)) := Lib.hid (heap_alloc_new _ _)
  go_enter Try.func126, Try.ntmps126
  go_wp2_with fail
  obtain ⟨S, hS⟩ : ∃ S, W.heap.size = S := ⟨_, rfl⟩
  have HS := Lib.hid hS
  obtain ⟨w0, hw0⟩ : ∃ w0, W.alloc (.cells #[.slice none 0 0, .int .i64 0] 134) = w0 := ⟨_, rfl⟩
  rw [hw0] at HB0 HZ0 ⊢
  rw [hS] at HZ0 ⊢
  clear hw0 hS
  go_loopg [11, 12] Q (fun g lv iv wx => ∃ (i : Nat) (acc : List ItemT), i + g = Q + 1 ∧ 1 ≤ i ∧ iv = .int .i64 i ∧ acc.length + 1 = i ∧ Hid (RowI wx w0.heap.size lv acc) ∧ Hid (Below w0.heap.size w0 wx) ∧ Hid (r = preR acc (shortS ss (q.drop (i - 1)) rest)))
  case atStart => exact ⟨1, [], by omega, by omega, rfl, rfl, Lib.hid (RowI.nil _ _), Lib.hid (Below.refl _ _), Lib.hid (by rw [Nat.sub_self, List.drop_zero, preR_nil]; exact HR.out.symm)⟩
  case round =>
    obtain ⟨i, acc, hi, hi1, rfl, hacc, hrow, hbl, hst⟩ := hrel
    have him : i < m := by have := HQ2.out; omega
    have hiI : (i : Int) < (m : Int) := by omega
    have hi0 : (0 : Int) ≤ (i : Int) := by omega
    have hpe : i < (mk y).size := by rw [hs]; exact him
    obtain ⟨b8, hb8⟩ : ∃ b8 : UInt8, (mk y)[i]'hpe = b8 := ⟨_, rfl⟩
    have hdrop : q.drop (i - 1) = b8 :: q.drop i := by
      have hyy := HY.out
      subst hyy
      obtain ⟨j, rfl⟩ : ∃ j, i = j + 1 := ⟨i - 1, by omega⟩
      have hjq : j < q.length := by have := HQ.out; omega
      rw [show j + 1 - 1 = j by omega, List.drop_eq_getElem_cons hjq, ← hb8]
      rfl
    rw [hdrop] at hst
    have HAC := Lib.hid hacc
    have HBL : Hid (Below W.heap.size W wr) := Lib.hid (below_then HB0.out HB0.out.size hbl.out)
    have HZR : Hid (wr.heap[S]? = some (.cells #[.slice none 0 0, .int .i64 0] 134)) := Lib.hid ((hbl.out.block _ (Array.getElem?_eq_some_iff.1 HZ0.out).1).trans HZ0.out)
    have HLT := Lib.hid (ref_lettered sa sc ss b8 wr (HSP.out.below HBL.out) hss)
    obtain ⟨o, ho⟩ : ∃ o, (findS ss fun s => !(s.short == 0) && s.short == b8) = o := ⟨_, rfl⟩
    rw [ho] at HLT
    have HO := Lib.hid ho
    have hSB : S < w0.heap.size := (Array.getElem?_eq_some_iff.1 HZ0.out).1
    have HSB := Lib.hid hSB
    clear hdrop ho hacc hSB
    cases gk with
    | zero =>
      have HLAST : Hid (q.drop i = []) := Lib.hid (List.drop_eq_nil_of_le (by have := HQ.out; omega))
      have hlast : ((i : Int) + 1 == (m : Int)) = true := by simp; have := HQ2.out; omega
      go_wp2_with fail
      refine HLT.out.mono ?_
      rintro e' w1 ⟨rfl, hb1⟩
      have HB1 := Lib.hid (And.intro (ext_trans HBL.out hb1) hb1)
      clear hb1
      have HZ1 := Lib.hid ((HB1.out.2.block _ (Array.getElem?_eq_some_iff.1 HZR.out).1).trans HZR.out)
      have c0 := blk_cell HZ1.out 0
      have c1 := blk_cell HZ1.out 1
      have q0 := blk_frozen HZ1.out 0
      have q1 := blk_frozen HZ1.out 1
      have hSl := (Array.getElem?_eq_some_iff.1 HZ1.out).1
      simp only [List.getElem?_toArray, List.getElem?_cons_zero, List.getElem?_cons_succ] at c0 c1
      have hB : W.heap.size ≤ S := Nat.le_of_eq HS.out
      unfold specV specC
      cases o with
      | none =>
        have hr : Hid (r = none) := Lib.hid (by rw [hst.out, short_none _ HO.out]; rfl)
        obtain rfl := hr.out
        simp only [Option.getD_none, Option.isSome_none]
        go_wp2_with fail
        refine bodyPost_ret (v := .agg #[.slice none 0 0, .int .i64 0]) ?_ rfl ⟨rfl, ?_⟩
        · rw [results_cell1 rfl]
          go_simp
        · exact (((HB1.out.1.setCell (p := ⟨S, 0, none⟩) hB _).setCell (p := ⟨S, 1, none⟩) hB _).alloc (by simp; exact HB1.out.1.size) _).mono (Nat.le_of_eq HS.out.symm)
      | some s =>
        obtain ⟨l, sh, nd⟩ := s
        have HRP : Hid (r = preR acc (putS ⟨l, sh, nd⟩ rest)) := Lib.hid (by rw [hst.out, HLAST.out, short_last _ HO.out])
        obtain ⟨w2, hw2⟩ : ∃ w2, w1.alloc (.cells #[.string (mk l), .int .u8 sh.toNat, .int .i64 nd] 67) = w2 := ⟨_, rfl⟩
        have HB2 : Hid (Below wr.heap.size wr w2 ∧ Below W.heap.size W w2 ∧ w2.heap[S]? = some (.cells #[.slice none 0 0, .int .i64 0] 134) ∧ w2.heap[w1.heap.size]? = some (.cells #[.string (mk l), .int .u8 sh.toNat, .int .i64 nd] 67)) := Lib.hid (by
          rw [← hw2]
          exact ⟨HB1.out.2.alloc HB1.out.2.size _, HB1.out.1.alloc HB1.out.1.size _, heap_stay HZ1.out _, heap_alloc_new _ _⟩)
        have HWI := Lib.hid (ref_with ⟨l, sh, nd⟩ (some ⟨b, off, none⟩) wc ws k u11 acc w0.heap.size w2 (HW.out.below HB2.out.2.1) HWK.out (hrow.out.below HB2.out.1) (Nat.le_trans hbl.out.size HB2.out.1.size) (by rw [HN.out]; omega) (by have := HAC.out; have := HQ2.out; omega))
        rw [HRS.out, HN.out] at HWI
        unfold specV specC at HWI
        simp only [Option.getD_some, Option.isSome_some] at HWI ⊢
        have s0 := blk_cell HB2.out.2.2.2 0
        have s1 := blk_cell HB2.out.2.2.2 1
        have s2 := blk_cell HB2.out.2.2.2 2
        simp only [List.getElem?_toArray, List.getElem?_cons_zero, List.getElem?_cons_succ] at s0 s1 s2
        go_wp2_with fail
        refine HWI.out.mono ?_
        clear hw2 s0 s1 s2 HWI c0 c1 q0 q1 hSl
        cases hp : putS ⟨l, sh, nd⟩ rest with
        | none =>
          rw [hp] at HRP
          have hr : Hid (r = none) := Lib.hid HRP.out
          obtain rfl := hr.out
          rintro e3 w3 ⟨rfl, hb3⟩
          have HB3 := Lib.hid (below_then HB0.out HB0.out.size ((hbl.out.trans ((HB2.out.1).mono hbl.out.size)).trans hb3))
          have HZ3 := Lib.hid ((hb3.block _ HSB.out).trans HB2.out.2.2.1)
          clear hb3
          have c0 := blk_cell HZ3.out 0
          have c1 := blk_cell HZ3.out 1
          have q0 := blk_frozen HZ3.out 0
          have q1 := blk_frozen HZ3.out 1
          simp only [List.getElem?_toArray, List.getElem?_cons_zero, List.getElem?_cons_succ] at c0 c1
          go_wp2_with fail
          refine bodyPost_ret (v := .agg #[.slice none 0 0, .int .i64 0]) ?_ rfl ⟨rfl, ?_⟩
          · rw [results_cell1 rfl]
            go_simp
          · exact ((HB3.out.setCell (p := ⟨S, 0, none⟩) hB _).setCell (p := ⟨S, 1, none⟩) hB _).mono (Nat.le_of_eq HS.out.symm)
        | some pr =>
          obtain ⟨is, nn⟩ := pr
          rw [hp] at HRP
          obtain ⟨ai, hai⟩ : ∃ ai, acc ++ is = ai := ⟨_, rfl⟩
          have hr : Hid (r = some (ai, nn)) := Lib.hid (by rw [← hai]; exact HRP.out)
          obtain rfl := hr.out
          rintro e3 w3 ⟨⟨v, rfl, hri⟩, hb3⟩
          rw [hai] at hri
          clear hai
          obtain ⟨A3, d3, rfl, _⟩ := RowI.slice hri
          have HRI := Lib.hid hri
          have HB3 := Lib.hid (below_then HB0.out HB0.out.size ((hbl.out.trans ((HB2.out.1).mono hbl.out.size)).trans hb3))
          have HZ3 := Lib.hid ((hb3.block _ HSB.out).trans HB2.out.2.2.1)
          clear hb3 hri
          have c0 := blk_cell HZ3.out 0
          have c1 := blk_cell HZ3.out 1
          have q0 := blk_frozen HZ3.out 0
          have q1 := blk_frozen HZ3.out 1
          simp only [List.getElem?_toArray, List.getElem?_cons_zero, List.getElem?_cons_succ] at c0 c1
          go_wp2_with fail
          have HD := got_done (.int .i64 ((nn : Int) + 1)) HS.out HSB.out HZ3.out HRI.out HB3.out
          refine bodyPost_ret (v := .agg #[.slice A3 ai.length d3, .int .i64 ((nn : Int) + 1)]) ?_ rfl ⟨⟨_, rfl, HD.1.mono (Nat.le_of_eq HS.out.symm)⟩, HD.2.mono (Nat.le_of_eq HS.out.symm)⟩
          rw [results_cell1 rfl]
          go_simp
    | succ g =>
      have hlast : ((i : Int) + 1 == (m : Int)) = false := by simp; have := HQ2.out; omega
      go_wp2_with fail
      refine HLT.out.mono ?_
      rintro e' w1 ⟨rfl, hb1⟩
      have HB1 := Lib.hid (And.intro (ext_trans HBL.out hb1) hb1)
      clear hb1
      have HZ1 := Lib.hid ((HB1.out.2.block _ (Array.getElem?_eq_some_iff.1 HZR.out).1).trans HZR.out)
      have c0 := blk_cell HZ1.out 0
      have c1 := blk_cell HZ1.out 1
      have q0 := blk_frozen HZ1.out 0
      have q1 := blk_frozen HZ1.out 1
      have hSl := (Array.getElem?_eq_some_iff.1 HZ1.out).1
      simp only [List.getElem?_toArray, List.getElem?_cons_zero, List.getElem?_cons_succ] at c0 c1
      have hB : W.heap.size ≤ S := Nat.le_of_eq HS.out
      unfold specV specC
      cases o with
      | none =>
        have hr : Hid (r = none) := Lib.hid (by rw [hst.out, short_none _ HO.out]; rfl)
        obtain rfl := hr.out
        simp only [Option.getD_none, Option.isSome_none]
        go_wp2_with fail
        refine bodyPost_ret (v := .agg #[.slice none 0 0, .int .i64 0]) ?_ rfl ⟨rfl, ?_⟩
        · rw [results_cell1 rfl]
          go_simp
        · exact (((HB1.out.1.setCell (p := ⟨S, 0, none⟩) hB _).setCell (p := ⟨S, 1, none⟩) hB _).alloc (by simp; exact HB1.out.1.size) _).mono (Nat.le_of_eq HS.out.symm)
      | some s =>
        obtain ⟨l, sh, nd⟩ := s
        have HSM : Hid (r = preR acc (if 1 < nd then none else if nd = 1 then some ([⟨l, [q.drop i]⟩], 0) else preR [⟨l, []⟩] (shortS ss (q.drop i) rest))) := Lib.hid (by
          have hiq : i < q.length := by have := HQ.out; omega
          rw [hst.out]
          rw [List.drop_eq_getElem_cons hiq, short_more _ HO.out])
        obtain ⟨w2, hw2⟩ : ∃ w2, w1.alloc (.cells #[.string (mk l), .int .u8 sh.toNat, .int .i64 nd] 67) = w2 := ⟨_, rfl⟩
        have HB2 : Hid (Below wr.heap.size wr w2 ∧ Below W.heap.size W w2 ∧ w2.heap[S]? = some (.cells #[.slice none 0 0, .int .i64 0] 134) ∧ w2.heap[w1.heap.size]? = some (.cells #[.string (mk l), .int .u8 sh.toNat, .int .i64 nd] 67)) := Lib.hid (by
          rw [← hw2]
          exact ⟨HB1.out.2.alloc HB1.out.2.size _, HB1.out.1.alloc HB1.out.1.size _, heap_stay HZ1.out _, heap_alloc_new _ _⟩)
        have HROW2 := Lib.hid (hrow.out.below HB2.out.1)
        simp only [Option.getD_some, Option.isSome_some]
        have s0 := blk_cell HB2.out.2.2.2 0
        have s2 := blk_cell HB2.out.2.2.2 2
        simp only [List.getElem?_toArray, List.getElem?_cons_zero, List.getElem?_cons_succ] at s0 s2
        by_cases h2 : 1 < nd
        · have hr : Hid (r = none) := Lib.hid (by rw [HSM.out, if_pos h2]; rfl)
          obtain rfl := hr.out
          clear c0 c1 q0 q1
          have c0 := blk_cell HB2.out.2.2.1 0
          have c1 := blk_cell HB2.out.2.2.1 1
          have q0 := blk_frozen HB2.out.2.2.1 0
          have q1 := blk_frozen HB2.out.2.2.1 1
          simp only [List.getElem?_toArray, List.getElem?_cons_zero, List.getElem?_cons_succ] at c0 c1
          go_wp2_with fail
          refine bodyPost_ret (v := .agg #[.slice none 0 0, .int .i64 0]) ?_ rfl ⟨rfl, ?_⟩
          · rw [results_cell1 rfl]
            go_simp
          · exact ((HB2.out.2.1.setCell (p := ⟨S, 0, none⟩) hB _).setCell (p := ⟨S, 1, none⟩) hB _).mono (Nat.le_of_eq HS.out.symm)
        · by_cases h3 : nd = 1
          · subst h3
            have hr : Hid (r = some (acc ++ [⟨l, [q.drop i]⟩], 0)) := Lib.hid (by rw [HSM.out, if_neg h2, if_pos rfl]; rfl)
            obtain rfl := hr.out
            have hex2 := mk_extract y (i + 1) m
            have hx2 : (y.drop (i + 1)).take (m - (i + 1)) = q.drop i := by
              have hyy := HY.out
              rw [List.take_of_length_le (by rw [List.length_drop]; have : y.length = m := by rw [← hs, mk_size]
                                             omega), ← hyy]
              rfl
            rw [hx2] at hex2
            obtain ⟨af, haf⟩ : ∃ af, q.drop i = af := ⟨_, rfl⟩
            rw [haf] at hex2
            have HAF := Lib.hid haf
            have hbw : w0.heap.size ≤ w2.heap.size := Nat.le_trans hbl.out.size HB2.out.1.size
            have hacl : (acc.length + 1) * 40 ≤ 140737488355328 := by have := HAC.out; have := HQ2.out; omega
            have HNB : Hid (∀ g, u11.ownBlock = some g → w0.heap.size ≤ g ∧ g < wr.heap.size) := Lib.hid hrow.out.own
            have HBR : Hid (wr.heap.size ≤ w1.heap.size ∧ S < wr.heap.size) := Lib.hid ⟨HB1.out.2.size, (Array.getElem?_eq_some_iff.1 HZR.out).1⟩
            clear c0 c1 q0 q1 hSl hx2 haf
            go_wp2_with fail
            try rw [hw2]
            clear hw2
            have hiI1 : (i : Int) + 1 ≤ (m : Int) := by omega
            have hwr : IntKind.i64.wrap ((i : Int) + 1) = (i : Int) + 1 := IntWalk.i64_in _ (by omega)
            have hz1 : (0 : Int) ≤ (i : Int) + 1 := by omega
            have hn1 : ((i : Int) + 1).toNat = i + 1 := by omega
            have hne2 : ¬ w1.heap.size = S := by have := HBR.out; omega
            have hkp : ∀ (W' : World) (j : Nat) (v : Value), (W'.setCell ⟨S, j, none⟩ v).cell? ⟨w1.heap.size, 0, none⟩ = W'.cell? ⟨w1.heap.size, 0, none⟩ := fun W' j v => by
              rw [World.cell?_setCell_other]
              intro h
              exact hne2 (congrArg Addr.block h).symm
            have HW4 : Hid (RowI w2 w0.heap.size u11 acc) := HROW2
            have HCZ : Hid (∀ a b w5, (((w2.alloc a).alloc b).drew).grownBy w5 u11.ownBlock → w5.heap[S]? = some (.cells #[.slice none 0 0, .int .i64 0] 134)) := Lib.hid (fun a b w5 g => by
              have hlt : S < w2.heap.size := (Array.getElem?_eq_some_iff.1 HB2.out.2.2.1).1
              rw [g.block S (Nat.lt_of_lt_of_le hlt (below_d2' w2 a b).size) (fun e => by have h2 : w0.heap.size ≤ S := (HNB.out _ e.symm).1; have := HSB.out; omega), (below_d2' w2 a b).block S hlt]
              exact HB2.out.2.2.1)
            have HCF : Hid (∀ a b w5, (((w2.alloc a).alloc b).drew).grownBy w5 u11.ownBlock → w5.cell? ⟨w1.heap.size, 0, none⟩ = some (.string (mk l))) := Lib.hid (fun a b w5 g => by
              have hlt : w1.heap.size < w2.heap.size := (Array.getElem?_eq_some_iff.1 HB2.out.2.2.2).1
              rw [g.cell_far ⟨w1.heap.size, 0, none⟩ (Nat.lt_of_lt_of_le hlt (below_d2' w2 a b).size) (fun e => by have h2 : w1.heap.size < wr.heap.size := (HNB.out _ e.symm).2; have := HBR.out.1; omega)]
              rw [(below_d2' w2 a b).cell (p := ⟨w1.heap.size, 0, none⟩) hlt]
              exact s0)
            go_region_held3 (fun w' => w'.cell? ⟨w1.heap.size, 0, none⟩ = some (.string (mk l))) (first | (with_reducible assumption) | go_keep)
              ((refine step_put_item (W0 := w2) w0.heap.size (by rfl) _ _ (by rfl) u11 acc (by rfl) HW4.out (below_d2' _ _ _) hbw hacl (w2.heap.size + 1) (by rfl) ⟨l, [af]⟩ (some ⟨w2.heap.size, 0, none⟩) 1 (0, 0) (hpTwo w2 _ _) (in_two w2 af _ HNB.out HB2.out.1.size hbw) ?_; intro v1 w5 r1 b1 g1; obtain ⟨A1, d1, rfl, _⟩ := RowI.slice r1; have s5 := HCF.out _ _ _ g1; have HZ5 := HCZ.out _ _ _ g1; have c0 := blk_cell HZ5 0; have c1 := blk_cell HZ5 1; have q0 := blk_frozen HZ5 0; have q1 := blk_frozen HZ5 1; have hSl := (Array.getElem?_eq_some_iff.1 HZ5).1; have HZ6 := Lib.hid HZ5; clear HZ5; simp only [List.getElem?_toArray, List.getElem?_cons_zero, List.getElem?_cons_succ] at c0 c1; have R1 := Lib.hid r1; have B5 := Lib.hid b1; clear r1 b1 g1))
            have R2 : Hid (RowI w5 w0.heap.size (.slice A1 (acc.length + 1) d1) (acc ++ [⟨l, [af]⟩])) := Lib.hid (by have := R1.out; rw [List.length_append] at this; exact this)
            have HD := Lib.hid (got_done (.int .i64 1) HS.out HSB.out HZ6.out R2.out (below_then HB0.out HB0.out.size (hbl.out.trans ((HB2.out.1.mono hbl.out.size).trans (((below_d2' w2 _ _).mono hbw).trans B5.out)))))
            go_wp2_with fail
            refine bodyPost_ret (v := .agg #[.slice A1 (acc.length + 1) d1, .int .i64 1]) ?_ rfl ⟨⟨_, rfl, ?_⟩, ?_⟩
            · rw [results_cell1 rfl]
              go_simp
            · rw [HAF.out]
              exact HD.out.1.mono (Nat.le_of_eq HS.out.symm)
            · exact HD.out.2.mono (Nat.le_of_eq HS.out.symm)
          · have h3b : (nd == 1) = false := by simpa using h3
            have HSM2 : Hid (r = preR (acc ++ [⟨l, []⟩]) (shortS ss (q.drop i) rest)) := Lib.hid (by rw [HSM.out, if_neg h2, if_neg h3, preR_preR])
            have hbw : w0.heap.size ≤ w2.heap.size := Nat.le_trans hbl.out.size HB2.out.1.size
            have hal : Below w2.heap.size w2 (w2.alloc (.cells #[.string (mk l), .slice none 0 0] 105)) := (Below.refl _ _).alloc (Nat.le_refl _) _
            have HAL := Lib.hid hal
            have hacl : (acc.length + 1) * 40 ≤ 140737488355328 := by have := HAC.out; have := HQ2.out; omega
            clear c0 c1 q0 q1 hSl hal
            go_wp2_with (at_builtin; refine wpList_put_item (W0 := w2) (W := w2.alloc (.cells #[.string (mk l), .slice none 0 0] 105)) rfl _ _ rfl w0.heap.size u11 acc rfl HROW2.out HAL.out hbw hacl w2.heap.size rfl ⟨l, []⟩ none 0 (0, 0) (heap_alloc_new _ _) (.inl rfl) ?_; intro v1 w5 r1 b1 g1 e1; have R1 := Lib.hid r1; have B5 := Lib.hid b1; clear r1 b1 g1 e1)
            go_roundg g
            case measure => omega
            case rel => exact ⟨i + 1, acc ++ [⟨l, []⟩], by omega, by omega, by go_num, by have := HAC.out; simp; omega, R1, Lib.hid ((hbl.out.trans (HB2.out.1.mono hbl.out.size)).trans ((HAL.out.mono hbw).trans B5.out)), Lib.hid (by rw [Nat.add_sub_cancel]; exact HSM2.out)⟩


theorem ref_One (sa : Option Addr) (sc : Nat) (ss : List SpecT) (wa : Option Addr) (wc : Nat) (ws : List Tx) (k : Nat) (W : World) (hsp : SpecsAt W sa ss) (hss : ss.length ≤ 1000000) (hw : StrsAt W wa ws) (hk : k < ws.length) (hws : ws.length ≤ 100000000000) (hy : ws[k].length ≤ 10000000000) :
    Calls Try.prog 126 #[.slice sa ss.length sc, .slice wa ws.length wc, .int .i64 k] W (GotTo W.heap.size [] (wordS ss ws[k] (ws.drop (k + 1))) W) := by
  by_cases h1 : ws[k].length < 2 ∨ ws[k].head? ≠ some 45
  · exact ref_One_op sa sc ss wa wc ws k W hw hk h1 (by omega)
  · obtain ⟨c, t, ht⟩ : ∃ c t, ws[k] = 45 :: c :: t := by
      match h : ws[k] with
      | [] => rw [h] at h1; simp at h1
      | [x] => rw [h] at h1; simp at h1
      | x :: c :: t =>
        rw [h] at h1
        simp only [List.head?_cons, ne_eq, Option.some.injEq, not_or, Decidable.not_not] at h1
        exact ⟨c, t, by rw [h1.2]⟩
    have hlen : t.length + 2 = ws[k].length := by rw [ht]; simp
    by_cases hc : c = 45
    · subst hc
      have h2 := ref_One_long sa sc ss wa wc ws k W hsp hss hw hk t ht hws (by omega)
      rw [ht, word_long]
      exact h2
    · have h2 := ref_One_short sa sc ss wa wc ws k W hsp hss hw hk c t hc ht hws (by omega)
      rw [ht, word_short c t hc]
      exact h2

theorem shortS_pos {ss : List SpecT} {c : UInt8} {w : Tx} {rest : List Tx} {is : List ItemT} {n : Nat} (h : shortS ss (c :: w) rest = some (is, n)) : 0 < is.length := by
  unfold shortS at h
  split at h
  · cases h
  · split at h
    · cases h
    · split at h
      · simp only [Option.some.injEq, Prod.mk.injEq] at h
        obtain ⟨rfl, rfl⟩ := h
        simp
      · split at h
        · cases h
        · rename_i i n1 hp
          have := (putS_some hp).1
          split at h
          · cases h
          · simp only [Option.some.injEq, Prod.mk.injEq] at h
            obtain ⟨rfl, rfl⟩ := h
            rw [List.length_append]; omega
theorem wordS_pos {ss : List SpecT} {w : Tx} {rest : List Tx} {is : List ItemT} {n : Nat} (h : wordS ss w rest = some (is, n)) : 0 < is.length := by
  unfold wordS at h
  split at h
  · rw [(longS_some h).1]; omega
  · split at h
    · rename_i h2
      match w, h, h2 with
      | [], _, h2 => simp at h2
      | [x], _, h2 => simp at h2
      | x :: c :: t, h, _ => exact shortS_pos h
    · simp only [Option.some.injEq, Prod.mk.injEq] at h
      obtain ⟨rfl, rfl⟩ := h
      simp

section
variable {ops : Array Oper}
/-- append(out, got...): items that are newer than the row. -/
theorem wpList_put_items {W0 W : World} {rest : List Oper} {o : Oper} {a : Act} {Q : Exit → Act → World → Prop} (hg : o.guard = none) (s x : Operand)
    (ho : o.op = .call { callee := .builtin .append, args := #[s, x], argTypes := #[101, 101] }) (base : Nat) (v : Value) (items : List ItemT) (hs : a.eval s = v)
    (H0 : RowI W0 base v items) (hbl : Below W0.heap.size W0 W) (hbase : base ≤ W0.heap.size) (A : Option Addr) (n c : Nat) (hx : a.eval x = .slice A n c) (is : List ItemT) (hn : is.length = n)
    (HG : RowI W W0.heap.size (.slice A n c) is) (hpos : 0 < n) (hl : (items.length + n) * 40 ≤ 140737488355328)
    (h : ∀ v1 w1, RowI w1 base v1 (items ++ is) → Below base W w1 → W.grownBy w1 v.ownBlock → wpList Try.prog ops Q rest (a.put o.dst v1) w1) : wpList Try.prog ops Q (o :: rest) a W := by
  refine wpList_plain hg fun K hK => ?_
  obtain ⟨raws, h1, h2, h4⟩ := H0
  obtain ⟨rawg, g1, g2, g4⟩ := HG
  obtain ⟨i0, hi, hzz⟩ := Option.map_eq_some_iff.1 info105
  simp only [Prod.mk.injEq] at hzz
  obtain ⟨hz0, hz1, hz2⟩ := hzz
  have hown := own_below h2 hbl
  have hm1 : items.length + n ≤ maxLen := by simp only [maxLen]; omega
  obtain ⟨G, rfl⟩ : ∃ G, A = some ⟨G, 0, none⟩ := by
    rcases g2.2 with ⟨e, h0⟩ | ⟨G, cap, cur, e, _⟩
    · simp only [Value.slice.injEq] at e; omega
    · simp only [Value.slice.injEq] at e; exact ⟨G, e.1⟩
  refine wp_append_lies W s x 101 ho base 105 i0 _ 2 40 Try.underlying101 hi hz0 hz1 hz2 rfl (by decide) v items.length _ hs hown ⟨G, 0, none⟩ n c (rawg.flatMap rawC) hx (by rw [rawC_len, ← hn, ← g1, List.length_map])
    (g2.cells (g := G) rfl) (fun u hu => ?_) hpos hm1 hl (Nat.le_trans hbase hbl.size) _ rfl ?_
  · obtain ⟨y, _, hy⟩ := List.mem_flatMap.1 hu
    simp only [rawC, List.mem_cons, List.not_mem_nil, or_false] at hy
    rcases hy with rfl | rfl <;> rfl
  intro g cap w1 o1 gr e1 l1
  have hrow : (Value.slice (some ⟨g, 0, none⟩) (items.length + n) cap).ownBlock = v.ownBlock ∨ ∃ g', (Value.slice (some ⟨g, 0, none⟩) (items.length + n) cap).ownBlock = some g' ∧ W.heap.size ≤ g' := by
    rcases e1 with e1 | e1
    · exact .inl e1.symm
    · exact .inr ⟨g, rfl, by omega⟩
  refine hK _ _ (h _ w1 ⟨raws ++ rawg, by simp [h1, g1], ?_, ?_⟩ ((Below.refl base W).grown gr (Nat.le_trans hbase hbl.size) (fun k hk => (h2.lt k hk).1)) gr)
  · rw [List.length_append, List.flatMap_append, hn]
    exact o1
  · intro y hy
    rcases List.mem_append.1 hy with hy | hy
    · exact ((h4 y hy).below hbl).grown gr hrow
    · have hv : InAt W base v.ownBlock y.A y.it.vals := by
        rcases g4 y hy with h5 | ⟨b, off, k1, k2, ⟨k3, _⟩, k5⟩
        · exact .inl h5
        · exact .inr ⟨b, off, k1, k2, ⟨Nat.le_trans hbase k3, fun e => by have := (h2.lt b e.symm).2; omega⟩, k5⟩
      exact hv.grown gr hrow
end

/-- What words are, as it is handed back. -/
def ItemsTo (res : Sum (List ItemT) Nat) (W : World) (e : Ending) (W' : World) : Prop :=
  match res with
  | .inl l => (∃ v, e = .returned (.tuple #[v, .int .i64 (-1)]) ∧ RowI W' W.heap.size v l) ∧ Below W.heap.size W W'
  | .inr k => e = .returned (.tuple #[.slice none 0 0, .int .i64 k]) ∧ Below W.heap.size W W'

set_option maxRecDepth 100000 in
set_option maxHeartbeats 4000000 in
theorem ref37_Parse (sa : Option Addr) (sc : Nat) (ss : List SpecT) (wa : Option Addr) (wc : Nat) (ws : List Tx) (W : World) (hsp : SpecsAt W sa ss) (hss : ss.length ≤ 1000000) (hw : StrsAt W wa ws) (hwt : wt ws ≤ 1000000000) :
    Calls Try.prog 98 #[.slice sa ss.length sc, .slice wa ws.length wc] W (ItemsTo (parseS ss ws) W) := by
  have hlw := len_le_wt ws
  have HYL := Lib.hid (mem_wt ws)
  obtain ⟨n, hn⟩ : ∃ n, ws.length = n := ⟨_, rfl⟩
  obtain ⟨m, hm⟩ : ∃ m, ss.length = m := ⟨_, rfl⟩
  obtain ⟨r, hr⟩ : ∃ r, parseS ss ws = r := ⟨_, rfl⟩
  have HR := Lib.hid hr
  have HN := Lib.hid (And.intro hn hm)
  have HU := Lib.hid (And.intro hsp hw)
  have HWT := Lib.hid hwt
  have hnl : n ≤ 1000000000 := by omega
  rw [hn, hm, hr]
  have hk2 : (⟨#[45, 45]⟩ : ByteArray) = mk [45, 45] := rfl
  have e0 : (⟨#[]⟩ : ByteArray) = mk [] := rfl
  clear hr hn hm hsp hw hlw hwt
  go_enter Try.func98, Try.ntmps98
  simp only [hk2, e0]
  clear hk2 e0
  go_wp2_with fail
  go_loopg [6, 7] n (fun g ov kv wx => ∃ (k : Nat) (acc : List ItemT), n ≤ k + g ∧ k ≤ n ∧ kv = .int .i64 k ∧ Hid (RowI wx W.heap.size ov acc) ∧ Hid (Below W.heap.size W wx) ∧ Hid (acc.length + wt (ws.drop k) ≤ 1000000000) ∧ Hid (r = goS ss (ws.drop k).length (ws.drop k) k acc))
  case atStart => exact ⟨0, [], by omega, by omega, rfl, Lib.hid (RowI.nil _ _), Lib.hid (Below.refl _ _), Lib.hid (by simpa using HWT.out), Lib.hid (by rw [← HR.out]; rfl)⟩
  case round =>
    obtain ⟨k, acc, hk1, hk2, rfl, HRW, HBL, HIL, HG⟩ := hrel
    by_cases hkn : k < n
    · have hkw : k < ws.length := by have := HN.out; omega
      obtain ⟨b, off, rfl, l1, e1⟩ := (HU.out.2.below HBL.out).cells hkw
      have f1 := e1 k hkw
      have HDR := Lib.hid (List.drop_eq_getElem_cons hkw)
      have HX := Lib.hid (HYL.out ws[k] (List.getElem_mem hkw))
      obtain ⟨x, hx⟩ : ∃ x, ws[k] = x := ⟨_, rfl⟩
      have HONE := Lib.hid (ref_One sa sc ss (some ⟨b, off, none⟩) wc ws k wr (HU.out.1.below HBL.out) hss (HU.out.2.below HBL.out) hkw (by have := HN.out; omega) (by have := HX.out; have := HWT.out; omega))
      rw [hx] at f1 HDR HONE
      rw [HN.out.1, HN.out.2] at HONE
      have hkI : (k : Int) < (n : Int) := by omega
      have hk0 : (0 : Int) ≤ (k : Int) := by omega
      clear hx e1 l1
      cases hd : (x == [45, 45])
      · have HGW : Hid (r = match wordS ss x (ws.drop (k + 1)) with
          | none => .inr k
          | some (is, y) => goS ss ((ws.drop (k + 1)).drop y).length ((ws.drop (k + 1)).drop y) (k + 1 + y) (acc ++ is)) := Lib.hid (by rw [HG.out]; exact goS_word HDR.out hd)
        obtain ⟨q, hq⟩ : ∃ q, wordS ss x (ws.drop (k + 1)) = q := ⟨_, rfl⟩
        rw [hq] at HGW HONE
        have HQ := Lib.hid hq
        clear hq
        go_wp2_with fail
        refine HONE.out.mono ?_
        cases q with
        | none =>
          obtain rfl := HGW.out
          rintro e w5 ⟨rfl, hk5⟩
          have HB5 := Lib.hid (ext_trans HBL.out hk5)
          clear hk5
          go_wp2_with fail
          go_ret2
          exact ⟨rfl, HB5.out.alloc HB5.out.size _⟩
        | some q =>
          obtain ⟨is, y⟩ := q
          rintro e w5 ⟨⟨v, rfl, hri⟩, hb5⟩
          simp only [List.nil_append] at hri
          obtain ⟨A3, d3, rfl, _⟩ := RowI.slice hri
          have HB5 := Lib.hid hb5
          have HRI := Lib.hid hri
          have HWS := Lib.hid (And.intro (wordS_some HQ.out) (wordS_pos HQ.out))
          have hyl : y ≤ n - (k + 1) := by have := HWS.out.1.2.1; rw [List.length_drop, HN.out.1] at this; exact this
          have HLA : Hid ((acc.length + is.length) * 40 ≤ 140737488355328) := Lib.hid (by
            have h1 := HIL.out
            rw [HDR.out, wt_cons] at h1
            have h3 := HWS.out.1.1
            omega)
          obtain ⟨W6, hW6⟩ : ∃ W6, w5.alloc (.cells #[.slice A3 is.length d3, .int .i64 ((y : Int) + 1)] 134) = W6 := ⟨_, rfl⟩
          have HB6 : Hid (Below wr.heap.size wr W6 ∧ RowI W6 wr.heap.size (.slice A3 is.length d3) is) := Lib.hid (by
            rw [← hW6]
            exact ⟨hb5.alloc hb5.size _, hri.below ((Below.refl _ _).alloc (Nat.le_refl _) _)⟩)
          have hyc : ((y : Int) + 1 == 0) = false := by simp; omega
          have hky : (k : Int) + ((y : Int) + 1) ≤ 4000000000 := by omega
          have HC6 : Hid (∀ w1, W6.grownBy w1 u6.ownBlock → w1.cell? ⟨w5.heap.size, 1, none⟩ = some (.int .i64 ((y : Int) + 1))) := Lib.hid (fun w1 g => by
            have hlt : w5.heap.size < W6.heap.size := by rw [← hW6]; simp
            rw [g.cell_far ⟨w5.heap.size, 1, none⟩ hlt (fun e => by have h2 : w5.heap.size < wr.heap.size := (HRW.out.own _ e.symm).2; have := HB5.out.size; omega), ← hW6, cellA_new]
            rfl)
          have c0 : W6.cell? ⟨w5.heap.size, 0, none⟩ = some (.slice A3 is.length d3) := by rw [← hW6, cellA_new]; rfl
          have c1 : W6.cell? ⟨w5.heap.size, 1, none⟩ = some (.int .i64 ((y : Int) + 1)) := by rw [← hW6, cellA_new]; rfl
          clear hri hb5 f1 HONE
          go_wp2_with (at_builtin; refine wpList_put_items (W0 := wr) (W := W6) rfl _ _ rfl W.heap.size u6 acc rfl HRW.out HB6.out.1 HBL.out.size A3 is.length d3 rfl is rfl HB6.out.2 HWS.out.2 HLA.out ?_; intro v1 w1 r1 b1 g1; have R1 := Lib.hid r1; have B1 := Lib.hid b1; have c2 := HC6.out w1 g1; clear r1 b1 g1)
          cases gk with
          | zero => exact absurd hk1 (by omega)
          | succ g =>
            go_roundg g
            case measure => omega
            case rel =>
              refine ⟨k + (y + 1), acc ++ is, by omega, by omega, by go_num, R1, Lib.hid ((HBL.out.trans (HB6.out.1.mono HBL.out.size)).trans B1.out), Lib.hid ?_, Lib.hid ?_⟩
              · have h1 := HIL.out
                rw [HDR.out, wt_cons] at h1
                have h2 := wt_dropS (ws.drop (k + 1)) y HWS.out.1.2.1
                rw [List.drop_drop, show k + 1 + y = k + (y + 1) by omega] at h2
                have h3 := HWS.out.1.1
                rw [List.length_append]; omega
              · rw [HGW.out, List.drop_drop, show k + 1 + y = k + (y + 1) by omega]
      · have HRS : Hid (r = .inl (acc ++ (ws.drop (k + 1)).map opdT)) := Lib.hid (by rw [HG.out, HDR.out]; exact goS_dash (by rw [← hd]))
        obtain ⟨its, hits⟩ : ∃ its, acc ++ (ws.drop (k + 1)).map opdT = its := ⟨_, rfl⟩
        rw [hits] at HRS
        have HITS := Lib.hid hits
        obtain rfl := HRS.out
        have HDL : Hid ((ws.drop (k + 1)).length = n - (k + 1)) := Lib.hid (by rw [List.length_drop, HN.out.1])
        have HWD : Hid (acc.length + (ws.drop (k + 1)).length ≤ 1000000000) := Lib.hid (by have := HIL.out; rw [HDR.out, wt_cons] at this; have := len_le_wt (ws.drop (k + 1)); omega)
        obtain ⟨n2, hn2⟩ : ∃ n2, n = k + 1 + n2 := ⟨n - (k + 1), by omega⟩
        have HN2 := Lib.hid hn2
        clear hn2 hits HONE
        obtain ⟨wo, rfl⟩ : ∃ wo : World, wo = wr := ⟨_, rfl⟩
        go_wp2_with fail
        clear f1
        go_loopg [6, 8] n2 (fun g ov iv wx => ∃ (i : Nat), i + g = n2 ∧ iv = .int .i64 ((k + 1 + i : Nat) : Int) ∧ Hid (RowI wx W.heap.size ov (acc ++ ((ws.drop (k + 1)).take i).map opdT)) ∧ Hid (Below W.heap.size W wx))
        case atStart => exact ⟨0, by omega, by go_num, Lib.hid (by rw [List.take_zero, List.map_nil, List.append_nil]; exact HRW.out), HBL⟩
        case round =>
          clear HRW HBL
          obtain ⟨i, hi, rfl, HRW, HBL⟩ := hrel
          cases gk with
          | zero =>
            obtain rfl : i = n2 := by omega
            have HTK : Hid ((ws.drop (k + 1)).take i = ws.drop (k + 1)) := Lib.hid (List.take_of_length_le (by have := HDL.out; have := HN2.out; omega))
            rw [HTK.out, HITS.out] at HRW
            obtain ⟨A, cc, rfl, _⟩ := RowI.slice HRW.out
            have hend : ¬ (((k + 1 + i : Nat) : Int) < (n : Int)) := by have := HN2.out; omega
            go_wp2_with fail
            go_ret2
            exact ⟨⟨_, rfl, HRW.out⟩, HBL.out⟩
          | succ g2 =>
            have hi2 : k + 1 + i < ws.length := by have := HN.out.1; have := HN2.out; omega
            obtain ⟨b2, o2, he2, l2, e2⟩ := ((HU.out.2.below HBL.out).cells hi2)
            cases he2
            have f1 := e2 (k + 1 + i) hi2
            have hi1 : i < (ws.drop (k + 1)).length := by have := HDL.out; have := HN2.out; omega
            have HT := Lib.hid (List.take_succ_eq_append_getElem hi1)
            rw [List.getElem_drop] at HT
            obtain ⟨y, hy⟩ : ∃ y, ws[k + 1 + i] = y := ⟨_, rfl⟩
            rw [hy] at f1 HT
            obtain ⟨q, hq⟩ : ∃ q, k + 1 + i = q := ⟨_, rfl⟩
            rw [hq] at f1 ⊢
            have hlt : (q : Int) < (n : Int) := by have := HN2.out; omega
            have hlt0 : (0 : Int) ≤ (q : Int) := by omega
            have HQ := Lib.hid hq
            have hcl : Hid (((acc ++ ((ws.drop (k + 1)).take i).map opdT).length + 1) * 40 ≤ 140737488355328) := Lib.hid (by
              rw [List.length_append, List.length_map, List.length_take]; have := HWD.out; omega)
            have HAL : Hid (Below wr.heap.size wr ((wr.alloc (.cells #[.string (mk y)] 9)).alloc (.cells #[.string (mk []), .slice (some ⟨wr.heap.size, 0, none⟩) 1 1] 105)) ∧ ((wr.alloc (.cells #[.string (mk y)] 9)).alloc (.cells #[.string (mk []), .slice (some ⟨wr.heap.size, 0, none⟩) 1 1] 105)).heap[wr.heap.size + 1]? = some (.cells #[.string (mk []), .slice (some ⟨wr.heap.size, 0, none⟩) 1 1] 105)) := Lib.hid ⟨((Below.refl _ _).alloc (Nat.le_refl _) _).alloc (by simp) _, by have h := heap_alloc_new (wr.alloc (.cells #[.string (mk y)] 9)) (.cells #[.string (mk []), .slice (some ⟨wr.heap.size, 0, none⟩) 1 1] 105); rw [World.size_alloc] at h; exact h⟩
            have HIN := Lib.hid (in_two wr y (.cells #[.string (mk []), .slice (some ⟨wr.heap.size, 0, none⟩) 1 1] 105) HRW.out.own (Nat.le_refl _) HBL.out.size)
            clear e2 l2 hy hi1 hq
            go_wp2_with (at_builtin; refine wpList_put_item (W0 := wr) (W := (wr.alloc (.cells #[.string (mk y)] 9)).alloc (.cells #[.string (mk []), .slice (some ⟨wr.heap.size, 0, none⟩) 1 1] 105)) rfl _ _ rfl W.heap.size _ _ rfl HRW.out HAL.out.1 HBL.out.size hcl.out (wr.heap.size + 1) rfl (opdT y) (some ⟨wr.heap.size, 0, none⟩) 1 (0, 0) HAL.out.2 HIN.out ?_; intro v1 w5 r1 b1 g1 e1; have R1 := Lib.hid r1; have B5 := Lib.hid b1; clear r1 b1 g1 e1)
            go_roundg g2
            case measure => omega
            case rel => exact ⟨i + 1, by omega, by rw [← HQ.out]; go_num, Lib.hid (by rw [HT.out, List.map_append, ← List.append_assoc]; exact R1.out), Lib.hid ((HBL.out.trans (HAL.out.1.mono HBL.out.size)).trans B5.out)⟩
    · obtain rfl : k = n := by omega
      have HRS : Hid (r = .inl acc) := Lib.hid (by
        rw [HG.out, List.drop_of_length_le (by have := HN.out.1; omega)]; rfl)
      obtain rfl := HRS.out
      obtain ⟨A, cc, rfl, _⟩ := RowI.slice HRW.out
      go_wp2_with fail
      go_ret2
      exact ⟨⟨_, rfl, HRW.out⟩, HBL.out⟩
end Go.Proofs.Ytmjggjccmbiheaa
