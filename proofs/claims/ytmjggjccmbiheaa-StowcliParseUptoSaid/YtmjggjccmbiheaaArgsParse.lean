/- args.Parse, step by step. -/
import Derived.Test.YtmjggjccmbiheaaArgsWord
namespace Go.Proofs.Ytmjggjccmbiheaa
open Go Go.RowKit Go.Proofs Go.Sort
attribute [local go_sem] mk_list mk_size mk_data

/-- Items that can be read. -/
def ItemsAt (W : World) (A : Option Addr) (items : List ItemT) : Prop :=
  items = [] ∨ ∃ b off, A = some ⟨b, off, none⟩ ∧ b < W.heap.size ∧ ∀ (j : Nat) (h : j < items.length), W.cell? ⟨b, off + j * 2, none⟩ = some (.string (mk items[j].long)) ∧ ∃ A' c', W.cell? ⟨b, off + j * 2 + 1, none⟩ = some (.slice A' items[j].vals.length c') ∧ StrsAt W A' items[j].vals
theorem ItemsAt.below {w w' : World} {A : Option Addr} {items : List ItemT} (h : ItemsAt w A items) (hb : Below w.heap.size w w') : ItemsAt w' A items := by
  rcases h with h | ⟨b, off, e, hlt, hc⟩
  · exact .inl h
  · refine .inr ⟨b, off, e, Nat.lt_of_lt_of_le hlt hb.size, fun j hj => ?_⟩
    obtain ⟨h1, A', c', h2, h3⟩ := hc j hj
    exact ⟨(hb.cell (p := ⟨b, off + j * 2, none⟩) hlt).trans h1, A', c', (hb.cell (p := ⟨b, off + j * 2 + 1, none⟩) hlt).trans h2, h3.below hb⟩
theorem raws_at : ∀ (raws : List RawI) (j : Nat) (h : j < raws.length), (raws.flatMap rawC)[j * 2]? = some (.string (mk raws[j].it.long)) ∧ (raws.flatMap rawC)[j * 2 + 1]? = some (.slice raws[j].A raws[j].it.vals.length raws[j].c)
  | [], j, h => by simp at h
  | x :: l, 0, _ => ⟨rfl, rfl⟩
  | x :: l, j + 1, h => by
    have := raws_at l j (by simpa using h)
    rw [List.flatMap_cons]
    have e1 : (j + 1) * 2 = j * 2 + 2 := by omega
    rw [e1]
    exact this
theorem OutAt.items {W : World} {base R : Nat} {v : Value} {items : List ItemT} (h : OutAt W base R v items) : ∃ A c, v = .slice A items.length c ∧ ItemsAt W A items ∧ items.length ≤ c := by
  obtain ⟨raws, h1, h2, _, h4⟩ := h
  subst h1
  have h2' := h2
  rcases h2.2 with ⟨rfl, h0⟩ | ⟨g, cap, cur, rfl, hb, hg, hn, hm, hs, ht⟩
  · exact ⟨none, 0, by rw [h0], .inl (List.eq_nil_of_length_eq_zero h0), by omega⟩
  · refine ⟨_, cap, rfl, .inr ⟨g, 0, rfl, (Array.getElem?_eq_some_iff.1 hg).1, fun j hj => ?_⟩, hn⟩
    have hj' : j < raws.length := by simpa using hj
    obtain ⟨r1, r2⟩ := raws_at raws j hj'
    have c1 := h2'.cells (g := g) rfl _ _ r1
    have c2 := h2'.cells (g := g) rfl _ _ r2
    have had : ∀ i, (⟨g, 0, none⟩ : Addr).add i = ⟨g, 0 + i, none⟩ := fun i => by unfold Addr.add; split <;> simp_all
    rw [had] at c1 c2
    have e : (raws.map (·.it))[j] = raws[j].it := by simp
    rw [e]
    exact ⟨c1, _, _, c2, (h4 _ (List.getElem_mem hj')).strs⟩

/-- What args.Parse comes to. -/
def ParsesTo (res : Sum (List ItemT) Nat) (W : World) (e : Ending) (W' : World) : Prop :=
  match res with
  | .inl items => (∃ A c, e = .returned (.tuple #[.slice A items.length c, .int .i64 (-1), .int .i64 0]) ∧ ItemsAt W' A items ∧ items.length ≤ c) ∧ Below W.heap.size W W'
  | .inr k => e = .returned (.tuple #[.slice none 0 0, .int .i64 k, .int .i64 19]) ∧ Below W.heap.size W W'

set_option maxRecDepth 100000 in
set_option maxHeartbeats 8000000 in
theorem args_Parse (sa : Option Addr) (sc : Nat) (ss : List SpecT) (wa : Option Addr) (wc : Nat) (ws : List Tx) (W : World) (hs : SpecsAt W sa ss) (hw : StrsAt W wa ws) (hss : ss.length ≤ 1000000) (hc : ws.length ≤ wc) (hwt : wt ws ≤ 1000000000) :
    Calls Try.prog 27 #[.slice sa ss.length sc, .slice wa ws.length wc] W (ParsesTo (parseS ss ws) W) := by
  obtain ⟨r, hr⟩ : ∃ r, parseS ss ws = r := ⟨_, rfl⟩
  rw [hr]
  have HR := Lib.hid hr
  have hlw := len_le_wt ws
  obtain ⟨n, hn⟩ : ∃ n, ws.length = n := ⟨_, rfl⟩
  obtain ⟨m, hm⟩ : ∃ m, ss.length = m := ⟨_, rfl⟩
  have HN := Lib.hid (And.intro hn hm)
  have HWT := Lib.hid hwt
  have HU : Hid (Under W.heap.size sa wa W ss ws) := Lib.hid ⟨hs, hw, rfl⟩
  obtain ⟨R, hR⟩ : ∃ R, W.heap.size = R := ⟨_, rfl⟩
  obtain ⟨W1, hW1⟩ : ∃ W1, W.alloc (.cells #[.slice sa m sc, .slice wa n wc, .int .i64 0, .slice none 0 0] 87) = W1 := ⟨_, rfl⟩
  have HB1 : Hid (Below R W W1) := Lib.hid (by rw [← hW1, ← hR]; exact (Below.refl _ _).alloc (Nat.le_refl _) _)
  have HST : Hid (RSt W1 R R (.slice sa m sc) (.slice wa n wc) 0 (.slice none 0 0) []) := Lib.hid ⟨by rw [← hW1, ← hR]; exact heap_alloc_new _ _, OutAt.nil _ _ _, Nat.le_refl _⟩
  have HRR := Lib.hid hR
  have hnl : n ≤ 1000000000 := by omega
  have hnc : n ≤ wc := by omega
  have hml : m ≤ 1000000 := by omega
  rw [hn, hm]
  rw [hR] at HU
  have hk : (⟨#[45, 45]⟩ : ByteArray) = mk [45, 45] := rfl
  clear hr hn hm hs hw hlw hc hss hwt
  go_enter Try.func27, Try.ntmps27
  simp only [hk]
  go_wp2_with fail
  go_loopg [10] n (fun g u wx => ∃ (k : Nat) (items : List ItemT) (v : Value), n ≤ k + g ∧ k ≤ n ∧ Hid (RSt wx R R (.slice sa m sc) (.slice wa n wc) k v items) ∧ Hid (Below R W wx) ∧ Hid (items.length + wt (ws.drop k) ≤ 1000000000) ∧ Hid (r = goS ss (ws.drop k).length (ws.drop k) k items))
  case atStart => exact ⟨0, [], _, by omega, by omega, HST, HB1, Lib.hid (by simpa using HWT.out), Lib.hid (by rw [← HR.out]; rfl)⟩
  case round =>
    obtain ⟨k, items, v, hk1, hk2, HST2, HBL, HIL, HG⟩ := hrel
    by_cases hkn : k < n
    · have hkw : k < ws.length := by have := HN.out; omega
      obtain ⟨b, off, rfl, l1, e1⟩ := (HU.out.words.below (by rw [HU.out.size]; exact HBL.out)).cells hkw
      have f1 := e1 k hkw
      have HDR := Lib.hid (List.drop_eq_getElem_cons hkw)
      obtain ⟨x, hx⟩ : ∃ x, ws[k] = x := ⟨_, rfl⟩
      rw [hx] at f1 HDR
      obtain ⟨c0, c1, c2, c3, f2, f3⟩ := HST2.out.cells
      have hkI : (k : Int) < (n : Int) := by omega
      have hk0 : (0 : Int) ≤ (k : Int) := by omega
      clear hx e1 l1
      cases hd : (x == [45, 45])
      · have HWD := Lib.hid (args_word x W wr R R sa sc ss (some ⟨b, off, none⟩) wc ws k v items ⟨by rw [HN.out.1, HN.out.2]; exact HST2.out, HU.out.specs.below (by rw [HU.out.size]; exact HBL.out), HU.out.words.below (by rw [HU.out.size]; exact HBL.out), hkw, by rw [HN.out.1]; exact hnc, by rw [HN.out.1]; omega, by rw [HN.out.2]; omega⟩ HU.out HBL.out (by have := HIL.out; rw [HDR.out, wt_cons] at this; omega) (by have := HIL.out; omega))
        rw [HN.out.1, HN.out.2] at HWD
        have HGW : Hid (r = match wordS ss x (ws.drop (k + 1)) with
          | none => .inr k
          | some (is, y) => goS ss ((ws.drop (k + 1)).drop y).length ((ws.drop (k + 1)).drop y) (k + 1 + y) (items ++ is)) := Lib.hid (by rw [HG.out]; exact goS_word HDR.out hd)
        obtain ⟨q, hq⟩ : ∃ q, wordS ss x (ws.drop (k + 1)) = q := ⟨_, rfl⟩
        rw [hq] at HGW HWD
        have HQ := Lib.hid hq
        clear hq
        go_wp2_with fail
        cases q with
        | none =>
          obtain rfl := HGW.out
          refine HWD.out.mono ?_
          rintro e w5 ⟨rfl, hk5⟩
          have HK := Lib.hid hk5
          clear hk5
          go_wp2_with fail
          go_ret3
          exact ⟨rfl, by rw [HRR.out]; exact HK.out.under HBL.out (Nat.le_refl _) (fun g e => (HST2.out.out.own g e).1) (by have := HST2.out.lt; omega)⟩
        | some q =>
          obtain ⟨is, y⟩ := q
          refine HWD.out.mono ?_
          rintro e w5 ⟨rfl, v5, q1, q2⟩
          have Q1 := Lib.hid q1
          have Q2 := Lib.hid (q2.1.under HBL.out (Nat.le_refl _) (fun g e => (HST2.out.out.own g e).1) (by have := HST2.out.lt; omega))
          obtain ⟨_, _, p2, _, p3, _⟩ := q1.cells
          have HWS := Lib.hid (wordS_some HQ.out)
          have hyl : y ≤ n - (k + 1) := by have := HWS.out.2.1; rw [List.length_drop, HN.out.1] at this; exact this
          have hbk : (((k + y : Nat) : Int)) + 1 ≤ 9223372036854775807 := by omega
          clear q1 q2 c0 c1 c2 c3 f2 f3 f1
          go_wp2_with fail
          cases gk with
          | zero => exact absurd hk1 (by omega)
          | succ g =>
            go_roundg g
            case measure => omega
            case rel =>
              refine ⟨k + y + 1, items ++ is, v5, by omega, by omega, Lib.hid (by have := Q1.out.setAt (k + y + 1); simpa using this), Lib.hid (Q2.out.setCell (p := ⟨R, 2, none⟩) (Nat.le_refl _) _), Lib.hid ?_, Lib.hid ?_⟩
              · have h1 := HIL.out
                rw [HDR.out, wt_cons] at h1
                have h2 := wt_dropS (ws.drop (k + 1)) y HWS.out.2.1
                rw [List.drop_drop, show k + 1 + y = k + y + 1 by omega] at h2
                have h3 := HWS.out.1
                rw [List.length_append]; omega
              · rw [HGW.out, List.drop_drop, show k + 1 + y = k + y + 1 by omega]
      · have hcw : (k : Int) + 1 ≤ (n : Int) := by omega
        have HRS : Hid (r = .inl (items ++ (ws.drop (k + 1)).map opdT)) := Lib.hid (by rw [HG.out, HDR.out]; exact goS_dash (by rw [← hd]))
        obtain ⟨its, hits⟩ : ∃ its, items ++ (ws.drop (k + 1)).map opdT = its := ⟨_, rfl⟩
        rw [hits] at HRS
        have HITS := Lib.hid hits
        clear hits
        obtain rfl := HRS.out
        have HDL : Hid ((ws.drop (k + 1)).length = n - (k + 1)) := Lib.hid (by rw [List.length_drop, HN.out.1])
        have HWD : Hid ((ws.drop (k + 1)).length ≤ wt (ws.drop k)) := Lib.hid (by rw [HDR.out, wt_cons]; have := len_le_wt (ws.drop (k + 1)); omega)
        obtain ⟨n2, hn2⟩ : ∃ n2, n = k + 1 + n2 := ⟨n - (k + 1), by omega⟩
        have HN2 := Lib.hid hn2
        have hsub : n - (k + 1) = n2 := by omega
        clear hn2
        by_cases hwc : wc = k + 1
        · obtain rfl : n2 = 0 := by have := HN2.out; omega
          go_wp2_with fail
          go_loopg [45] 0 (fun g iv wx => ∃ (i : Nat) (v' : Value), i + g = 0 ∧ iv = .int .i64 i ∧ Hid (RSt wx R R (.slice sa m sc) (.slice (some ⟨b, off, none⟩) n wc) k v' (items ++ ((ws.drop (k + 1)).take i).map opdT)) ∧ Hid (Below R W wx))
          case atStart => exact ⟨0, _, by omega, rfl, Lib.hid (by rw [List.take_zero, List.map_nil, List.append_nil]; exact HST2.out), HBL⟩
          case round =>
            clear c0 c1 c2 c3 f2 f3 f1 HST2 HBL
            obtain ⟨i, v', hi, rfl, HST2, HBL⟩ := hrel
            cases gk with
            | zero =>
              obtain rfl : i = 0 := by omega
              have HTK : Hid ((ws.drop (k + 1)).take 0 = ws.drop (k + 1)) := Lib.hid (List.take_of_length_le (by have := HDL.out; have := HN2.out; omega))
              rw [HTK.out, HITS.out] at HST2
              obtain ⟨A, cc, rfl, hit, hle⟩ := HST2.out.out.items
              obtain ⟨c0, c1, c2, c3, f2, f3⟩ := HST2.out.cells
              have HIT := Lib.hid (And.intro hit hle)
              clear hit hle
              go_wp2_with fail
              go_ret3
              exact ⟨⟨A, cc, rfl, HIT.out.1, HIT.out.2⟩, by rw [HRR.out]; exact HBL.out⟩
            | succ g2 => exact absurd hi (by omega)
        · have hwc2 : ¬ (wc - (k + 1) = 0) := by omega
          go_wp2_with fail
          go_loopg [45] n2 (fun g iv wx => ∃ (i : Nat) (v' : Value), i + g = n2 ∧ iv = .int .i64 i ∧ Hid (RSt wx R R (.slice sa m sc) (.slice (some ⟨b, off, none⟩) n wc) k v' (items ++ ((ws.drop (k + 1)).take i).map opdT)) ∧ Hid (Below R W wx))
          case atStart => exact ⟨0, _, by omega, rfl, Lib.hid (by rw [List.take_zero, List.map_nil, List.append_nil]; exact HST2.out), HBL⟩
          case round =>
            clear c0 c1 c2 c3 f2 f3 f1 HST2 HBL
            obtain ⟨i, v', hi, rfl, HST2, HBL⟩ := hrel
            cases gk with
            | zero =>
              obtain rfl : i = n2 := by omega
              have HTK : Hid ((ws.drop (k + 1)).take i = ws.drop (k + 1)) := Lib.hid (List.take_of_length_le (by have := HDL.out; have := HN2.out; omega))
              rw [HTK.out, HITS.out] at HST2
              obtain ⟨A, cc, rfl, hit, hle⟩ := HST2.out.out.items
              obtain ⟨c0, c1, c2, c3, f2, f3⟩ := HST2.out.cells
              have HIT := Lib.hid (And.intro hit hle)
              clear hit hle
              go_wp2_with fail
              go_ret3
              exact ⟨⟨A, cc, rfl, HIT.out.1, HIT.out.2⟩, by rw [HRR.out]; exact HBL.out⟩
            | succ g2 =>
              have hi2 : k + 1 + i < ws.length := by have := HN.out.1; have := HN2.out; omega
              obtain ⟨b2, o2, he2, l2, e2⟩ := ((HU.out.words.below (by rw [HU.out.size]; exact HBL.out)).cells hi2)
              cases he2
              have f1 := e2 (k + 1 + i) hi2
              have hi1 : i < (ws.drop (k + 1)).length := by have := HDL.out; have := HN2.out; omega
              have HT := Lib.hid (List.take_succ_eq_append_getElem hi1)
              rw [List.getElem_drop] at HT
              obtain ⟨y, hy⟩ : ∃ y, ws[k + 1 + i] = y := ⟨_, rfl⟩
              rw [hy] at f1 HT
              rw [← Nat.add_assoc] at f1
              have hlt : (i : Int) < (n2 : Int) := by omega
              have hlt0 : (0 : Int) ≤ (i : Int) := by omega
              have HOP := Lib.hid (args_operand y wr R R (.slice sa m sc) (.slice (some ⟨b, off, none⟩) n wc) k v' (items ++ ((ws.drop (k + 1)).take i).map opdT) HST2.out (by rw [List.length_append, List.length_map, List.length_take]; have := HIL.out; have := HWD.out; omega))
              clear e2 l2 hy hi1
              go_wp2_with fail
              refine HOP.out.mono ?_
              rintro e w5 ⟨rfl, v5, q1, q2⟩
              have Q1 := Lib.hid q1
              have Q2 := Lib.hid (q2.1.under HBL.out (Nat.le_refl _) (fun g e => (HST2.out.out.own g e).1) (by have := HST2.out.lt; omega))
              clear q1 q2 f1
              go_wp2_with fail
              go_roundg g2
              case measure => omega
              case rel => exact ⟨i + 1, v5, by omega, by go_num, Lib.hid (by rw [HT.out, List.map_append, ← List.append_assoc]; exact Q1.out), Q2⟩
    · obtain rfl : k = n := by omega
      have HRS : Hid (r = .inl items) := Lib.hid (by
        rw [HG.out, List.drop_of_length_le (by have := HN.out.1; omega)]; rfl)
      obtain rfl := HRS.out
      obtain ⟨A, cc, rfl, hit, hle⟩ := HST2.out.out.items
      obtain ⟨c0, c1, c2, c3, f2, f3⟩ := HST2.out.cells
      have HIT := Lib.hid (And.intro hit hle)
      clear hit hle
      go_wp2_with fail
      go_ret3
      exact ⟨⟨A, cc, rfl, HIT.out.1, HIT.out.2⟩, by rw [HRR.out]; exact HBL.out⟩
end Go.Proofs.Ytmjggjccmbiheaa
