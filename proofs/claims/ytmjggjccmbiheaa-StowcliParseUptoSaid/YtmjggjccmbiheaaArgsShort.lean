/- args.reader.short, step by step. -/
import Derived.Test.YtmjggjccmbiheaaArgsLong
import Derived.WalkMore
namespace Go.Proofs.Ytmjggjccmbiheaa
open Go Go.RowKit Go.Proofs Go.Sort
attribute [local go_sem] mk_list mk_size mk_data

/-- What is told of the letters that are left. -/
def joinR (acc : List ItemT) (c : Nat) (x : Option (List ItemT × Nat)) : Option (List ItemT × Nat) := x.map fun p => (acc ++ p.1, c + p.2)
/-- The box of the letters, apart from what is written. -/
def BoxT (W : World) (R : Nat) (row : Option Nat) (B : Nat) (t : Tx) : Prop := W.cell? ⟨B, 0, none⟩ = some (.string (mk t)) ∧ B ≠ R ∧ some B ≠ row
theorem BoxT.lt {W : World} {R B : Nat} {row : Option Nat} {t : Tx} (h : BoxT W R row B t) : B < W.heap.size := World.block_lt_of_cell? _ _ h.1
theorem BoxT.grows {W W' : World} {R B : Nat} {row row' : Option Nat} {t : Tx} (h : BoxT W R row B t) (g : Grows R row W W' row') : BoxT W' R row' B t := by
  have hlt := h.lt
  refine ⟨(g.1.cell (o := 0) hlt h.2.1 h.2.2).trans h.1, h.2.1, ?_⟩
  rcases g.2 with rfl | ⟨k, rfl, hk⟩
  · exact h.2.2
  · intro e; cases e; omega
theorem Ready.grows {W W' : World} {base R : Nat} {sa : Option Addr} {sc : Nat} {ss : List SpecT} {wa : Option Addr} {wc : Nat} {ws : List Tx} {k k' : Nat} {v v' : Value} {items items' : List ItemT} (h : Ready W base R sa sc ss wa wc ws k v items)
    (hst : RSt W' base R (.slice sa ss.length sc) (.slice wa ws.length wc) k' v' items') (hk : k' < ws.length) (hsp : SpecsAt W' sa ss) (hw : StrsAt W' wa ws) : Ready W' base R sa sc ss wa wc ws k' v' items' :=
  ⟨hst, hsp, hw, hk, h.hc, h.hws, h.hss⟩
/-- What came in lies below the base. -/
structure Under (base : Nat) (sa wa : Option Addr) (w0 : World) (ss : List SpecT) (ws : List Tx) : Prop where
  specs : SpecsAt w0 sa ss
  words : StrsAt w0 wa ws
  size : w0.heap.size = base

set_option maxRecDepth 100000 in
set_option maxHeartbeats 8000000 in
theorem args_short (t : Tx) (w0 W : World) (base R : Nat) (sa : Option Addr) (sc : Nat) (ss : List SpecT) (wa : Option Addr) (wc : Nat) (ws : List Tx) (k : Nat) (v : Value) (items : List ItemT) (H : Ready W base R sa sc ss wa wc ws k v items) (HU : Under base sa wa w0 ss ws) (HW : Below base w0 W) (ht : t.length ≤ 1000000000) (hl : items.length ≤ 1000000000) :
    Calls Try.prog 106 #[.pointer (some ⟨R, 0, none⟩), .string (mk t)] W (Does base R (.slice sa ss.length sc) (.slice wa ws.length wc) k v items (shortS ss t (ws.drop (k + 1))) W) := by
  obtain ⟨r, hr⟩ : ∃ r, shortS ss t (ws.drop (k + 1)) = r := ⟨_, rfl⟩
  rw [hr]
  have HR := Lib.hid hr
  obtain ⟨n, hn⟩ : ∃ n, t.length = n := ⟨_, rfl⟩
  have HN := Lib.hid hn
  rw [hn] at ht
  have HH := Lib.hid H
  have HUU := Lib.hid HU
  have HWW := Lib.hid HW
  have hbW : base ≤ W.heap.size := by have := H.st.hb; have := H.st.lt; omega
  have HBW := Lib.hid hbW
  obtain ⟨B, hB⟩ : ∃ B, W.heap.size = B := ⟨_, rfl⟩
  obtain ⟨W1, hW1⟩ : ∃ W1, W.alloc (.cells #[.string (mk t)] 9) = W1 := ⟨_, rfl⟩
  have HB1 : Hid (Below W.heap.size W W1 ∧ BoxT W1 R v.ownBlock B t ∧ Grows R v.ownBlock W W1 v.ownBlock) := Lib.hid (by
    have hb : Below W.heap.size W W1 := by rw [← hW1]; exact (Below.refl _ _).alloc (Nat.le_refl _) _
    refine ⟨hb, ⟨by rw [← hW1, ← hB]; exact cellA_new _ _ _ 0, by have := H.st.lt; omega, fun e => ?_⟩, Grows.below hb⟩
    have := (H.st.out.own _ e.symm).2; omega)
  have hc1 := HB1.out.2.1.1
  clear hr H HU HW hbW
  go_enter Try.func106, Try.ntmps106
  go_wp2_with fail
  clear hW1 hB
  go_step3
  go_wp2_with fail
  go_step3
  go_wp2_with fail
  clear hc1
  go_loopg [11] n (fun g iv wx => ∃ (i c : Nat) (acc : List ItemT) (v' : Value), i + g = n ∧ iv = .int .i64 i ∧ Hid (Ready wx base R sa sc ss wa wc ws (k + c) v' (items ++ acc)) ∧ Hid (acc.length ≤ i) ∧ Hid (Grows R v.ownBlock W wx v'.ownBlock) ∧ Hid (BoxT wx R v'.ownBlock B t) ∧ Hid (Below base w0 wx) ∧ Hid (r = joinR acc c (shortS ss (t.drop i) (ws.drop (k + c + 1)))))
  case atStart => exact ⟨0, 0, [], v, by omega, rfl, Lib.hid (by rw [List.append_nil]; exact HH.out.kept HB1.out.1), Lib.hid (by simp), Lib.hid HB1.out.2.2, Lib.hid HB1.out.2.1, Lib.hid (below_then HWW.out HBW.out (HB1.out.1)), Lib.hid (by rw [← HR.out]; unfold joinR; simp)⟩
  case round =>
    obtain ⟨i, c, acc, v', hi, rfl, HRD, HAC, HGR, HBX, HBL, HRR⟩ := hrel
    cases gk with
    | zero =>
      obtain rfl : i = n := by omega
      have HE : Hid (r = some (acc, c)) := Lib.hid (by rw [HRR.out, List.drop_of_length_le (by have := HN.out; omega)]; unfold joinR shortS; simp)
      go_wp2_with fail
      try rw [Exit.noGoto_ret]
      go_ret
      obtain rfl := HE.out
      exact ⟨rfl, v', HRD.out.st, HGR.out⟩
    | succ gg =>
      have hin : i < t.length := by have := HN.out; omega
      have HDR : Hid (t.drop i = t[i] :: t.drop (i + 1)) := Lib.hid (List.drop_eq_getElem_cons hin)
      have hiI : (i : Int) < (n : Int) := by omega
      have hbx := HBX.out.1
      go_wp2_with fail
      obtain ⟨w2, hw2⟩ : ∃ w2, wr.alloc (.cells #[.int .i64 i] 3) = w2 := ⟨_, rfl⟩
      have HB2 : Hid (Below wr.heap.size wr w2 ∧ w2.cell? ⟨wr.heap.size, 0, none⟩ = some (.int .i64 i) ∧ wr.heap.size < w2.heap.size) := Lib.hid (by
        rw [← hw2]
        exact ⟨(Below.refl _ _).alloc (Nat.le_refl _) _, cellA_new _ _ _ 0, by simp⟩)
      rw [hw2]
      clear hw2
      obtain ⟨C, hC⟩ : ∃ C, wr.heap.size = C := ⟨_, rfl⟩
      have HCS := Lib.hid hC
      rw [hC] at HB2 ⊢
      clear hC
      have HBX2 : Hid (BoxT w2 R v'.ownBlock B t) := Lib.hid (HBX.out.grows (Grows.below (by rw [HCS.out]; exact HB2.out.1)))
      have HRD2 : Hid (Ready w2 base R sa sc ss wa wc ws (k + c) v' (items ++ acc)) := Lib.hid (HRD.out.kept (by rw [HCS.out]; exact HB2.out.1))
      obtain ⟨ch, hch⟩ : ∃ ch, t[i] = ch := ⟨_, rfl⟩
      have HF := Lib.hid (args_find ss R sa sc 136 #[.pointer (some ⟨B, 0, none⟩), .pointer (some ⟨C, 0, none⟩)] (fun s => !(s.short == 0) && s.short == t[i]) (enters_of Try.func136 (by kernel_rfl) rfl) w2 HRD2.out.st.cells.1 HRD2.out.specs HH.out.hss
        (fun s W' hb => args_short1 s B C t i hin W' (by rw [hb.cell (p := ⟨B, 0, none⟩) HBX2.out.lt]; exact HBX2.out.1) (by rw [hb.cell (p := ⟨C, 0, none⟩) HB2.out.2.2]; exact HB2.out.2.1)))
      rw [hch] at HF HDR
      have HCH := Lib.hid hch
      clear hch
      have HLS : Hid (r = joinR acc c (match findS ss fun s => !(s.short == 0) && s.short == ch with
        | none => none
        | some s => if decide (1 < s.needs) && !(t.drop (i + 1)).isEmpty then none
          else if s.needs == 1 && !(t.drop (i + 1)).isEmpty then some ([⟨s.long, [t.drop (i + 1)]⟩], 0)
          else match putS s (ws.drop (k + c + 1)) with
            | none => none
            | some (x, y) => match shortS ss (t.drop (i + 1)) ((ws.drop (k + c + 1)).drop y) with
              | none => none
              | some (is, m) => some (x ++ is, y + m))) := Lib.hid (by rw [HRR.out, HDR.out]; rfl)
      obtain ⟨o, ho⟩ : ∃ o, (findS ss fun s => !(s.short == 0) && s.short == ch) = o := ⟨_, rfl⟩
      rw [ho] at HF HLS
      clear ho hbx
      refine HF.out.mono ?_
      rintro e w3 ⟨rfl, hb3⟩
      have HB3 := Lib.hid (And.intro hb3 (below_then HB2.out.1 (Nat.le_of_lt HB2.out.2.2) hb3))
      clear hb3 HF
      unfold specV specC
      have hbx3 : w3.cell? ⟨B, 0, none⟩ = some (.string (mk t)) := by rw [HB3.out.1.cell (p := ⟨B, 0, none⟩) HBX2.out.lt]; exact HBX2.out.1
      have hbc3 : w3.cell? ⟨C, 0, none⟩ = some (.int .i64 i) := by rw [HB3.out.1.cell (p := ⟨C, 0, none⟩) HB2.out.2.2]; exact HB2.out.2.1
      have hltB : B < w3.heap.size := Nat.lt_of_lt_of_le HBX2.out.lt HB3.out.1.size
      have hltC : C < w3.heap.size := Nat.lt_of_lt_of_le HB2.out.2.2 HB3.out.1.size
      have HGR3 : Hid (Grows R v.ownBlock W w3 v'.ownBlock) := Lib.hid (HGR.out.trans (Grows.below (by rw [HCS.out]; exact HB3.out.2)))
      have HBL3 : Hid (Below base w0 w3) := Lib.hid (below_then HBL.out (by have := HRD.out.st.hb; have := HRD.out.st.lt; omega) (by rw [HCS.out]; exact HB3.out.2))
      have HRD3 : Hid (Ready w3 base R sa sc ss wa wc ws (k + c) v' (items ++ acc)) := Lib.hid (HRD.out.kept (by rw [HCS.out]; exact HB3.out.2))
      have HBX3 : Hid (BoxT w3 R v'.ownBlock B t) := Lib.hid (HBX2.out.grows (Grows.below HB3.out.1))
      cases o with
      | none =>
        have hr : Hid (r = none) := Lib.hid HLS.out
        obtain rfl := hr.out
        go_wp2_with fail
        try rw [Exit.noGoto_ret]
        go_ret
        exact ⟨rfl, HGR3.out.1.trans (Keep.below ((Below.refl _ _).alloc (Nat.le_refl _) _)) HGR3.out.2⟩
      | some s =>
        obtain ⟨l, sh, nd⟩ := s
        simp only [Option.getD_some, Option.isSome_some] at HLS ⊢
        have HDL : Hid ((t.drop (i + 1)).length = n - (i + 1)) := Lib.hid (by rw [List.length_drop, HN.out])
        by_cases hlast : i + 1 = n
        · have hlI : ((i : Int) == (n : Int) - 1) = true := by rw [beq_iff_eq]; omega
          have hemp : (t.drop (i + 1)).isEmpty = true := by rw [List.isEmpty_iff]; exact List.eq_nil_of_length_eq_zero (by have := HDL.out; omega)
          rw [hemp] at HLS
          simp only [Bool.not_true, Bool.and_false, Bool.false_eq_true, if_false] at HLS
          clear hemp
          cases hgt : decide (1 < nd)
          · cases hnd : (nd == 1)
            · go_wp2_with fail
              obtain ⟨w4, hw4⟩ : ∃ w4, w3.alloc (.cells #[.string (mk l), .int .u8 sh.toNat, .int .i64 nd] 68) = w4 := ⟨_, rfl⟩
              have HB4 : Hid (Below w3.heap.size w3 w4) := Lib.hid (by rw [← hw4]; exact (Below.refl _ _).alloc (Nat.le_refl _) _)
              rw [hw4]
              clear hw4 hbx3 hbc3 hltB hltC
              have H4 := Lib.hid (HRD3.out.kept HB4.out)
              have HP := Lib.hid (args_put ⟨l, sh, nd⟩ w4 base R (.slice sa ss.length sc) wa wc ws (k + c) v' (items ++ acc) H4.out.st H4.out.words H4.out.hk H4.out.hc H4.out.hws (by rw [List.length_append]; have := HAC.out; omega))
              obtain ⟨pr, hpr⟩ : ∃ pr, putS ⟨l, sh, nd⟩ (ws.drop (k + c + 1)) = pr := ⟨_, rfl⟩
              rw [hpr] at HP HLS
              have HPR := Lib.hid hpr
              clear hpr
              unfold specV specC at HP
              cases pr with
              | none =>
                refine HP.out.mono ?_
                rintro e w5 ⟨rfl, hk5⟩
                have HK := Lib.hid hk5
                clear hk5
                have hr : Hid (r = none) := Lib.hid HLS.out
                obtain rfl := hr.out
                go_wp2_with fail
                try rw [Exit.noGoto_ret]
                go_ret
                exact ⟨rfl, (HGR3.out.trans (Grows.below HB4.out)).1.trans HK.out HGR3.out.2⟩
              | some pr =>
                obtain ⟨x, y⟩ := pr
                refine HP.out.mono ?_
                rintro e w5 ⟨rfl, hk5⟩
                have HK := Lib.hid hk5
                clear hk5
                have HPS := Lib.hid (putS_some HPR.out)
                obtain ⟨v5, q1, q2⟩ := HK.out
                have Q1 := Lib.hid q1
                have Q2 := Lib.hid q2
                clear q1 q2
                have hwrap : (i : Int) + 1 ≤ 9223372036854775807 := by omega
                go_wp2_with fail
                go_roundg gg
                case measure => omega
                case rel =>
                  have hg5 := (HGR3.out.trans (Grows.below HB4.out)).trans Q2.out
                  have hb5 : Below base w0 w5 := Q2.out.1.under (below_then HBL3.out (by have := HRD3.out.st.hb; have := HRD3.out.st.lt; omega) HB4.out) HH.out.st.hb (fun g e => (H4.out.st.out.own g e).1) (by have := H4.out.st.hb; have := H4.out.st.lt; omega)
                  have hy := HPS.out.2.1
                  rw [List.length_drop] at hy
                  refine ⟨i + 1, c + y, acc ++ x, v5, by omega, by go_num, Lib.hid ?_, Lib.hid ?_, Lib.hid hg5, Lib.hid ?_, Lib.hid hb5, Lib.hid ?_⟩
                  · refine H4.out.grows ?_ (by have := H4.out.hk; omega) (HUU.out.specs.below (by rw [HUU.out.size]; exact hb5)) (HUU.out.words.below (by rw [HUU.out.size]; exact hb5))
                    have := Q1.out
                    rwa [List.append_assoc, Nat.add_assoc] at this
                  · rw [List.length_append, HPS.out.1]; have := HAC.out; omega
                  · exact (HBX3.out.grows (Grows.below HB4.out)).grows Q2.out
                  · rw [HLS.out]
                    rw [List.drop_drop, show k + c + 1 + y = k + (c + y) + 1 by omega]
                    unfold joinR
                    cases shortS ss (t.drop (i + 1)) (ws.drop (k + (c + y) + 1)) with
                    | none => rfl
                    | some z => simp [List.append_assoc, Nat.add_assoc]
            · go_wp2_with fail
              obtain ⟨w4, hw4⟩ : ∃ w4, w3.alloc (.cells #[.string (mk l), .int .u8 sh.toNat, .int .i64 nd] 68) = w4 := ⟨_, rfl⟩
              have HB4 : Hid (Below w3.heap.size w3 w4) := Lib.hid (by rw [← hw4]; exact (Below.refl _ _).alloc (Nat.le_refl _) _)
              rw [hw4]
              clear hw4 hbx3 hbc3 hltB hltC
              have H4 := Lib.hid (HRD3.out.kept HB4.out)
              have HP := Lib.hid (args_put ⟨l, sh, nd⟩ w4 base R (.slice sa ss.length sc) wa wc ws (k + c) v' (items ++ acc) H4.out.st H4.out.words H4.out.hk H4.out.hc H4.out.hws (by rw [List.length_append]; have := HAC.out; omega))
              obtain ⟨pr, hpr⟩ : ∃ pr, putS ⟨l, sh, nd⟩ (ws.drop (k + c + 1)) = pr := ⟨_, rfl⟩
              rw [hpr] at HP HLS
              have HPR := Lib.hid hpr
              clear hpr
              unfold specV specC at HP
              cases pr with
              | none =>
                refine HP.out.mono ?_
                rintro e w5 ⟨rfl, hk5⟩
                have HK := Lib.hid hk5
                clear hk5
                have hr : Hid (r = none) := Lib.hid HLS.out
                obtain rfl := hr.out
                go_wp2_with fail
                try rw [Exit.noGoto_ret]
                go_ret
                exact ⟨rfl, (HGR3.out.trans (Grows.below HB4.out)).1.trans HK.out HGR3.out.2⟩
              | some pr =>
                obtain ⟨x, y⟩ := pr
                refine HP.out.mono ?_
                rintro e w5 ⟨rfl, hk5⟩
                have HK := Lib.hid hk5
                clear hk5
                have HPS := Lib.hid (putS_some HPR.out)
                obtain ⟨v5, q1, q2⟩ := HK.out
                have Q1 := Lib.hid q1
                have Q2 := Lib.hid q2
                clear q1 q2
                have hwrap : (i : Int) + 1 ≤ 9223372036854775807 := by omega
                go_wp2_with fail
                go_roundg gg
                case measure => omega
                case rel =>
                  have hg5 := (HGR3.out.trans (Grows.below HB4.out)).trans Q2.out
                  have hb5 : Below base w0 w5 := Q2.out.1.under (below_then HBL3.out (by have := HRD3.out.st.hb; have := HRD3.out.st.lt; omega) HB4.out) HH.out.st.hb (fun g e => (H4.out.st.out.own g e).1) (by have := H4.out.st.hb; have := H4.out.st.lt; omega)
                  have hy := HPS.out.2.1
                  rw [List.length_drop] at hy
                  refine ⟨i + 1, c + y, acc ++ x, v5, by omega, by go_num, Lib.hid ?_, Lib.hid ?_, Lib.hid hg5, Lib.hid ?_, Lib.hid hb5, Lib.hid ?_⟩
                  · refine H4.out.grows ?_ (by have := H4.out.hk; omega) (HUU.out.specs.below (by rw [HUU.out.size]; exact hb5)) (HUU.out.words.below (by rw [HUU.out.size]; exact hb5))
                    have := Q1.out
                    rwa [List.append_assoc, Nat.add_assoc] at this
                  · rw [List.length_append, HPS.out.1]; have := HAC.out; omega
                  · exact (HBX3.out.grows (Grows.below HB4.out)).grows Q2.out
                  · rw [HLS.out]
                    rw [List.drop_drop, show k + c + 1 + y = k + (c + y) + 1 by omega]
                    unfold joinR
                    cases shortS ss (t.drop (i + 1)) (ws.drop (k + (c + y) + 1)) with
                    | none => rfl
                    | some z => simp [List.append_assoc, Nat.add_assoc]
          · cases hnd : (nd == 1)
            · go_wp2_with fail
              obtain ⟨w4, hw4⟩ : ∃ w4, w3.alloc (.cells #[.string (mk l), .int .u8 sh.toNat, .int .i64 nd] 68) = w4 := ⟨_, rfl⟩
              have HB4 : Hid (Below w3.heap.size w3 w4) := Lib.hid (by rw [← hw4]; exact (Below.refl _ _).alloc (Nat.le_refl _) _)
              rw [hw4]
              clear hw4 hbx3 hbc3 hltB hltC
              have H4 := Lib.hid (HRD3.out.kept HB4.out)
              have HP := Lib.hid (args_put ⟨l, sh, nd⟩ w4 base R (.slice sa ss.length sc) wa wc ws (k + c) v' (items ++ acc) H4.out.st H4.out.words H4.out.hk H4.out.hc H4.out.hws (by rw [List.length_append]; have := HAC.out; omega))
              obtain ⟨pr, hpr⟩ : ∃ pr, putS ⟨l, sh, nd⟩ (ws.drop (k + c + 1)) = pr := ⟨_, rfl⟩
              rw [hpr] at HP HLS
              have HPR := Lib.hid hpr
              clear hpr
              unfold specV specC at HP
              cases pr with
              | none =>
                refine HP.out.mono ?_
                rintro e w5 ⟨rfl, hk5⟩
                have HK := Lib.hid hk5
                clear hk5
                have hr : Hid (r = none) := Lib.hid HLS.out
                obtain rfl := hr.out
                go_wp2_with fail
                try rw [Exit.noGoto_ret]
                go_ret
                exact ⟨rfl, (HGR3.out.trans (Grows.below HB4.out)).1.trans HK.out HGR3.out.2⟩
              | some pr =>
                obtain ⟨x, y⟩ := pr
                refine HP.out.mono ?_
                rintro e w5 ⟨rfl, hk5⟩
                have HK := Lib.hid hk5
                clear hk5
                have HPS := Lib.hid (putS_some HPR.out)
                obtain ⟨v5, q1, q2⟩ := HK.out
                have Q1 := Lib.hid q1
                have Q2 := Lib.hid q2
                clear q1 q2
                have hwrap : (i : Int) + 1 ≤ 9223372036854775807 := by omega
                go_wp2_with fail
                go_roundg gg
                case measure => omega
                case rel =>
                  have hg5 := (HGR3.out.trans (Grows.below HB4.out)).trans Q2.out
                  have hb5 : Below base w0 w5 := Q2.out.1.under (below_then HBL3.out (by have := HRD3.out.st.hb; have := HRD3.out.st.lt; omega) HB4.out) HH.out.st.hb (fun g e => (H4.out.st.out.own g e).1) (by have := H4.out.st.hb; have := H4.out.st.lt; omega)
                  have hy := HPS.out.2.1
                  rw [List.length_drop] at hy
                  refine ⟨i + 1, c + y, acc ++ x, v5, by omega, by go_num, Lib.hid ?_, Lib.hid ?_, Lib.hid hg5, Lib.hid ?_, Lib.hid hb5, Lib.hid ?_⟩
                  · refine H4.out.grows ?_ (by have := H4.out.hk; omega) (HUU.out.specs.below (by rw [HUU.out.size]; exact hb5)) (HUU.out.words.below (by rw [HUU.out.size]; exact hb5))
                    have := Q1.out
                    rwa [List.append_assoc, Nat.add_assoc] at this
                  · rw [List.length_append, HPS.out.1]; have := HAC.out; omega
                  · exact (HBX3.out.grows (Grows.below HB4.out)).grows Q2.out
                  · rw [HLS.out]
                    rw [List.drop_drop, show k + c + 1 + y = k + (c + y) + 1 by omega]
                    unfold joinR
                    cases shortS ss (t.drop (i + 1)) (ws.drop (k + (c + y) + 1)) with
                    | none => rfl
                    | some z => simp [List.append_assoc, Nat.add_assoc]
            · go_wp2_with fail
              obtain ⟨w4, hw4⟩ : ∃ w4, w3.alloc (.cells #[.string (mk l), .int .u8 sh.toNat, .int .i64 nd] 68) = w4 := ⟨_, rfl⟩
              have HB4 : Hid (Below w3.heap.size w3 w4) := Lib.hid (by rw [← hw4]; exact (Below.refl _ _).alloc (Nat.le_refl _) _)
              rw [hw4]
              clear hw4 hbx3 hbc3 hltB hltC
              have H4 := Lib.hid (HRD3.out.kept HB4.out)
              have HP := Lib.hid (args_put ⟨l, sh, nd⟩ w4 base R (.slice sa ss.length sc) wa wc ws (k + c) v' (items ++ acc) H4.out.st H4.out.words H4.out.hk H4.out.hc H4.out.hws (by rw [List.length_append]; have := HAC.out; omega))
              obtain ⟨pr, hpr⟩ : ∃ pr, putS ⟨l, sh, nd⟩ (ws.drop (k + c + 1)) = pr := ⟨_, rfl⟩
              rw [hpr] at HP HLS
              have HPR := Lib.hid hpr
              clear hpr
              unfold specV specC at HP
              cases pr with
              | none =>
                refine HP.out.mono ?_
                rintro e w5 ⟨rfl, hk5⟩
                have HK := Lib.hid hk5
                clear hk5
                have hr : Hid (r = none) := Lib.hid HLS.out
                obtain rfl := hr.out
                go_wp2_with fail
                try rw [Exit.noGoto_ret]
                go_ret
                exact ⟨rfl, (HGR3.out.trans (Grows.below HB4.out)).1.trans HK.out HGR3.out.2⟩
              | some pr =>
                obtain ⟨x, y⟩ := pr
                refine HP.out.mono ?_
                rintro e w5 ⟨rfl, hk5⟩
                have HK := Lib.hid hk5
                clear hk5
                have HPS := Lib.hid (putS_some HPR.out)
                obtain ⟨v5, q1, q2⟩ := HK.out
                have Q1 := Lib.hid q1
                have Q2 := Lib.hid q2
                clear q1 q2
                have hwrap : (i : Int) + 1 ≤ 9223372036854775807 := by omega
                go_wp2_with fail
                go_roundg gg
                case measure => omega
                case rel =>
                  have hg5 := (HGR3.out.trans (Grows.below HB4.out)).trans Q2.out
                  have hb5 : Below base w0 w5 := Q2.out.1.under (below_then HBL3.out (by have := HRD3.out.st.hb; have := HRD3.out.st.lt; omega) HB4.out) HH.out.st.hb (fun g e => (H4.out.st.out.own g e).1) (by have := H4.out.st.hb; have := H4.out.st.lt; omega)
                  have hy := HPS.out.2.1
                  rw [List.length_drop] at hy
                  refine ⟨i + 1, c + y, acc ++ x, v5, by omega, by go_num, Lib.hid ?_, Lib.hid ?_, Lib.hid hg5, Lib.hid ?_, Lib.hid hb5, Lib.hid ?_⟩
                  · refine H4.out.grows ?_ (by have := H4.out.hk; omega) (HUU.out.specs.below (by rw [HUU.out.size]; exact hb5)) (HUU.out.words.below (by rw [HUU.out.size]; exact hb5))
                    have := Q1.out
                    rwa [List.append_assoc, Nat.add_assoc] at this
                  · rw [List.length_append, HPS.out.1]; have := HAC.out; omega
                  · exact (HBX3.out.grows (Grows.below HB4.out)).grows Q2.out
                  · rw [HLS.out]
                    rw [List.drop_drop, show k + c + 1 + y = k + (c + y) + 1 by omega]
                    unfold joinR
                    cases shortS ss (t.drop (i + 1)) (ws.drop (k + (c + y) + 1)) with
                    | none => rfl
                    | some z => simp [List.append_assoc, Nat.add_assoc]
        · have hlI : ((i : Int) == (n : Int) - 1) = false := by rw [beq_eq_false_iff_ne]; omega
          have hemp : (t.drop (i + 1)).isEmpty = false := by
            rw [Bool.eq_false_iff]; intro h; have h2 := congrArg List.length (List.isEmpty_iff.1 h); have := HDL.out; simp only [List.length_nil] at h2; omega
          rw [hemp] at HLS
          simp only [Bool.not_false, Bool.and_true] at HLS
          clear hemp
          cases hgt : decide (1 < nd)
          · rw [hgt] at HLS
            cases hnd : (nd == 1)
            · rw [hnd] at HLS
              simp only [Bool.false_eq_true, if_false] at HLS
              go_wp2_with fail
              obtain ⟨w4, hw4⟩ : ∃ w4, w3.alloc (.cells #[.string (mk l), .int .u8 sh.toNat, .int .i64 nd] 68) = w4 := ⟨_, rfl⟩
              have HB4 : Hid (Below w3.heap.size w3 w4) := Lib.hid (by rw [← hw4]; exact (Below.refl _ _).alloc (Nat.le_refl _) _)
              rw [hw4]
              clear hw4 hbx3 hbc3 hltB hltC
              have H4 := Lib.hid (HRD3.out.kept HB4.out)
              have HP := Lib.hid (args_put ⟨l, sh, nd⟩ w4 base R (.slice sa ss.length sc) wa wc ws (k + c) v' (items ++ acc) H4.out.st H4.out.words H4.out.hk H4.out.hc H4.out.hws (by rw [List.length_append]; have := HAC.out; omega))
              obtain ⟨pr, hpr⟩ : ∃ pr, putS ⟨l, sh, nd⟩ (ws.drop (k + c + 1)) = pr := ⟨_, rfl⟩
              rw [hpr] at HP HLS
              have HPR := Lib.hid hpr
              clear hpr
              unfold specV specC at HP
              cases pr with
              | none =>
                refine HP.out.mono ?_
                rintro e w5 ⟨rfl, hk5⟩
                have HK := Lib.hid hk5
                clear hk5
                have hr : Hid (r = none) := Lib.hid HLS.out
                obtain rfl := hr.out
                go_wp2_with fail
                try rw [Exit.noGoto_ret]
                go_ret
                exact ⟨rfl, (HGR3.out.trans (Grows.below HB4.out)).1.trans HK.out HGR3.out.2⟩
              | some pr =>
                obtain ⟨x, y⟩ := pr
                refine HP.out.mono ?_
                rintro e w5 ⟨rfl, hk5⟩
                have HK := Lib.hid hk5
                clear hk5
                have HPS := Lib.hid (putS_some HPR.out)
                obtain ⟨v5, q1, q2⟩ := HK.out
                have Q1 := Lib.hid q1
                have Q2 := Lib.hid q2
                clear q1 q2
                have hwrap : (i : Int) + 1 ≤ 9223372036854775807 := by omega
                go_wp2_with fail
                go_roundg gg
                case measure => omega
                case rel =>
                  have hg5 := (HGR3.out.trans (Grows.below HB4.out)).trans Q2.out
                  have hb5 : Below base w0 w5 := Q2.out.1.under (below_then HBL3.out (by have := HRD3.out.st.hb; have := HRD3.out.st.lt; omega) HB4.out) HH.out.st.hb (fun g e => (H4.out.st.out.own g e).1) (by have := H4.out.st.hb; have := H4.out.st.lt; omega)
                  have hy := HPS.out.2.1
                  rw [List.length_drop] at hy
                  refine ⟨i + 1, c + y, acc ++ x, v5, by omega, by go_num, Lib.hid ?_, Lib.hid ?_, Lib.hid hg5, Lib.hid ?_, Lib.hid hb5, Lib.hid ?_⟩
                  · refine H4.out.grows ?_ (by have := H4.out.hk; omega) (HUU.out.specs.below (by rw [HUU.out.size]; exact hb5)) (HUU.out.words.below (by rw [HUU.out.size]; exact hb5))
                    have := Q1.out
                    rwa [List.append_assoc, Nat.add_assoc] at this
                  · rw [List.length_append, HPS.out.1]; have := HAC.out; omega
                  · exact (HBX3.out.grows (Grows.below HB4.out)).grows Q2.out
                  · rw [HLS.out]
                    rw [List.drop_drop, show k + c + 1 + y = k + (c + y) + 1 by omega]
                    unfold joinR
                    cases shortS ss (t.drop (i + 1)) (ws.drop (k + (c + y) + 1)) with
                    | none => rfl
                    | some z => simp [List.append_assoc, Nat.add_assoc]
            · rw [hnd] at HLS
              simp only [Bool.false_eq_true, if_false, if_true] at HLS
              go_wp2_with fail
              obtain ⟨w4, hw4⟩ : ∃ w4, w3.alloc (.cells #[.string (mk l), .int .u8 sh.toNat, .int .i64 nd] 68) = w4 := ⟨_, rfl⟩
              have HB4 : Hid (Below w3.heap.size w3 w4) := Lib.hid (by rw [← hw4]; exact (Below.refl _ _).alloc (Nat.le_refl _) _)
              have h8 : w4.cell? ⟨w3.heap.size, 0, none⟩ = some (.string (mk l)) := by rw [← hw4]; exact cellA_new _ _ _ 0
              rw [hw4]
              clear hw4
              have H4 := Lib.hid (HRD3.out.kept HB4.out).st
              obtain ⟨af, haf⟩ : ∃ af, t.drop (i + 1) = af := ⟨_, rfl⟩
              rw [haf] at HLS
              have hex := mk_extract t (i + 1) n
              rw [List.take_of_length_le (by rw [List.length_drop, HN.out]; omega), haf] at hex
              have hs : (mk t).size = n := by rw [mk_size]; exact HN.out
              have HI := Lib.hid (item_new H4.out l af w4.drew (below_drewN (Below.refl _ _) 1) rfl)
              have hS0 : Has [(R, 3, v'), (w3.heap.size, 0, .string (mk l)), (B, 0, .string (mk t)), (C, 0, .int .i64 i)] w4.drew := by
                intro c hc
                simp only [List.mem_cons, List.not_mem_nil, or_false] at hc
                rcases hc with rfl | rfl | rfl | rfl
                · exact H4.out.cells.2.2.2.1
                · exact h8
                · show w4.cell? ⟨B, 0, none⟩ = _
                  rw [HB4.out.cell (p := ⟨B, 0, none⟩) hltB]; exact hbx3
                · show w4.cell? ⟨C, 0, none⟩ = _
                  rw [HB4.out.cell (p := ⟨C, 0, none⟩) hltC]; exact hbc3
              have hbase : base ≤ w4.heap.size := by have := H4.out.hb; have := H4.out.lt; omega
              have hitl : ((items ++ acc).length + 1) * 40 ≤ 140737488355328 := by rw [List.length_append]; have := HAC.out; omega
              have HNE : Hid (some R ≠ v'.ownBlock ∧ some w3.heap.size ≠ v'.ownBlock ∧ some B ≠ v'.ownBlock ∧ some C ≠ v'.ownBlock) := Lib.hid ⟨by obtain ⟨_, _, _, h3, _⟩ := H4.out.out; exact fun e => h3 e.symm, fun e => by have := (HRD3.out.st.out.own _ e.symm).2; omega, HBX3.out.2.2, fun e => by have := (HRD.out.st.out.own _ e.symm).2; have := HCS.out; omega⟩
              have w1 : IntKind.i64.wrap ((i : Int) + 1) = (i : Int) + 1 := IntWalk.i64_in _ (by omega)
              have b1 : (0 : Int) ≤ (i : Int) + 1 := by omega
              have b2 : (i : Int) + 1 ≤ (n : Int) := by omega
              clear h8 hbx3 hbc3 haf hltB hltC
              refine wp_region_sink (S := Has [(R, 3, v'), (w3.heap.size, 0, .string (mk l)), (B, 0, .string (mk t)), (C, 0, .int .i64 i)]) 17 (by kernel_rfl) ?_
              refine wpSink_take (i := 0) (v := .pointer (some ⟨R, 0, none⟩)) rfl (by kernel_rfl) (by kernel_rfl) (by kernel_rfl) (by kernel_rfl) (fun _ _ _ h => h) (Or.inl ⟨by kernel_rfl, ?_⟩) (by assumption) ?_
              · intro W' hSw
                go_simp
              simp only [List.getElem_toArray, List.getElem_cons_zero, Act.put, List.setIfInBounds_toArray, List.set_cons_zero, List.set_cons_succ]
              refine wpSink_take (i := 1) (v := .pointer (some ⟨R, 0, none⟩)) rfl (by kernel_rfl) (by kernel_rfl) (by kernel_rfl) (by kernel_rfl) (fun _ _ _ h => h) (Or.inl ⟨by kernel_rfl, ?_⟩) (by assumption) ?_
              · intro W' hSw
                go_simp
              simp only [List.getElem_toArray, List.getElem_cons_zero, List.getElem_cons_succ, Act.put, List.setIfInBounds_toArray, List.set_cons_zero, List.set_cons_succ]
              refine wpSink_take (i := 2) (v := .pointer (some ⟨R, 0, none⟩)) rfl (by kernel_rfl) (by kernel_rfl) (by kernel_rfl) (by kernel_rfl) (fun _ _ _ h => h) (Or.inl ⟨by kernel_rfl, ?_⟩) (by assumption) ?_
              · intro W' hSw
                go_simp
              simp only [List.getElem_toArray, List.getElem_cons_zero, List.getElem_cons_succ, Act.put, List.setIfInBounds_toArray, List.set_cons_zero, List.set_cons_succ]
              refine wpSink_take (i := 3) (v := .pointer (some ⟨R, 3, none⟩)) rfl (by kernel_rfl) (by kernel_rfl) (by kernel_rfl) (by kernel_rfl) (fun _ _ _ h => h) (Or.inl ⟨by kernel_rfl, ?_⟩) (by assumption) ?_
              · intro W' hSw
                go_simp
              simp only [List.getElem_toArray, List.getElem_cons_zero, List.getElem_cons_succ, Act.put, List.setIfInBounds_toArray, List.set_cons_zero, List.set_cons_succ]
              refine wpSink_take (i := 4) (v := v') rfl (by kernel_rfl) (by kernel_rfl) (by kernel_rfl) (by kernel_rfl) (fun _ _ _ h => h) (Or.inl ⟨by kernel_rfl, ?_⟩) (by assumption) ?_
              · intro W' hSw
                have e := hSw (R, 3, v') (by simp)
                simp only at e
                go_simp
              simp only [List.getElem_toArray, List.getElem_cons_zero, List.getElem_cons_succ, Act.put, List.setIfInBounds_toArray, List.set_cons_zero, List.set_cons_succ]
              refine wpSink_take (i := 5) (v := .pointer (some ⟨w3.heap.size, 0, none⟩)) rfl (by kernel_rfl) (by kernel_rfl) (by kernel_rfl) (by kernel_rfl) (fun _ _ _ h => h) (Or.inl ⟨by kernel_rfl, ?_⟩) (by assumption) ?_
              · intro W' hSw
                go_simp
              simp only [List.getElem_toArray, List.getElem_cons_zero, List.getElem_cons_succ, Act.put, List.setIfInBounds_toArray, List.set_cons_zero, List.set_cons_succ]
              refine wpSink_take (i := 6) (v := .string (mk l)) rfl (by kernel_rfl) (by kernel_rfl) (by kernel_rfl) (by kernel_rfl) (fun _ _ _ h => h) (Or.inl ⟨by kernel_rfl, ?_⟩) (by assumption) ?_
              · intro W' hSw
                have e := hSw (w3.heap.size, 0, .string (mk l)) (by simp)
                simp only at e
                go_simp
              simp only [List.getElem_toArray, List.getElem_cons_zero, List.getElem_cons_succ, Act.put, List.setIfInBounds_toArray, List.set_cons_zero, List.set_cons_succ]
              refine wpSink_take (i := 7) (v := .string (mk t)) rfl (by kernel_rfl) (by kernel_rfl) (by kernel_rfl) (by kernel_rfl) (fun _ _ _ h => h) (Or.inl ⟨by kernel_rfl, ?_⟩) (by assumption) ?_
              · intro W' hSw
                have e := hSw (B, 0, .string (mk t)) (by simp)
                simp only at e
                go_simp
              simp only [List.getElem_toArray, List.getElem_cons_zero, List.getElem_cons_succ, Act.put, List.setIfInBounds_toArray, List.set_cons_zero, List.set_cons_succ]
              refine wpSink_take (i := 8) (v := .int .i64 i) rfl (by kernel_rfl) (by kernel_rfl) (by kernel_rfl) (by kernel_rfl) (fun _ _ _ h => h) (Or.inl ⟨by kernel_rfl, ?_⟩) (by assumption) ?_
              · intro W' hSw
                have e := hSw (C, 0, .int .i64 i) (by simp)
                simp only at e
                go_simp
              simp only [List.getElem_toArray, List.getElem_cons_zero, List.getElem_cons_succ, Act.put, List.setIfInBounds_toArray, List.set_cons_zero, List.set_cons_succ]
              refine wpSink_take (i := 9) (v := .int .i64 ((i : Int) + 1)) rfl (by kernel_rfl) (by kernel_rfl) (by kernel_rfl) (by kernel_rfl) (fun _ _ _ h => h) (Or.inl ⟨by kernel_rfl, ?_⟩) (by assumption) ?_
              · intro W' hSw
                go_simp
              simp only [List.getElem_toArray, List.getElem_cons_zero, List.getElem_cons_succ, Act.put, List.setIfInBounds_toArray, List.set_cons_zero, List.set_cons_succ]
              refine wpSink_take (i := 10) (v := .string (mk af)) rfl (by kernel_rfl) (by kernel_rfl) (by kernel_rfl) (by kernel_rfl) (fun _ _ _ h => h) (Or.inl ⟨by kernel_rfl, ?_⟩) (by assumption) ?_
              · intro W' hSw
                go_simp
              simp only [List.getElem_toArray, List.getElem_cons_zero, List.getElem_cons_succ, Act.put, List.setIfInBounds_toArray, List.set_cons_zero, List.set_cons_succ]
              refine wpSink_step (i := 11) (by kernel_rfl) rfl (fun K hK => ?_)
              simp only [List.getElem_toArray, List.getElem_cons_zero, List.getElem_cons_succ]
              go_simp
              have hS1 := hS0.alloc (.cells #[.string (mk af)] 9)
              refine hK.out _ _ (fun _ => hS1) ?_
              clear hK K hS0
              refine wpSink_take (i := 12) (v := .agg #[.string (mk l), .slice (some ⟨w4.heap.size, 0, none⟩) 1 1]) rfl (by kernel_rfl) (by kernel_rfl) (by kernel_rfl) (by kernel_rfl) (fun _ _ _ h => h) (Or.inl ⟨by kernel_rfl, ?_⟩) (by assumption) ?_
              · intro W' hSw
                go_simp
              simp only [List.getElem_toArray, List.getElem_cons_zero, List.getElem_cons_succ, Act.put, List.setIfInBounds_toArray, List.set_cons_zero, List.set_cons_succ]
              refine wpSink_step (i := 13) (by kernel_rfl) rfl (fun K hK => ?_)
              simp only [List.getElem_toArray, List.getElem_cons_zero, List.getElem_cons_succ]
              go_simp
              have hS2 := hS1.alloc (.cells #[.string (mk l), .slice (some ⟨w4.heap.size, 0, none⟩) 1 1] 108)
              refine hK.out _ _ (fun _ => hS2) ?_
              clear hK K hS1
              refine wpSink_step (i := 14) (by kernel_rfl) rfl (fun K hK => ?_)
              simp only [List.getElem_toArray, List.getElem_cons_zero, List.getElem_cons_succ]
              rw [if_pos (by kernel_rfl)]
              refine wp_append_item (W0 := w4) _ _ rfl base R v' (items ++ acc) rfl H4.out.out HI.out.2.1 hbase hitl (w4.heap.size + 1) rfl ⟨l, [af]⟩ (some ⟨w4.heap.size, 0, none⟩) 1 (0, 0) HI.out.1 HI.out.2.2.1 HI.out.2.2.2 (fun g cap w5 o1 g1 e1 => ?_)
              have HM := Lib.hid (H4.out.more HI.out.2.1 o1 g1 e1)
              obtain ⟨s1, s2⟩ := H4.out.at_store HI.out.2.1 g1
              have hS3 := hS2.grown g1 (by intro c hc; simp only [List.mem_cons, List.not_mem_nil, or_false] at hc; rcases hc with rfl | rfl | rfl | rfl <;> first | exact HNE.out.1 | exact HNE.out.2.1 | exact HNE.out.2.2.1 | exact HNE.out.2.2.2)
              refine hK.out _ _ (fun _ => hS3) ?_
              clear hK K hS2 o1 g1 e1
              refine wpSink_step (i := 15) (by kernel_rfl) rfl (fun K hK => ?_)
              simp only [List.getElem_toArray, List.getElem_cons_zero, List.getElem_cons_succ]
              go_simp
              refine hK.out _ _ (fun _ => hS3) ?_
              clear hK K
              refine wpSink_step (i := 16) (by kernel_rfl) rfl (fun K hK => ?_)
              simp only [List.getElem_toArray, List.getElem_cons_zero, List.getElem_cons_succ]
              go_simp
              refine hK.out _ _ (fun _ => hS3) ?_
              clear hK K
              refine wpSink_step (i := 17) (by kernel_rfl) rfl (fun K hK => ?_)
              simp only [List.getElem_toArray, List.getElem_cons_zero, List.getElem_cons_succ]
              go_simp
              refine hK.out _ _ (fun h => absurd rfl h) ?_
              clear hK K
              refine wpSink_done (by kernel_rfl) ?_ _
              clear s1 s2 hS3
              have hr : Hid (r = some (acc ++ [⟨l, [af]⟩], c + 0)) := Lib.hid HLS.out
              obtain rfl := hr.out
              go_wp2_with fail
              try rw [Exit.noGoto_ret]
              go_ret
              obtain ⟨v5, q1, q2⟩ := HM.out
              rw [List.length_append] at q1 q2
              exact ⟨rfl, v5, by rw [← List.append_assoc]; exact q1, (HGR3.out.trans (Grows.below HB4.out)).trans q2⟩
          · rw [hgt] at HLS
            simp only [if_true] at HLS
            have hr : Hid (r = none) := Lib.hid HLS.out
            obtain rfl := hr.out
            go_wp2_with fail
            try rw [Exit.noGoto_ret]
            go_ret
            exact ⟨rfl, HGR3.out.1.trans (Keep.below ((Below.refl _ _).alloc (Nat.le_refl _) _)) HGR3.out.2⟩
end Go.Proofs.Ytmjggjccmbiheaa
