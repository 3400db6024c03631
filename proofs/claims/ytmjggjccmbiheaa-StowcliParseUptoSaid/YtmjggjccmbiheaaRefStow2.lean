/- The reference's Parse (stowcli), step by step. -/
import Derived.Test.YtmjggjccmbiheaaRefStow1
import Derived.Deep.RegionLaw
namespace Go.Proofs.Ytmjggjccmbiheaa
open Go Go.RowKit Go.Proofs Go.Sort
attribute [local go_sem] mk_list mk_size mk_data

/-- The bounds that the fold keeps. -/
def SmallR (M n : Nat) (C : CmdT) : Prop := C.dir.length ≤ M ∧ C.ign.length ≤ n ∧ C.defr.length ≤ n ∧ C.over.length ≤ n ∧ C.deals.length ≤ n
theorem clean_len (v : Tx) : (cleanS v).length ≤ v.length + 2 := by
  rw [cleanS_eq, List.length_cons]
  have := joinS_le (pathP v)
  have := wt_pathP v
  omega
theorem head_len {M : Nat} {vs : List Tx} (h : ∀ v ∈ vs, v.length ≤ M) : (vs.headD []).length ≤ M := by
  cases vs with
  | nil => simp
  | cons v vs => exact h v (by simp)
theorem ite_pred {P : StT → Prop} {c : Prop} [Decidable c] {a b : StT} (h1 : P a) (h2 : P b) : P (if c then a else b) := by
  by_cases h : c
  · rw [if_pos h]; exact h1
  · rw [if_neg h]; exact h2
theorem small_step {M n : Nat} {st : StT} {x : ItemT} (h : SmallR (M + 2) n st.c) (hx : ∀ v ∈ x.vals, v.length ≤ M) : SmallR (M + 2) (n + 1) (stepC st x).c := by
  obtain ⟨h1, h2, h3, h4, h5⟩ := h
  have hd := head_len hx
  have hc := clean_len (x.vals.headD [])
  unfold stepC
  iterate 14 refine ite_pred (P := fun s => SmallR (M + 2) (n + 1) s.c) ?_ ?_; rotate_left
  all_goals (unfold SmallR; (try simp only [List.length_append, List.length_cons, List.length_nil]); omega)
theorem small_fold {M : Nat} : ∀ (l : List ItemT) (st : StT) (n : Nat), SmallR (M + 2) n st.c → valsLe M l → SmallR (M + 2) (n + l.length) (l.foldl stepC st).c
  | [], st, n, h, _ => h
  | x :: l, st, n, h, hl => by
    have := small_fold l (stepC st x) (n + 1) (small_step h (hl x (by simp))) (fun y hy => hl y (List.mem_cons_of_mem _ hy))
    rw [List.foldl_cons, List.length_cons, show n + (l.length + 1) = n + 1 + l.length by omega]
    exact this
theorem small_foldC {M : Nat} {l : List ItemT} (h : valsLe M l) : SmallR (M + 2) l.length (foldC l).c := by
  have := small_fold l startC 0 ⟨by simp [startC], Nat.le_refl _, Nat.le_refl _, Nat.le_refl _, Nat.le_refl _⟩ h
  rwa [Nat.zero_add] at this
theorem vals_take {M : Nat} {l : List ItemT} (h : valsLe M l) (k : Nat) : valsLe M (l.take k) := fun x hx => h x (List.mem_of_mem_take hx)
theorem fold_take {l : List ItemT} {k : Nat} (hk : k < l.length) : foldC (l.take (k + 1)) = stepC (foldC (l.take k)) l[k] := by
  rw [List.take_succ_eq_append_getElem hk, foldC_snoc]

def RefStowsTo (res : Sum CmdT Nat) (w : World) (e : Ending) (w' : World) : Prop :=
  match res with
  | .inl c => (∃ v, e = .returned (.tuple #[v, .int .i64 (-1)]) ∧ CmdAt w' w.heap.size v c) ∧ Below w.heap.size w w'
  | .inr k => e = .returned (.tuple #[zeroCmd, .int .i64 k]) ∧ Below w.heap.size w w'

set_option maxRecDepth 100000 in
set_option maxHeartbeats 8000000 in
theorem ref38_Parse (wa : Option Addr) (wc : Nat) (ws : List Tx) (w : World) (hw : StrsAt w wa ws) (hwt : wt ws ≤ 300000000) :
    Calls Try.prog 66 #[.slice wa ws.length wc] w (RefStowsTo (stowS ws) w) := by
  have HP := Lib.hid (fun A c W (hb : Below w.heap.size w W) (hs : SpecsAt W A stowL) => ref37_Parse A c stowL wa wc ws W hs (by decide) (hw.below hb) (by omega))
  have hlw := len_le_wt ws
  obtain ⟨n0, hn⟩ : ∃ n0, ws.length = n0 := ⟨_, rfl⟩
  have HN := Lib.hid hn
  rw [hn] at HP ⊢
  have HSS : Hid (stowS ws = match parseS stowL ws with
    | .inr k => .inr k
    | .inl l => if (dealsT l).isEmpty then .inr ws.length else .inl (cmdT l)) := Lib.hid rfl
  obtain ⟨P, hP⟩ : ∃ P, parseS stowL ws = P := ⟨_, rfl⟩
  rw [hP] at HP HSS
  have HPS := Lib.hid hP
  obtain ⟨S, hS⟩ : ∃ S, stowS ws = S := ⟨_, rfl⟩
  rw [hS] at HSS ⊢
  obtain ⟨B, hB⟩ : ∃ B, w.heap.size = B := ⟨_, rfl⟩
  obtain ⟨w0, hw0⟩ : ∃ w0, w.alloc (.cells #[.string ⟨#[]⟩, .string ⟨#[]⟩, .bool false, .bool false, .bool false, .slice none 0 0, .slice none 0 0, .slice none 0 0, .slice none 0 0, .bool false, .bool false] 76) = w0 := ⟨_, rfl⟩
  have HB0 : Hid (Below w.heap.size w w0) := Lib.hid (by rw [← hw0]; exact (Below.refl _ _).alloc (Nat.le_refl _) _)
  have HC : Hid (w0.heap[B]? = some (.cells #[.string ⟨#[]⟩, .string ⟨#[]⟩, .bool false, .bool false, .bool false, .slice none 0 0, .slice none 0 0, .slice none 0 0, .slice none 0 0, .bool false, .bool false] 76) ∧ B < w0.heap.size) := Lib.hid (by
    rw [← hw0, ← hB]
    exact ⟨heap_alloc_new _ _, by simp⟩)
  have HBE := Lib.hid hB
  have HWT := Lib.hid (And.intro hwt hlw)
  clear hP hn hw hS hwt hlw
  go_enter Try.func66, Try.ntmps66
  go_wp2_with fail
  clear hw0 hB
  refine (ref38_Specs w0).mono ?_
  rintro e w1 ⟨⟨A, c, rfl, hs⟩, b1⟩
  have B1 := Lib.hid (below_then HB0.out HB0.out.size b1)
  have S1 := Lib.hid b1
  have HPP := Lib.hid (HP.out A c w1 B1.out hs)
  clear b1 hs HP
  go_wp2_with fail
  refine HPP.out.mono ?_
  rintro e w2 hpt
  cases P with
  | inr k =>
    obtain ⟨rfl, b2⟩ := hpt
    have B2 := Lib.hid (ext_trans B1.out b2)
    have HB2 := Lib.hid (((ext_trans S1.out b2).block B HC.out.2).trans HC.out.1)
    clear b2 HPP
    have HS := Lib.hid HSS.out
    obtain rfl := HS.out
    have g0 := blk_cell HB2.out 0
    have g1 := blk_cell HB2.out 1
    have g2 := blk_cell HB2.out 2
    have g3 := blk_cell HB2.out 3
    have g4 := blk_cell HB2.out 4
    have g5 := blk_cell HB2.out 5
    have g6 := blk_cell HB2.out 6
    have g7 := blk_cell HB2.out 7
    have g8 := blk_cell HB2.out 8
    have g9 := blk_cell HB2.out 9
    have g10 := blk_cell HB2.out 10
    have fr0 := blk_frozen HB2.out 0
    have fr1 := blk_frozen HB2.out 1
    have fr2 := blk_frozen HB2.out 2
    have fr3 := blk_frozen HB2.out 3
    have fr4 := blk_frozen HB2.out 4
    have fr5 := blk_frozen HB2.out 5
    have fr6 := blk_frozen HB2.out 6
    have fr7 := blk_frozen HB2.out 7
    have fr8 := blk_frozen HB2.out 8
    have fr9 := blk_frozen HB2.out 9
    have fr10 := blk_frozen HB2.out 10
    simp only [List.getElem?_toArray, List.getElem?_cons_zero, List.getElem?_cons_succ] at g0 g1 g2 g3 g4 g5 g6 g7 g8 g9 g10
    have hBl := (Array.getElem?_eq_some_iff.1 HB2.out).1
    go_wp2_with fail
    refine bodyPost_ret (v := .tuple #[zeroCmd, .int .i64 k]) ?_ rfl ⟨rfl, ?_⟩
    · unfold zeroCmd
      rw [results_cell_tmp rfl]
      go_simp
    · have hB : w.heap.size ≤ B := Nat.le_of_eq HBE.out
      exact (((((((((((B2.out.setCell (p := ⟨B, 0, none⟩) hB _).setCell (p := ⟨B, 1, none⟩) hB _).setCell (p := ⟨B, 2, none⟩) hB _).setCell (p := ⟨B, 3, none⟩) hB _).setCell (p := ⟨B, 4, none⟩) hB _).setCell (p := ⟨B, 5, none⟩) hB _).setCell (p := ⟨B, 6, none⟩) hB _).setCell (p := ⟨B, 7, none⟩) hB _).setCell (p := ⟨B, 8, none⟩) hB _).setCell (p := ⟨B, 9, none⟩) hB _).setCell (p := ⟨B, 10, none⟩) hB _)
  | inl its =>
    obtain ⟨⟨v, rfl, hrow⟩, b2⟩ := hpt
    have B2 := Lib.hid (ext_trans B1.out b2)
    have S2 := Lib.hid (ext_trans S1.out b2)
    obtain ⟨lo, hlo⟩ : ∃ lo, its.length = lo := ⟨_, rfl⟩
    have HL := Lib.hid hlo
    have hql := (stow_items HPS.out).1
    have HV := Lib.hid (stow_items HPS.out).2.2.1
    have HOK := Lib.hid (parseS_ok HPS.out)
    have hl3 : lo ≤ 300000000 := by have := HWT.out.1; omega
    have HROW := Lib.hid hrow
    obtain ⟨A2, c2, rfl, hc2⟩ := hrow.slice
    rw [hlo] at HROW ⊢
    clear hrow b2 hlo hql hc2
    have e47 : (⟨#[47]⟩ : ByteArray) = mk [47] := rfl
    have e0 : (⟨#[]⟩ : ByteArray) = mk [] := rfl
    go_wp2_with fail
    obtain ⟨z, hz⟩ : ∃ z, w2.heap.size = z := ⟨_, rfl⟩
    obtain ⟨w3, hw3⟩ : ∃ w3, w2.alloc (.cells #[.string (mk [47]), .string (mk []), .bool true, .bool false, .bool false, .slice none 0 0, .slice none 0 0, .slice none 0 0, .slice none 0 0, .bool false, .bool false] 76) = w3 := ⟨_, rfl⟩
    have HC3 : Hid (CmdR w3 z startC.c ∧ Below z w2 w3) := Lib.hid (by
      rw [← hw3, ← hz]
      refine ⟨⟨none, 0, none, 0, none, 0, none, 0, heap_alloc_new _ _, ⟨World.ownsRow_nil _ _ _ _, World.ownsRow_nil _ _ _ _, World.ownsRow_nil _ _ _ _, World.ownsRow_nil _ _ _ _, by simp [Value.ownBlock], by simp [Value.ownBlock], by simp [Value.ownBlock]⟩⟩, (Below.refl _ _).alloc (Nat.le_refl _) _⟩)
    rw [hw3, hz]
    have HZ := Lib.hid hz
    clear hw3 hz
    go_loopg [7, 8, 9] lo (fun g kv tv iv wx => ∃ k : Nat, k + g = lo ∧ iv = .int .i64 k ∧ kv = .int .i64 (foldC (its.take k)).kind ∧ tv = .bool (foldC (its.take k)).tg ∧ Hid (CmdR wx z (foldC (its.take k)).c) ∧ Hid (Below z w2 wx))
    case atStart => exact ⟨0, by omega, rfl, rfl, rfl, Lib.hid HC3.out.1, Lib.hid HC3.out.2⟩
    case round =>
      obtain ⟨k, hk, rfl, rfl, rfl, HCR, HBZ⟩ := hrel
      have HSM := Lib.hid (small_foldC (vals_take HV.out k))
      obtain ⟨st, hst⟩ : ∃ st, foldC (its.take k) = st := ⟨_, rfl⟩
      rw [hst] at HCR HSM ⊢
      obtain ⟨kd, tg, C⟩ := st
      have HST := Lib.hid hst
      simp only at HCR HSM ⊢
      clear hst
      cases gk with
      | zero =>
        obtain rfl : k = lo := by omega
        have HEQ : Hid (endC ⟨kd, tg, C⟩ = cmdT its) := Lib.hid (by
          rw [← endC_eq HOK.out, ← HST.out, List.take_of_length_le (by have := HL.out; omega)])
        have hdl : C.dir.length ≤ 1000000000 := by have := HSM.out.1; have := HWT.out.1; omega
        obtain ⟨A1, q1, A2', q2, A3, q3, A4, q4, hblk, hrows⟩ := HCR.out
        have HRW := Lib.hid hrows
        have HBK := Lib.hid hblk
        have z0 := blk_cell hblk 0
        have z1 := blk_cell hblk 1
        unfold cmdC at z0 z1
        simp only [List.getElem?_toArray, List.getElem?_cons_zero, List.getElem?_cons_succ] at z0 z1
        clear hrows hblk
        go_upto_if 146 with (fail)
        go_cut [] (fun wx => Hid (CmdR wx z (endC ⟨kd, tg, C⟩)) ∧ Hid (Below z w2 wx))
        case first =>
          cases tg with
          | true =>
            go_wp2_with fail
            go_meet
            exact ⟨HCR, HBZ⟩
          | false =>
            have HDR := Lib.hid (ref_Dir C.dir wr hdl)
            go_wp2_with fail
            refine HDR.out.mono ?_
            rintro e w4 ⟨rfl, hb4⟩
            have HB4 := Lib.hid hb4
            have HBK4 := Lib.hid ((hb4.block z (Array.getElem?_eq_some_iff.1 HBK.out).1).trans HBK.out)
            have y0 := blk_cell HBK4.out 1
            have y1 := blk_frozen HBK4.out 1
            unfold cmdC at y0
            simp only [List.getElem?_toArray, List.getElem?_cons_zero, List.getElem?_cons_succ] at y0
            clear hb4
            go_wp2_with fail
            go_meet
            exact ⟨Lib.hid (cmd_store 1 _ HBK4.out (HRW.out.below HB4.out) rfl rfl rfl rfl rfl), Lib.hid ((below_then HBZ.out (Nat.le_of_lt (Nat.lt_of_lt_of_le (Nat.lt_succ_self _) (Array.getElem?_eq_some_iff.1 HBK.out).1)) HB4.out).setCell (p := ⟨z, 1, none⟩) (Nat.le_refl _) _)⟩
        case rest =>
          obtain ⟨HC5, HB5⟩ := hcut
          obtain ⟨W5, hW5⟩ : ∃ W5 : World, W5 = wc := ⟨_, rfl⟩
          rw [← hW5] at HC5 HB5 ⊢
          clear z0 z1 HBK HRW hW5
          obtain ⟨C5, hC5⟩ : ∃ C5, endC ⟨kd, tg, C⟩ = C5 := ⟨_, rfl⟩
          rw [hC5] at HC5 HEQ
          have HSZ : Hid (z < W5.heap.size ∧ w.heap.size = B ∧ B < z) := Lib.hid ⟨by obtain ⟨_, _, _, _, _, _, _, _, h1, _⟩ := HC5.out; exact (Array.getElem?_eq_some_iff.1 h1).1, HBE.out, by have := HC.out.2; have := S2.out.size; have := HZ.out; omega⟩
          obtain ⟨A1, q1, A2, q2, A3, q3, A4, q4, hblk, y1, y2, y3, y4⟩ := HC5.out.at (B := B + 1) (by have := HSZ.out; omega)
          have HY := Lib.hid (And.intro y1 (And.intro y2 (And.intro y3 y4)))
          have HBB : Hid (W5.heap[B]? = some (.cells #[.string ⟨#[]⟩, .string ⟨#[]⟩, .bool false, .bool false, .bool false, .slice none 0 0, .slice none 0 0, .slice none 0 0, .slice none 0 0, .bool false, .bool false] 76)) := Lib.hid ((HB5.out.block B HSZ.out.2.2).trans ((S2.out.block B HC.out.2).trans HC.out.1))
          have HBW : Hid (Below w.heap.size w W5) := Lib.hid (B2.out.trans (HB5.out.mono (by have := HSZ.out; omega)))
          obtain ⟨m, hm⟩ : ∃ m, C5.deals.length = m := ⟨_, rfl⟩
          have HM := Lib.hid hm
          rw [hm] at hblk
          have HBK := Lib.hid hblk
          have z0 := blk_cell hblk 0
          have z1 := blk_cell hblk 1
          have z2 := blk_cell hblk 2
          have z3 := blk_cell hblk 3
          have z4 := blk_cell hblk 4
          have z5 := blk_cell hblk 5
          have z6 := blk_cell hblk 6
          have z7 := blk_cell hblk 7
          have z8 := blk_cell hblk 8
          have z9 := blk_cell hblk 9
          have z10 := blk_cell hblk 10
          unfold cmdC at z0 z1 z2 z3 z4 z5 z6 z7 z8 z9 z10
          simp only [List.getElem?_toArray, List.getElem?_cons_zero, List.getElem?_cons_succ] at z0 z1 z2 z3 z4 z5 z6 z7 z8 z9 z10
          have g0 := blk_cell HBB.out 0
          have g1 := blk_cell HBB.out 1
          have g2 := blk_cell HBB.out 2
          have g3 := blk_cell HBB.out 3
          have g4 := blk_cell HBB.out 4
          have g5 := blk_cell HBB.out 5
          have g6 := blk_cell HBB.out 6
          have g7 := blk_cell HBB.out 7
          have g8 := blk_cell HBB.out 8
          have g9 := blk_cell HBB.out 9
          have g10 := blk_cell HBB.out 10
          have fr0 := blk_frozen HBB.out 0
          have fr1 := blk_frozen HBB.out 1
          have fr2 := blk_frozen HBB.out 2
          have fr3 := blk_frozen HBB.out 3
          have fr4 := blk_frozen HBB.out 4
          have fr5 := blk_frozen HBB.out 5
          have fr6 := blk_frozen HBB.out 6
          have fr7 := blk_frozen HBB.out 7
          have fr8 := blk_frozen HBB.out 8
          have fr9 := blk_frozen HBB.out 9
          have fr10 := blk_frozen HBB.out 10
          simp only [List.getElem?_toArray, List.getElem?_cons_zero, List.getElem?_cons_succ] at g0 g1 g2 g3 g4 g5 g6 g7 g8 g9 g10
          have hBl := (Array.getElem?_eq_some_iff.1 HBB.out).1
          have hBz : ¬ B = z := by have := HSZ.out; omega
          have hBz2 : ¬ z = B := by have := HSZ.out; omega
          clear hm hblk y1 y2 y3 y4 hC5
          have hB : w.heap.size ≤ B := Nat.le_of_eq HBE.out
          cases m with
          | zero =>
            have HE : Hid (S = .inr n0) := Lib.hid (by
              rw [HSS.out]
              have h0 : (dealsT its).isEmpty = true := by
                have : (cmdT its).deals = dealsT its := rfl
                rw [← this, ← HEQ.out, List.isEmpty_iff]
                exact List.eq_nil_of_length_eq_zero HM.out
              simp only [h0, if_true]
              rw [HN.out])
            obtain rfl := HE.out
            go_wp2_with fail
            refine bodyPost_ret (v := .tuple #[zeroCmd, .int .i64 n0]) ?_ rfl ⟨rfl, ?_⟩
            · unfold zeroCmd
              rw [results_cell_tmp rfl]
              go_simp
            · exact (((((((((((HBW.out.setCell (p := ⟨B, 0, none⟩) hB _).setCell (p := ⟨B, 1, none⟩) hB _).setCell (p := ⟨B, 2, none⟩) hB _).setCell (p := ⟨B, 3, none⟩) hB _).setCell (p := ⟨B, 4, none⟩) hB _).setCell (p := ⟨B, 5, none⟩) hB _).setCell (p := ⟨B, 6, none⟩) hB _).setCell (p := ⟨B, 7, none⟩) hB _).setCell (p := ⟨B, 8, none⟩) hB _).setCell (p := ⟨B, 9, none⟩) hB _).setCell (p := ⟨B, 10, none⟩) hB _)
          | succ m =>
            have HE : Hid (S = .inl C5) := Lib.hid (by
              rw [HSS.out, HEQ.out]
              have h0 : ¬ ((dealsT its).isEmpty = true) := by
                intro h
                have h2 := HM.out
                rw [HEQ.out] at h2
                have h3 : (cmdT its).deals = [] := List.isEmpty_iff.1 h
                rw [h3] at h2
                simp at h2
              simp only [h0]
              rfl)
            obtain rfl := HE.out
            go_wp2_with fail
            refine bodyPost_ret (v := .tuple #[.agg #[.string (mk C5.dir), .string (mk C5.target), .bool C5.fold, .bool C5.dots, .bool C5.adopt, .slice A1 C5.ign.length q1, .slice A2 C5.defr.length q2, .slice A3 C5.over.length q3, .slice A4 (m + 1) q4, .bool C5.sim, .bool C5.quiet], .int .i64 (-1)]) ?_ rfl ⟨⟨_, rfl, ?_⟩, ?_⟩
            · rw [results_cell_tmp rfl]
              go_simp
            · have hk : ∀ W7, Keep B none W5 W7 → CmdAt W7 w.heap.size (.agg #[.string (mk C5.dir), .string (mk C5.target), .bool C5.fold, .bool C5.dots, .bool C5.adopt, .slice A1 C5.ign.length q1, .slice A2 C5.defr.length q2, .slice A3 C5.over.length q3, .slice A4 (m + 1) q4, .bool C5.sim, .bool C5.quiet]) C5 := fun W7 h7 => by
                have hwB : w.heap.size ≤ B + 1 := by have := HBE.out; omega
                exact ⟨A1, q1, A2, q2, A3, q3, A4, q4, by rw [← HM.out], (HY.out.1.keep (Nat.lt_succ_self B) h7).mono hwB, (HY.out.2.1.keep (Nat.lt_succ_self B) h7).mono hwB, (HY.out.2.2.1.keep (Nat.lt_succ_self B) h7).mono hwB, (HY.out.2.2.2.keep (Nat.lt_succ_self B) h7).mono hwB⟩
              refine hk _ ?_
              iterate 10 refine Keep.trans ?_ (Keep.setR _ _ _) (.inl rfl)
              exact Keep.setR _ _ _
            · exact (((((((((((HBW.out.setCell (p := ⟨B, 0, none⟩) hB _).setCell (p := ⟨B, 1, none⟩) hB _).setCell (p := ⟨B, 2, none⟩) hB _).setCell (p := ⟨B, 3, none⟩) hB _).setCell (p := ⟨B, 4, none⟩) hB _).setCell (p := ⟨B, 5, none⟩) hB _).setCell (p := ⟨B, 6, none⟩) hB _).setCell (p := ⟨B, 7, none⟩) hB _).setCell (p := ⟨B, 8, none⟩) hB _).setCell (p := ⟨B, 9, none⟩) hB _).setCell (p := ⟨B, 10, none⟩) hB _)
      | succ g =>
        have hkl : k < its.length := by have := HL.out; omega
        obtain ⟨gb, c3, A, cv, hv, hlt, f0, f1, sv⟩ := HROW.out.item hkl
        have HFT := Lib.hid (fold_take hkl)
        have HOX := Lib.hid (HOK.out its[k] (List.getElem_mem hkl))
        obtain ⟨x, hx⟩ : ∃ x, its[k] = x := ⟨_, rfl⟩
        have HVX := Lib.hid (HV.out its[k] (List.getElem_mem hkl))
        rw [hx] at f0 f1 sv HFT HOX HVX
        rw [HST.out] at HFT
        rw [HL.out] at hv
        simp only [Value.slice.injEq] at hv
        obtain ⟨rfl, _, rfl⟩ := hv
        rw [← HBZ.out.cell (p := ⟨gb, k * 2, none⟩) (by have := HZ.out; show gb < _; omega)] at f0
        rw [← HBZ.out.cell (p := ⟨gb, k * 2 + 1, none⟩) (by have := HZ.out; show gb < _; omega)] at f1
        have HSV := Lib.hid sv
        have hkI : (k : Int) < (lo : Int) := by omega
        have hk0 : (0 : Int) ≤ (k : Int) := by omega
        obtain ⟨A1, q1, A2, q2, A3, q3, A4, q4, hblk, hrows⟩ := HCR.out
        have HRW := Lib.hid hrows
        have HBK := Lib.hid hblk
        have z0 := blk_cell hblk 0
        have z1 := blk_cell hblk 1
        have z2 := blk_cell hblk 2
        have z3 := blk_cell hblk 3
        have z4 := blk_cell hblk 4
        have z5 := blk_cell hblk 5
        have z6 := blk_cell hblk 6
        have z7 := blk_cell hblk 7
        have z8 := blk_cell hblk 8
        have z9 := blk_cell hblk 9
        have z10 := blk_cell hblk 10
        unfold cmdC at z0 z1 z2 z3 z4 z5 z6 z7 z8 z9 z10
        simp only [List.getElem?_toArray, List.getElem?_cons_zero, List.getElem?_cons_succ] at z0 z1 z2 z3 z4 z5 z6 z7 z8 z9 z10
        have hfz := fun i => blk_frozen hblk i
        have HLT := Lib.hid hlt
        clear hx hlt hrows hblk sv
        rcases HOX.out with ⟨hl, hv1⟩ | ⟨s, hs, hl, _, hv1⟩
        · -- operand
            try simp only at hl hv1
            obtain ⟨long, vals⟩ := x
            simp only at hl hv1 f0 f1 HSV HFT HOX HVX
            subst hl
            obtain ⟨v, rfl⟩ : ∃ v, vals = [v] := by
              match vals, hv1 with
              | [v], _ => exact ⟨v, rfl⟩
            obtain ⟨bv, ov, rfl, lv, ev⟩ := HSV.out.cells (k := 0) (by simp)
            have fv : wr.cell? ⟨bv, ov, none⟩ = some (.string (mk v)) := by
              rw [HBZ.out.cell (p := ⟨bv, ov, none⟩) (by have := HZ.out; show bv < _; omega)]
              exact ev 0 (by simp)
            have hbz : gb < z ∧ bv < z := by have := HZ.out; have := HLT.out; omega
            have HGZ := Lib.hid hbz
            clear ev lv hbz
            have HFT2 : Hid (foldC (its.take (k + 1)) = ⟨kd, tg, { C with deals := C.deals ++ [(kd, v)] }⟩) := HFT
            clear hv1
            have hlb : (C.deals.length + 1) * 24 ≤ 140737488355328 := by have := HSM.out.2.2.2.2; rw [List.length_take] at this; omega
            have hU : z + 1 ≤ wr.heap.size := (Array.getElem?_eq_some_iff.1 HBK.out).1
            have hzl : z < wr.heap.size := hU
            have HF1 := Lib.hid (And.intro f1 fv)
            have HAF : Hid (∀ w1, (wr.alloc (.cells #[.int .i64 kd, .string (mk v)] 98)).drew.grownBy w1 (Value.ownBlock (.slice A4 C.deals.length q4)) → w1.heap[z]? = some (.cells (cmdC C (.slice A1 C.ign.length q1) (.slice A2 C.defr.length q2) (.slice A3 C.over.length q3) (.slice A4 C.deals.length q4)) 76) ∧ w1.cell? ⟨z, 8, none⟩ = some (.slice A4 C.deals.length q4) ∧ w1.frozen? ⟨z, 8, none⟩ = false ∧ w1.cell? ⟨gb, k * 2 + 1, none⟩ = some (.slice (some ⟨bv, ov, none⟩) 1 cv) ∧ w1.cell? ⟨bv, ov, none⟩ = some (.string (mk v)) ∧ Below z w2 w1 ∧ z < w1.heap.size) := Lib.hid (fun w1 g1 => by
              have hl := grown_low HRW.out.r4 (d1_below _ _) g1 hU
              have hb1 := (hl.block z (Nat.lt_succ_self z)).trans HBK.out
              refine ⟨hb1, by rw [blk_cell hb1]; rfl, blk_frozen hb1 8, ?_, ?_, HBZ.out.trans (hl.mono (Nat.le_succ z)), (Array.getElem?_eq_some_iff.1 hb1).1⟩
              · exact (hl.cell (p := ⟨gb, k * 2 + 1, none⟩) (Nat.lt_succ_of_lt HGZ.out.1)).trans HF1.out.1
              · exact (hl.cell (p := ⟨bv, ov, none⟩) (Nat.lt_succ_of_lt HGZ.out.2)).trans HF1.out.2)
            have hk1 : ∀ (W' : World) (j : Nat) (u : Value), (W'.setCell ⟨z, j, none⟩ u).cell? ⟨gb, k * 2 + 1, none⟩ = W'.cell? ⟨gb, k * 2 + 1, none⟩ := fun W' j u => by
              rw [World.cell?_setCell_other]
              intro h
              have h2 : z = gb := congrArg Addr.block h
              have := HGZ.out.1
              omega
            have hk2 : ∀ (W' : World) (j : Nat) (u : Value), (W'.setCell ⟨z, j, none⟩ u).cell? ⟨bv, ov, none⟩ = W'.cell? ⟨bv, ov, none⟩ := fun W' j u => by
              rw [World.cell?_setCell_other]
              intro h
              have h2 : z = bv := congrArg Addr.block h
              have := HGZ.out.2
              omega
            go_wp2_with fail
            go_region_law
              ((refine step_put_deal (W0 := wr) (z + 1) (by rfl) _ _ (by rfl) _ C.deals (by rfl) HRW.out.r4 (d1_below _ _) hU wr.heap.size (by rfl) (kd, v) 98 (0, 0) (d1_new _ _) hlb ?_; intro g' cap w1 o1 g1; obtain ⟨hb1, y5, y6, s1, s2, hz1, hz2⟩ := HAF.out w1 g1; have HB1 := Lib.hid (And.intro hb1 hz1); have O1 := Lib.hid (rows_put4 (W := (wr.alloc (.cells #[.int .i64 kd, .string (mk v)] 98)).drew) (HRW.out.below (d1_below _ _)) (kd, v) g1 o1); clear hb1 hz1 o1 g1))
            all_goals
              go_wp2_with fail
              go_roundg g
              case measure => omega
              case rel => exact ⟨k + 1, by omega, by go_num, by rw [HFT2.out], by rw [HFT2.out], Lib.hid (by rw [HFT2.out]; exact cmd_put4 _ _ (kd, v) HB1.out.1 O1.out), Lib.hid (HB1.out.2.setCell (p := ⟨z, 8, none⟩) (Nat.le_refl _) _)⟩
        · have hs' := hs
          simp only [stowL, List.mem_cons, List.not_mem_nil, or_false] at hs'
          rcases hs' with rfl | rfl | rfl | rfl | rfl | rfl | rfl | rfl | rfl | rfl | rfl | rfl | rfl
          · -- dirT
            try simp only at hl hv1
            obtain ⟨long, vals⟩ := x
            simp only at hl hv1 f0 f1 HSV HFT HOX HVX
            subst hl
            obtain ⟨v, rfl⟩ : ∃ v, vals = [v] := by
              match vals, hv1 with
              | [v], _ => exact ⟨v, rfl⟩
            obtain ⟨bv, ov, rfl, lv, ev⟩ := HSV.out.cells (k := 0) (by simp)
            have fv : wr.cell? ⟨bv, ov, none⟩ = some (.string (mk v)) := by
              rw [HBZ.out.cell (p := ⟨bv, ov, none⟩) (by have := HZ.out; show bv < _; omega)]
              exact ev 0 (by simp)
            clear ev lv
            have HFT2 : Hid (foldC (its.take (k + 1)) = ⟨kd, tg, { C with dir := cleanS v }⟩) := HFT
            clear hs hv1
            unfold dirT at f0
            have HCL := Lib.hid (ref_Clean v wr (by have := HWT.out.1; have hvl := HVX.out v (by simp); omega))
            rw [show (47 : UInt8) :: joinS (cleanP (partsL v)) = cleanS v from rfl] at HCL
            go_wp2_with fail
            refine HCL.out.mono ?_
            rintro e w4 ⟨rfl, hb4⟩
            have HB4 := Lib.hid hb4
            have HBK4 := Lib.hid ((hb4.block z (Array.getElem?_eq_some_iff.1 HBK.out).1).trans HBK.out)
            have y0 := blk_cell HBK4.out 0
            have y1 := blk_frozen HBK4.out 0
            unfold cmdC at y0
            simp only [List.getElem?_toArray, List.getElem?_cons_zero] at y0
            clear hb4
            go_wp2_with fail
            go_roundg g
            case measure => omega
            case rel => exact ⟨k + 1, by omega, by go_num, by rw [HFT2.out], by rw [HFT2.out], Lib.hid (by rw [HFT2.out]; exact cmd_store 0 _ HBK4.out (HRW.out.below HB4.out) rfl rfl rfl rfl rfl), Lib.hid ((below_then HBZ.out (Nat.le_of_lt (Nat.lt_of_lt_of_le (Nat.lt_succ_self _) (Array.getElem?_eq_some_iff.1 HBK.out).1)) HB4.out).setCell (p := ⟨z, 0, none⟩) (Nat.le_refl _) _)⟩
          · -- targetT
            try simp only at hl hv1
            obtain ⟨long, vals⟩ := x
            simp only at hl hv1 f0 f1 HSV HFT HOX HVX
            subst hl
            obtain ⟨v, rfl⟩ : ∃ v, vals = [v] := by
              match vals, hv1 with
              | [v], _ => exact ⟨v, rfl⟩
            obtain ⟨bv, ov, rfl, lv, ev⟩ := HSV.out.cells (k := 0) (by simp)
            have fv : wr.cell? ⟨bv, ov, none⟩ = some (.string (mk v)) := by
              rw [HBZ.out.cell (p := ⟨bv, ov, none⟩) (by have := HZ.out; show bv < _; omega)]
              exact ev 0 (by simp)
            clear ev lv
            have HFT2 : Hid (foldC (its.take (k + 1)) = ⟨kd, true, { C with target := cleanS v }⟩) := HFT
            clear hs hv1
            unfold targetT at f0
            have HCL := Lib.hid (ref_Clean v wr (by have := HWT.out.1; have hvl := HVX.out v (by simp); omega))
            rw [show (47 : UInt8) :: joinS (cleanP (partsL v)) = cleanS v from rfl] at HCL
            go_wp2_with fail
            refine HCL.out.mono ?_
            rintro e w4 ⟨rfl, hb4⟩
            have HB4 := Lib.hid hb4
            have HBK4 := Lib.hid ((hb4.block z (Array.getElem?_eq_some_iff.1 HBK.out).1).trans HBK.out)
            have y0 := blk_cell HBK4.out 1
            have y1 := blk_frozen HBK4.out 1
            unfold cmdC at y0
            simp only [List.getElem?_toArray, List.getElem?_cons_zero, List.getElem?_cons_succ] at y0
            clear hb4
            go_wp2_with fail
            go_roundg g
            case measure => omega
            case rel => exact ⟨k + 1, by omega, by go_num, by rw [HFT2.out], by rw [HFT2.out], Lib.hid (by rw [HFT2.out]; exact cmd_store 1 _ HBK4.out (HRW.out.below HB4.out) rfl rfl rfl rfl rfl), Lib.hid ((below_then HBZ.out (Nat.le_of_lt (Nat.lt_of_lt_of_le (Nat.lt_succ_self _) (Array.getElem?_eq_some_iff.1 HBK.out).1)) HB4.out).setCell (p := ⟨z, 1, none⟩) (Nat.le_refl _) _)⟩
          · -- stowT
            try simp only at hl hv1
            obtain ⟨long, vals⟩ := x
            simp only at hl hv1 f0 f1 HSV HFT HOX HVX
            subst hl
            have hv2 : vals = [] := List.eq_nil_of_length_eq_zero hv1
            subst hv2
            have HFT2 : Hid (foldC (its.take (k + 1)) = ⟨1, tg, C⟩) := HFT
            clear hs hv1
            unfold stowT at f0
            go_wp2_with fail
            go_roundg g
            case measure => omega
            case rel => exact ⟨k + 1, by omega, by go_num, by rw [HFT2.out], by rw [HFT2.out], Lib.hid (by rw [HFT2.out]; exact HCR.out), HBZ⟩
          · -- deleteT
            try simp only at hl hv1
            obtain ⟨long, vals⟩ := x
            simp only at hl hv1 f0 f1 HSV HFT HOX HVX
            subst hl
            have hv2 : vals = [] := List.eq_nil_of_length_eq_zero hv1
            subst hv2
            have HFT2 : Hid (foldC (its.take (k + 1)) = ⟨2, tg, C⟩) := HFT
            clear hs hv1
            unfold deleteT at f0
            go_wp2_with fail
            go_roundg g
            case measure => omega
            case rel => exact ⟨k + 1, by omega, by go_num, by rw [HFT2.out], by rw [HFT2.out], Lib.hid (by rw [HFT2.out]; exact HCR.out), HBZ⟩
          · -- restowT
            try simp only at hl hv1
            obtain ⟨long, vals⟩ := x
            simp only at hl hv1 f0 f1 HSV HFT HOX HVX
            subst hl
            have hv2 : vals = [] := List.eq_nil_of_length_eq_zero hv1
            subst hv2
            have HFT2 : Hid (foldC (its.take (k + 1)) = ⟨3, tg, C⟩) := HFT
            clear hs hv1
            unfold restowT at f0
            go_wp2_with fail
            go_roundg g
            case measure => omega
            case rel => exact ⟨k + 1, by omega, by go_num, by rw [HFT2.out], by rw [HFT2.out], Lib.hid (by rw [HFT2.out]; exact HCR.out), HBZ⟩
          · -- simT
            try simp only at hl hv1
            obtain ⟨long, vals⟩ := x
            simp only at hl hv1 f0 f1 HSV HFT HOX HVX
            subst hl
            have hv2 : vals = [] := List.eq_nil_of_length_eq_zero hv1
            subst hv2
            have HFT2 : Hid (foldC (its.take (k + 1)) = ⟨kd, tg, { C with sim := true }⟩) := HFT
            clear hs hv1
            unfold simT at f0
            have q0 := hfz 9
            go_wp2_with fail
            go_roundg g
            case measure => omega
            case rel => exact ⟨k + 1, by omega, by go_num, by rw [HFT2.out], by rw [HFT2.out], Lib.hid (by rw [HFT2.out]; exact cmd_store 9 _ HBK.out HRW.out rfl rfl rfl rfl rfl), Lib.hid (HBZ.out.setCell (p := ⟨z, 9, none⟩) (Nat.le_refl _) _)⟩
          · -- quietT
            try simp only at hl hv1
            obtain ⟨long, vals⟩ := x
            simp only at hl hv1 f0 f1 HSV HFT HOX HVX
            subst hl
            have hv2 : vals = [] := List.eq_nil_of_length_eq_zero hv1
            subst hv2
            have HFT2 : Hid (foldC (its.take (k + 1)) = ⟨kd, tg, { C with quiet := true }⟩) := HFT
            clear hs hv1
            unfold quietT at f0
            have q0 := hfz 10
            go_wp2_with fail
            go_roundg g
            case measure => omega
            case rel => exact ⟨k + 1, by omega, by go_num, by rw [HFT2.out], by rw [HFT2.out], Lib.hid (by rw [HFT2.out]; exact cmd_store 10 _ HBK.out HRW.out rfl rfl rfl rfl rfl), Lib.hid (HBZ.out.setCell (p := ⟨z, 10, none⟩) (Nat.le_refl _) _)⟩
          · -- adoptT
            try simp only at hl hv1
            obtain ⟨long, vals⟩ := x
            simp only at hl hv1 f0 f1 HSV HFT HOX HVX
            subst hl
            have hv2 : vals = [] := List.eq_nil_of_length_eq_zero hv1
            subst hv2
            have HFT2 : Hid (foldC (its.take (k + 1)) = ⟨kd, tg, { C with adopt := true }⟩) := HFT
            clear hs hv1
            unfold adoptT at f0
            have q0 := hfz 4
            go_wp2_with fail
            go_roundg g
            case measure => omega
            case rel => exact ⟨k + 1, by omega, by go_num, by rw [HFT2.out], by rw [HFT2.out], Lib.hid (by rw [HFT2.out]; exact cmd_store 4 _ HBK.out HRW.out rfl rfl rfl rfl rfl), Lib.hid (HBZ.out.setCell (p := ⟨z, 4, none⟩) (Nat.le_refl _) _)⟩
          · -- nofoldT
            try simp only at hl hv1
            obtain ⟨long, vals⟩ := x
            simp only at hl hv1 f0 f1 HSV HFT HOX HVX
            subst hl
            have hv2 : vals = [] := List.eq_nil_of_length_eq_zero hv1
            subst hv2
            have HFT2 : Hid (foldC (its.take (k + 1)) = ⟨kd, tg, { C with fold := false }⟩) := HFT
            clear hs hv1
            unfold nofoldT at f0
            have q0 := hfz 2
            go_wp2_with fail
            go_roundg g
            case measure => omega
            case rel => exact ⟨k + 1, by omega, by go_num, by rw [HFT2.out], by rw [HFT2.out], Lib.hid (by rw [HFT2.out]; exact cmd_store 2 _ HBK.out HRW.out rfl rfl rfl rfl rfl), Lib.hid (HBZ.out.setCell (p := ⟨z, 2, none⟩) (Nat.le_refl _) _)⟩
          · -- dotsT
            try simp only at hl hv1
            obtain ⟨long, vals⟩ := x
            simp only at hl hv1 f0 f1 HSV HFT HOX HVX
            subst hl
            have hv2 : vals = [] := List.eq_nil_of_length_eq_zero hv1
            subst hv2
            have HFT2 : Hid (foldC (its.take (k + 1)) = ⟨kd, tg, { C with dots := true }⟩) := HFT
            clear hs hv1
            unfold dotsT at f0
            have q0 := hfz 3
            go_wp2_with fail
            go_roundg g
            case measure => omega
            case rel => exact ⟨k + 1, by omega, by go_num, by rw [HFT2.out], by rw [HFT2.out], Lib.hid (by rw [HFT2.out]; exact cmd_store 3 _ HBK.out HRW.out rfl rfl rfl rfl rfl), Lib.hid (HBZ.out.setCell (p := ⟨z, 3, none⟩) (Nat.le_refl _) _)⟩
          · -- ignoreT
            try simp only at hl hv1
            obtain ⟨long, vals⟩ := x
            simp only at hl hv1 f0 f1 HSV HFT HOX HVX
            subst hl
            obtain ⟨v, rfl⟩ : ∃ v, vals = [v] := by
              match vals, hv1 with
              | [v], _ => exact ⟨v, rfl⟩
            obtain ⟨bv, ov, rfl, lv, ev⟩ := HSV.out.cells (k := 0) (by simp)
            have fv : wr.cell? ⟨bv, ov, none⟩ = some (.string (mk v)) := by
              rw [HBZ.out.cell (p := ⟨bv, ov, none⟩) (by have := HZ.out; show bv < _; omega)]
              exact ev 0 (by simp)
            have hbz : gb < z ∧ bv < z := by have := HZ.out; have := HLT.out; omega
            have HGZ := Lib.hid hbz
            clear ev lv hbz
            have HFT2 : Hid (foldC (its.take (k + 1)) = ⟨kd, tg, { C with ign := C.ign ++ [v] }⟩) := HFT
            clear hs hv1
            unfold ignoreT at f0
            have hlb : (C.ign.length + 1) * 16 ≤ 140737488355328 := by have := HSM.out.2.1; rw [List.length_take] at this; omega
            have hU : z + 1 ≤ wr.heap.size := (Array.getElem?_eq_some_iff.1 HBK.out).1
            have hzl : z < wr.heap.size := hU
            have HF1 := Lib.hid (And.intro f1 fv)
            have HAF : Hid (∀ w1, (wr.alloc (.cells #[.string (mk v)] 9)).drew.grownBy w1 (Value.ownBlock (.slice A1 C.ign.length q1)) → w1.heap[z]? = some (.cells (cmdC C (.slice A1 C.ign.length q1) (.slice A2 C.defr.length q2) (.slice A3 C.over.length q3) (.slice A4 C.deals.length q4)) 76) ∧ w1.cell? ⟨z, 5, none⟩ = some (.slice A1 C.ign.length q1) ∧ w1.frozen? ⟨z, 5, none⟩ = false ∧ w1.cell? ⟨gb, k * 2 + 1, none⟩ = some (.slice (some ⟨bv, ov, none⟩) 1 cv) ∧ w1.cell? ⟨bv, ov, none⟩ = some (.string (mk v)) ∧ Below z w2 w1 ∧ z < w1.heap.size) := Lib.hid (fun w1 g1 => by
              have hl := grown_low HRW.out.r1 (d1_below _ _) g1 hU
              have hb1 := (hl.block z (Nat.lt_succ_self z)).trans HBK.out
              refine ⟨hb1, by rw [blk_cell hb1]; rfl, blk_frozen hb1 5, ?_, ?_, HBZ.out.trans (hl.mono (Nat.le_succ z)), (Array.getElem?_eq_some_iff.1 hb1).1⟩
              · exact (hl.cell (p := ⟨gb, k * 2 + 1, none⟩) (Nat.lt_succ_of_lt HGZ.out.1)).trans HF1.out.1
              · exact (hl.cell (p := ⟨bv, ov, none⟩) (Nat.lt_succ_of_lt HGZ.out.2)).trans HF1.out.2)
            have hk1 : ∀ (W' : World) (j : Nat) (u : Value), (W'.setCell ⟨z, j, none⟩ u).cell? ⟨gb, k * 2 + 1, none⟩ = W'.cell? ⟨gb, k * 2 + 1, none⟩ := fun W' j u => by
              rw [World.cell?_setCell_other]
              intro h
              have h2 : z = gb := congrArg Addr.block h
              have := HGZ.out.1
              omega
            have hk2 : ∀ (W' : World) (j : Nat) (u : Value), (W'.setCell ⟨z, j, none⟩ u).cell? ⟨bv, ov, none⟩ = W'.cell? ⟨bv, ov, none⟩ := fun W' j u => by
              rw [World.cell?_setCell_other]
              intro h
              have h2 : z = bv := congrArg Addr.block h
              have := HGZ.out.2
              omega
            go_wp2_with fail
            go_region_law
              ((refine step_put_tx (W0 := wr) (z + 1) (by rfl) _ _ (by rfl) _ C.ign (by rfl) HRW.out.r1 (d1_below _ _) hU wr.heap.size (by rfl) v 9 (0, 0) (d1_new _ _) hlb ?_; intro g' cap w1 o1 g1 e1; obtain ⟨hb1, y5, y6, s1, s2, hz1, hz2⟩ := HAF.out w1 g1; have HB1 := Lib.hid (And.intro hb1 hz1); have O1 := Lib.hid (rows_put1 (W := (wr.alloc (.cells #[.string (mk v)] 9)).drew) (HRW.out.below (d1_below _ _)) v g1 e1 o1); clear hb1 hz1 o1 g1 e1))
            all_goals
              go_wp2_with fail
              go_roundg g
              case measure => omega
              case rel => exact ⟨k + 1, by omega, by go_num, by rw [HFT2.out], by rw [HFT2.out], Lib.hid (by rw [HFT2.out]; exact cmd_put1 _ _ v HB1.out.1 O1.out), Lib.hid (HB1.out.2.setCell (p := ⟨z, 5, none⟩) (Nat.le_refl _) _)⟩
          · -- deferT
            try simp only at hl hv1
            obtain ⟨long, vals⟩ := x
            simp only at hl hv1 f0 f1 HSV HFT HOX HVX
            subst hl
            obtain ⟨v, rfl⟩ : ∃ v, vals = [v] := by
              match vals, hv1 with
              | [v], _ => exact ⟨v, rfl⟩
            obtain ⟨bv, ov, rfl, lv, ev⟩ := HSV.out.cells (k := 0) (by simp)
            have fv : wr.cell? ⟨bv, ov, none⟩ = some (.string (mk v)) := by
              rw [HBZ.out.cell (p := ⟨bv, ov, none⟩) (by have := HZ.out; show bv < _; omega)]
              exact ev 0 (by simp)
            have hbz : gb < z ∧ bv < z := by have := HZ.out; have := HLT.out; omega
            have HGZ := Lib.hid hbz
            clear ev lv hbz
            have HFT2 : Hid (foldC (its.take (k + 1)) = ⟨kd, tg, { C with defr := C.defr ++ [v] }⟩) := HFT
            clear hs hv1
            unfold deferT at f0
            have hlb : (C.defr.length + 1) * 16 ≤ 140737488355328 := by have := HSM.out.2.2.1; rw [List.length_take] at this; omega
            have hU : z + 1 ≤ wr.heap.size := (Array.getElem?_eq_some_iff.1 HBK.out).1
            have hzl : z < wr.heap.size := hU
            have HF1 := Lib.hid (And.intro f1 fv)
            have HAF : Hid (∀ w1, (wr.alloc (.cells #[.string (mk v)] 9)).drew.grownBy w1 (Value.ownBlock (.slice A2 C.defr.length q2)) → w1.heap[z]? = some (.cells (cmdC C (.slice A1 C.ign.length q1) (.slice A2 C.defr.length q2) (.slice A3 C.over.length q3) (.slice A4 C.deals.length q4)) 76) ∧ w1.cell? ⟨z, 6, none⟩ = some (.slice A2 C.defr.length q2) ∧ w1.frozen? ⟨z, 6, none⟩ = false ∧ w1.cell? ⟨gb, k * 2 + 1, none⟩ = some (.slice (some ⟨bv, ov, none⟩) 1 cv) ∧ w1.cell? ⟨bv, ov, none⟩ = some (.string (mk v)) ∧ Below z w2 w1 ∧ z < w1.heap.size) := Lib.hid (fun w1 g1 => by
              have hl := grown_low HRW.out.r2 (d1_below _ _) g1 hU
              have hb1 := (hl.block z (Nat.lt_succ_self z)).trans HBK.out
              refine ⟨hb1, by rw [blk_cell hb1]; rfl, blk_frozen hb1 6, ?_, ?_, HBZ.out.trans (hl.mono (Nat.le_succ z)), (Array.getElem?_eq_some_iff.1 hb1).1⟩
              · exact (hl.cell (p := ⟨gb, k * 2 + 1, none⟩) (Nat.lt_succ_of_lt HGZ.out.1)).trans HF1.out.1
              · exact (hl.cell (p := ⟨bv, ov, none⟩) (Nat.lt_succ_of_lt HGZ.out.2)).trans HF1.out.2)
            have hk1 : ∀ (W' : World) (j : Nat) (u : Value), (W'.setCell ⟨z, j, none⟩ u).cell? ⟨gb, k * 2 + 1, none⟩ = W'.cell? ⟨gb, k * 2 + 1, none⟩ := fun W' j u => by
              rw [World.cell?_setCell_other]
              intro h
              have h2 : z = gb := congrArg Addr.block h
              have := HGZ.out.1
              omega
            have hk2 : ∀ (W' : World) (j : Nat) (u : Value), (W'.setCell ⟨z, j, none⟩ u).cell? ⟨bv, ov, none⟩ = W'.cell? ⟨bv, ov, none⟩ := fun W' j u => by
              rw [World.cell?_setCell_other]
              intro h
              have h2 : z = bv := congrArg Addr.block h
              have := HGZ.out.2
              omega
            go_wp2_with fail
            go_region_law
              ((refine step_put_tx (W0 := wr) (z + 1) (by rfl) _ _ (by rfl) _ C.defr (by rfl) HRW.out.r2 (d1_below _ _) hU wr.heap.size (by rfl) v 9 (0, 0) (d1_new _ _) hlb ?_; intro g' cap w1 o1 g1 e1; obtain ⟨hb1, y5, y6, s1, s2, hz1, hz2⟩ := HAF.out w1 g1; have HB1 := Lib.hid (And.intro hb1 hz1); have O1 := Lib.hid (rows_put2 (W := (wr.alloc (.cells #[.string (mk v)] 9)).drew) (HRW.out.below (d1_below _ _)) v g1 e1 o1); clear hb1 hz1 o1 g1 e1))
            all_goals
              go_wp2_with fail
              go_roundg g
              case measure => omega
              case rel => exact ⟨k + 1, by omega, by go_num, by rw [HFT2.out], by rw [HFT2.out], Lib.hid (by rw [HFT2.out]; exact cmd_put2 _ _ v HB1.out.1 O1.out), Lib.hid (HB1.out.2.setCell (p := ⟨z, 6, none⟩) (Nat.le_refl _) _)⟩
          · -- overT
            try simp only at hl hv1
            obtain ⟨long, vals⟩ := x
            simp only at hl hv1 f0 f1 HSV HFT HOX HVX
            subst hl
            obtain ⟨v, rfl⟩ : ∃ v, vals = [v] := by
              match vals, hv1 with
              | [v], _ => exact ⟨v, rfl⟩
            obtain ⟨bv, ov, rfl, lv, ev⟩ := HSV.out.cells (k := 0) (by simp)
            have fv : wr.cell? ⟨bv, ov, none⟩ = some (.string (mk v)) := by
              rw [HBZ.out.cell (p := ⟨bv, ov, none⟩) (by have := HZ.out; show bv < _; omega)]
              exact ev 0 (by simp)
            have hbz : gb < z ∧ bv < z := by have := HZ.out; have := HLT.out; omega
            have HGZ := Lib.hid hbz
            clear ev lv hbz
            have HFT2 : Hid (foldC (its.take (k + 1)) = ⟨kd, tg, { C with over := C.over ++ [v] }⟩) := HFT
            clear hs hv1
            unfold overT at f0
            have hlb : (C.over.length + 1) * 16 ≤ 140737488355328 := by have := HSM.out.2.2.2.1; rw [List.length_take] at this; omega
            have hU : z + 1 ≤ wr.heap.size := (Array.getElem?_eq_some_iff.1 HBK.out).1
            have hzl : z < wr.heap.size := hU
            have HF1 := Lib.hid (And.intro f1 fv)
            have HAF : Hid (∀ w1, (wr.alloc (.cells #[.string (mk v)] 9)).drew.grownBy w1 (Value.ownBlock (.slice A3 C.over.length q3)) → w1.heap[z]? = some (.cells (cmdC C (.slice A1 C.ign.length q1) (.slice A2 C.defr.length q2) (.slice A3 C.over.length q3) (.slice A4 C.deals.length q4)) 76) ∧ w1.cell? ⟨z, 7, none⟩ = some (.slice A3 C.over.length q3) ∧ w1.frozen? ⟨z, 7, none⟩ = false ∧ w1.cell? ⟨gb, k * 2 + 1, none⟩ = some (.slice (some ⟨bv, ov, none⟩) 1 cv) ∧ w1.cell? ⟨bv, ov, none⟩ = some (.string (mk v)) ∧ Below z w2 w1 ∧ z < w1.heap.size) := Lib.hid (fun w1 g1 => by
              have hl := grown_low HRW.out.r3 (d1_below _ _) g1 hU
              have hb1 := (hl.block z (Nat.lt_succ_self z)).trans HBK.out
              refine ⟨hb1, by rw [blk_cell hb1]; rfl, blk_frozen hb1 7, ?_, ?_, HBZ.out.trans (hl.mono (Nat.le_succ z)), (Array.getElem?_eq_some_iff.1 hb1).1⟩
              · exact (hl.cell (p := ⟨gb, k * 2 + 1, none⟩) (Nat.lt_succ_of_lt HGZ.out.1)).trans HF1.out.1
              · exact (hl.cell (p := ⟨bv, ov, none⟩) (Nat.lt_succ_of_lt HGZ.out.2)).trans HF1.out.2)
            have hk1 : ∀ (W' : World) (j : Nat) (u : Value), (W'.setCell ⟨z, j, none⟩ u).cell? ⟨gb, k * 2 + 1, none⟩ = W'.cell? ⟨gb, k * 2 + 1, none⟩ := fun W' j u => by
              rw [World.cell?_setCell_other]
              intro h
              have h2 : z = gb := congrArg Addr.block h
              have := HGZ.out.1
              omega
            have hk2 : ∀ (W' : World) (j : Nat) (u : Value), (W'.setCell ⟨z, j, none⟩ u).cell? ⟨bv, ov, none⟩ = W'.cell? ⟨bv, ov, none⟩ := fun W' j u => by
              rw [World.cell?_setCell_other]
              intro h
              have h2 : z = bv := congrArg Addr.block h
              have := HGZ.out.2
              omega
            go_wp2_with fail
            go_region_law
              ((refine step_put_tx (W0 := wr) (z + 1) (by rfl) _ _ (by rfl) _ C.over (by rfl) HRW.out.r3 (d1_below _ _) hU wr.heap.size (by rfl) v 9 (0, 0) (d1_new _ _) hlb ?_; intro g' cap w1 o1 g1 e1; obtain ⟨hb1, y5, y6, s1, s2, hz1, hz2⟩ := HAF.out w1 g1; have HB1 := Lib.hid (And.intro hb1 hz1); have O1 := Lib.hid (rows_put3 (W := (wr.alloc (.cells #[.string (mk v)] 9)).drew) (HRW.out.below (d1_below _ _)) v g1 e1 o1); clear hb1 hz1 o1 g1 e1))
            all_goals
              go_wp2_with fail
              go_roundg g
              case measure => omega
              case rel => exact ⟨k + 1, by omega, by go_num, by rw [HFT2.out], by rw [HFT2.out], Lib.hid (by rw [HFT2.out]; exact cmd_put3 _ _ v HB1.out.1 O1.out), Lib.hid (HB1.out.2.setCell (p := ⟨z, 7, none⟩) (Nat.le_refl _) _)⟩
end Go.Proofs.Ytmjggjccmbiheaa
