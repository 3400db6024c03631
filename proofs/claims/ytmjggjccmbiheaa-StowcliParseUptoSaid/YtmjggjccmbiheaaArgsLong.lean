/- args.reader.long, step by step. -/
import Derived.Test.YtmjggjccmbiheaaArgsPut
import Derived.Test.YtmjggjccmbiheaaArgsCut
import Derived.Test.YtmjggjccmbiheaaRelParts
namespace Go.Proofs.Ytmjggjccmbiheaa
open Go Go.RowKit Go.Proofs Go.Sort
attribute [local go_sem] mk_list mk_size mk_data

/-- What a reader's method needs of the memory. -/
structure Ready (W : World) (base R : Nat) (sa : Option Addr) (sc : Nat) (ss : List SpecT) (wa : Option Addr) (wc : Nat) (ws : List Tx) (k : Nat) (v : Value) (items : List ItemT) : Prop where
  st : RSt W base R (.slice sa ss.length sc) (.slice wa ws.length wc) k v items
  specs : SpecsAt W sa ss
  words : StrsAt W wa ws
  hk : k < ws.length
  hc : ws.length ≤ wc
  hws : ws.length ≤ 1000000000000
  hss : ss.length ≤ 1000000
theorem Ready.kept {W W' : World} {base R : Nat} {sa : Option Addr} {sc : Nat} {ss : List SpecT} {wa : Option Addr} {wc : Nat} {ws : List Tx} {k : Nat} {v : Value} {items : List ItemT} (h : Ready W base R sa sc ss wa wc ws k v items) (hb : Below W.heap.size W W') : Ready W' base R sa sc ss wa wc ws k v items :=
  ⟨h.st.kept hb, h.specs.below hb, h.words.below hb, h.hk, h.hc, h.hws, h.hss⟩
theorem Does.after {W W1 : World} {base R : Nat} {sv wv : Value} {k : Nat} {v : Value} {items : List ItemT} {res : Option (List ItemT × Nat)} {e : Ending} {W' : World} (hb : Below W.heap.size W W1) (h : Does base R sv wv k v items res W1 e W') : Does base R sv wv k v items res W e W' := by
  cases res with
  | none => exact ⟨h.1, (Keep.below hb).trans h.2 (.inl rfl)⟩
  | some r => obtain ⟨h1, v', h2, h3⟩ := h; exact ⟨h1, v', h2, (Grows.below hb).trans h3⟩

set_option maxRecDepth 100000 in
set_option maxHeartbeats 4000000 in
theorem args_long (t : Tx) (W : World) (base R : Nat) (sa : Option Addr) (sc : Nat) (ss : List SpecT) (wa : Option Addr) (wc : Nat) (ws : List Tx) (k : Nat) (v : Value) (items : List ItemT) (H : Ready W base R sa sc ss wa wc ws k v items) (ht : t.length ≤ 1000000000000) (hl : items.length ≤ 1000000000000) :
    Calls Try.prog 105 #[.pointer (some ⟨R, 0, none⟩), .string (mk t)] W (Does base R (.slice sa ss.length sc) (.slice wa ws.length wc) k v items (longS ss t (ws.drop (k + 1))) W) := by
  have hcut := strings_Cut_eq t W (by omega)
  have HLS : Hid (longS ss t (ws.drop (k + 1)) = match findS ss fun s => s.long == oneC 61 t with
    | none => none
    | some s => if t.contains 61 then (if s.needs == 1 then some ([⟨s.long, [afterC 61 t]⟩], 0) else none) else putS s (ws.drop (k + 1))) := Lib.hid rfl
  obtain ⟨r, hr⟩ : ∃ r, longS ss t (ws.drop (k + 1)) = r := ⟨_, rfl⟩
  rw [hr] at HLS ⊢
  obtain ⟨n, hn⟩ : ∃ n, oneC 61 t = n := ⟨_, rfl⟩
  obtain ⟨af, haf⟩ : ∃ af, afterC 61 t = af := ⟨_, rfl⟩
  obtain ⟨g, hg⟩ : ∃ g, t.contains 61 = g := ⟨_, rfl⟩
  rw [hn, haf, hg] at hcut
  rw [hn, haf, hg] at HLS
  clear hr hn haf hg
  obtain ⟨o, ho⟩ : ∃ o, (findS ss fun s => s.long == n) = o := ⟨_, rfl⟩
  rw [ho] at HLS
  have HO := Lib.hid ho
  have HH := Lib.hid H
  have HC := Lib.hid hcut
  have hk61 : (⟨#[61]⟩ : ByteArray) = mk [61] := rfl
  clear ho H hcut
  go_enter Try.func105, Try.ntmps105
  simp only [hk61]
  clear hk61
  go_wp2_with fail
  refine HC.out.mono ?_
  rintro e w1 ⟨rfl, hq⟩
  have HB1 := Lib.hid (below_alike hq)
  clear hq
  go_wp2_with fail
  obtain ⟨w2, hw2⟩ : ∃ w2, w1.alloc (.cells #[.string (mk n)] 9) = w2 := ⟨_, rfl⟩
  have HB2 : Hid (Below W.heap.size W w2 ∧ w2.cell? ⟨w1.heap.size, 0, none⟩ = some (.string (mk n)) ∧ w1.heap.size < w2.heap.size) := Lib.hid (by
    rw [← hw2]
    exact ⟨HB1.out.alloc HB1.out.size _, cellA_new _ _ _ 0, by simp⟩)
  rw [hw2]
  clear hw2
  obtain ⟨B, hB⟩ : ∃ B, w1.heap.size = B := ⟨_, rfl⟩
  rw [hB] at HB2 ⊢
  clear hB
  have HF := Lib.hid (args_find ss R sa sc 134 #[.pointer (some ⟨B, 0, none⟩)] (fun s => s.long == n) (enters_of Try.func134 (by kernel_rfl) rfl) w2 (HH.out.kept HB2.out.1).st.cells.1 (HH.out.kept HB2.out.1).specs HH.out.hss
    (fun s W' hb => args_long1 s B n W' (by rw [hb.cell (p := ⟨B, 0, none⟩) HB2.out.2.2]; exact HB2.out.2.1)))
  rw [HO.out] at HF
  refine HF.out.mono ?_
  rintro e w3 ⟨rfl, hb3⟩
  have HB3 := Lib.hid (below_then HB2.out.1 HB2.out.1.size hb3)
  clear hb3 HF
  unfold specV specC
  cases o with
  | none =>
    obtain rfl := HLS.out
    go_wp2_with fail
    go_ret
    exact ⟨rfl, Keep.below (HB3.out.alloc HB3.out.size _)⟩
  | some s =>
    obtain ⟨l, sh, nd⟩ := s
    simp only [Option.getD_some, Option.isSome_some] at HLS ⊢
    cases g
    · go_wp2_with fail
      obtain ⟨w4, hw4⟩ : ∃ w4, w3.alloc (.cells #[.string (mk l), .int .u8 sh.toNat, .int .i64 nd] 68) = w4 := ⟨_, rfl⟩
      have HB4 : Hid (Below W.heap.size W w4) := Lib.hid (by rw [← hw4]; exact HB3.out.alloc HB3.out.size _)
      rw [hw4]
      clear hw4
      have H4 := HH.out.kept HB4.out
      have HPU := args_put ⟨l, sh, nd⟩ w4 base R (.slice sa ss.length sc) wa wc ws k v items H4.st H4.words H4.hk H4.hc H4.hws hl
      have hrr : putS ⟨l, sh, nd⟩ (ws.drop (k + 1)) = r := by rw [HLS.out]; rfl
      rw [hrr] at HPU
      have HP := Lib.hid HPU
      clear HPU hrr H4
      unfold specV specC at HP
      cases r with
      | none =>
        refine HP.out.mono ?_
        rintro e w5 ⟨rfl, hk5⟩
        have HK := Lib.hid hk5
        clear hk5
        go_wp2_with fail
        go_ret
        exact ⟨rfl, (Keep.below HB4.out).trans HK.out (.inl rfl)⟩
      | some r =>
        obtain ⟨more, m⟩ := r
        refine HP.out.mono ?_
        rintro e w5 ⟨rfl, hk5⟩
        have HK := Lib.hid hk5
        clear hk5
        go_wp2_with fail
        go_ret
        obtain ⟨v', q1, q2⟩ := HK.out
        exact ⟨rfl, v', q1, (Grows.below HB4.out).trans q2⟩
    · cases hnd : (nd == 1)
      · have hnd2 : (nd != 1) = true := by rw [bne, hnd]; rfl
        have hr : Hid (r = none) := Lib.hid (by rw [HLS.out]; simp [hnd])
        obtain rfl := hr.out
        go_wp2_with fail
        go_ret
        exact ⟨rfl, Keep.below (HB3.out.alloc HB3.out.size _)⟩
      · have hnd2 : (nd != 1) = false := by rw [bne, hnd]; rfl
        have hr : Hid (r = some ([⟨l, [af]⟩], 0)) := Lib.hid (by rw [HLS.out]; simp [hnd])
        obtain rfl := hr.out
        go_wp2_with fail
        obtain ⟨w4, hw4⟩ : ∃ w4, w3.alloc (.cells #[.string (mk l), .int .u8 sh.toNat, .int .i64 nd] 68) = w4 := ⟨_, rfl⟩
        have HB4 : Hid (Below W.heap.size W w4) := Lib.hid (by rw [← hw4]; exact HB3.out.alloc HB3.out.size _)
        have h8 : w4.cell? ⟨w3.heap.size, 0, none⟩ = some (.string (mk l)) := by rw [← hw4]; exact cellA_new _ _ _ 0
        rw [hw4]
        clear hw4
        have H4 := Lib.hid (HH.out.kept HB4.out).st
        have HI := Lib.hid (item_new H4.out l af w4.drew (below_drewN (Below.refl _ _) 1) rfl)
        have hS0 : Has [(R, 3, v), (w3.heap.size, 0, .string (mk l))] w4.drew := by
          intro c hc
          simp only [List.mem_cons, List.not_mem_nil, or_false] at hc
          rcases hc with rfl | rfl
          · exact H4.out.cells.2.2.2.1
          · exact h8
        have hbase : base ≤ w4.heap.size := by have := H4.out.hb; have := H4.out.lt; omega
        have hitl : (items.length + 1) * 40 ≤ 140737488355328 := by omega
        have HNE : Hid (some R ≠ v.ownBlock ∧ some w3.heap.size ≠ v.ownBlock) := Lib.hid ⟨by obtain ⟨_, _, _, h3, _⟩ := H4.out.out; exact fun e => h3 e.symm, fun e => by have := (HH.out.st.out.own _ e.symm).2; have := HB3.out.size; omega⟩
        clear h8
        refine wp_region_sink (S := Has [(R, 3, v), (w3.heap.size, 0, .string (mk l))]) 14 (by kernel_rfl) ?_
        refine wpSink_take (i := 0) (v := .pointer (some ⟨R, 0, none⟩)) rfl (by kernel_rfl) (by kernel_rfl) (by kernel_rfl) (by kernel_rfl) (fun _ _ _ h => h) (Or.inl ⟨by kernel_rfl, ?_⟩) (by assumption) ?_
        · intro W' hSw
          go_simp
        simp only [List.getElem_toArray, List.getElem_cons_zero, Act.put, List.setIfInBounds_toArray, List.set_cons_zero, List.set_cons_succ]
        refine wpSink_take (i := 1) (v := .pointer (some ⟨R, 0, none⟩)) rfl (by kernel_rfl) (by kernel_rfl) (by kernel_rfl) (by kernel_rfl) (fun _ _ _ h => h) (Or.inl ⟨by kernel_rfl, ?_⟩) (by assumption) ?_
        · intro W' hSw
          go_simp
        simp only [List.getElem_toArray, List.getElem_cons_zero, List.getElem_cons_succ, Act.put, List.setIfInBounds_toArray, List.set_cons_zero, List.set_cons_succ]
        refine wpSink_take (i := 2) (v := .pointer (some ⟨R, 0, none⟩)) rfl (by kernel_rfl) (by kernel_rfl) (by kernel_rfl) (by kernel_rfl) (fun _ _ _ h => h) (Or.inl ⟨by kernel_rfl, ?_⟩) (by assumption) ?_
        · intro W' hSw
          go_simp
        simp only [List.getElem_toArray, List.getElem_cons_zero, List.getElem_cons_succ, Act.put, List.setIfInBounds_toArray, List.set_cons_zero, List.set_cons_succ]
        refine wpSink_take (i := 3) (v := .pointer (some ⟨R, 3, none⟩)) rfl (by kernel_rfl) (by kernel_rfl) (by kernel_rfl) (by kernel_rfl) (fun _ _ _ h => h) (Or.inl ⟨by kernel_rfl, ?_⟩) (by assumption) ?_
        · intro W' hSw
          go_simp
        simp only [List.getElem_toArray, List.getElem_cons_zero, List.getElem_cons_succ, Act.put, List.setIfInBounds_toArray, List.set_cons_zero, List.set_cons_succ]
        refine wpSink_take (i := 4) (v := v) rfl (by kernel_rfl) (by kernel_rfl) (by kernel_rfl) (by kernel_rfl) (fun _ _ _ h => h) (Or.inl ⟨by kernel_rfl, ?_⟩) (by assumption) ?_
        · intro W' hSw
          have e := hSw (R, 3, v) (by simp)
          simp only at e
          go_simp
        simp only [List.getElem_toArray, List.getElem_cons_zero, List.getElem_cons_succ, Act.put, List.setIfInBounds_toArray, List.set_cons_zero, List.set_cons_succ]
        refine wpSink_take (i := 5) (v := .pointer (some ⟨w3.heap.size, 0, none⟩)) rfl (by kernel_rfl) (by kernel_rfl) (by kernel_rfl) (by kernel_rfl) (fun _ _ _ h => h) (Or.inl ⟨by kernel_rfl, ?_⟩) (by assumption) ?_
        · intro W' hSw
          go_simp
        simp only [List.getElem_toArray, List.getElem_cons_zero, List.getElem_cons_succ, Act.put, List.setIfInBounds_toArray, List.set_cons_zero, List.set_cons_succ]
        refine wpSink_take (i := 6) (v := .string (mk l)) rfl (by kernel_rfl) (by kernel_rfl) (by kernel_rfl) (by kernel_rfl) (fun _ _ _ h => h) (Or.inl ⟨by kernel_rfl, ?_⟩) (by assumption) ?_
        · intro W' hSw
          have e := hSw (w3.heap.size, 0, .string (mk l)) (by simp)
          simp only at e
          go_simp
        simp only [List.getElem_toArray, List.getElem_cons_zero, List.getElem_cons_succ, Act.put, List.setIfInBounds_toArray, List.set_cons_zero, List.set_cons_succ]
        refine wpSink_take (i := 7) (v := .string (mk af)) rfl (by kernel_rfl) (by kernel_rfl) (by kernel_rfl) (by kernel_rfl) (fun _ _ _ h => h) (Or.inl ⟨by kernel_rfl, ?_⟩) (by assumption) ?_
        · intro W' hSw
          go_simp
        simp only [List.getElem_toArray, List.getElem_cons_zero, List.getElem_cons_succ, Act.put, List.setIfInBounds_toArray, List.set_cons_zero, List.set_cons_succ]
        refine wpSink_step (i := 8) (by kernel_rfl) rfl (fun K hK => ?_)
        simp only [List.getElem_toArray, List.getElem_cons_zero, List.getElem_cons_succ]
        go_simp
        have hS1 := hS0.alloc (.cells #[.string (mk af)] 9)
        refine hK.out _ _ (fun _ => hS1) ?_
        clear hK K hS0
        refine wpSink_take (i := 9) (v := .agg #[.string (mk l), .slice (some ⟨w4.heap.size, 0, none⟩) 1 1]) rfl (by kernel_rfl) (by kernel_rfl) (by kernel_rfl) (by kernel_rfl) (fun _ _ _ h => h) (Or.inl ⟨by kernel_rfl, ?_⟩) (by assumption) ?_
        · intro W' hSw
          go_simp
        simp only [List.getElem_toArray, List.getElem_cons_zero, List.getElem_cons_succ, Act.put, List.setIfInBounds_toArray, List.set_cons_zero, List.set_cons_succ]
        refine wpSink_step (i := 10) (by kernel_rfl) rfl (fun K hK => ?_)
        simp only [List.getElem_toArray, List.getElem_cons_zero, List.getElem_cons_succ]
        go_simp
        have hS2 := hS1.alloc (.cells #[.string (mk l), .slice (some ⟨w4.heap.size, 0, none⟩) 1 1] 108)
        refine hK.out _ _ (fun _ => hS2) ?_
        clear hK K hS1
        refine wpSink_step (i := 11) (by kernel_rfl) rfl (fun K hK => ?_)
        simp only [List.getElem_toArray, List.getElem_cons_zero, List.getElem_cons_succ]
        rw [if_pos (by kernel_rfl)]
        refine wp_append_item (W0 := w4) _ _ rfl base R v items rfl H4.out.out HI.out.2.1 hbase hitl (w4.heap.size + 1) rfl ⟨l, [af]⟩ (some ⟨w4.heap.size, 0, none⟩) 1 (0, 0) HI.out.1 HI.out.2.2.1 HI.out.2.2.2 (fun g cap w5 o1 g1 e1 => ?_)
        have HM := Lib.hid (H4.out.more HI.out.2.1 o1 g1 e1)
        obtain ⟨s1, s2⟩ := H4.out.at_store HI.out.2.1 g1
        have hS3 := hS2.grown g1 (by intro c hc; simp only [List.mem_cons, List.not_mem_nil, or_false] at hc; rcases hc with rfl | rfl <;> first | exact HNE.out.1 | exact HNE.out.2)
        refine hK.out _ _ (fun _ => hS3) ?_
        clear hK K hS2 o1 g1 e1
        refine wpSink_step (i := 12) (by kernel_rfl) rfl (fun K hK => ?_)
        simp only [List.getElem_toArray, List.getElem_cons_zero, List.getElem_cons_succ]
        go_simp
        refine hK.out _ _ (fun _ => hS3) ?_
        clear hK K
        refine wpSink_step (i := 13) (by kernel_rfl) rfl (fun K hK => ?_)
        simp only [List.getElem_toArray, List.getElem_cons_zero, List.getElem_cons_succ]
        go_simp
        refine hK.out _ _ (fun _ => hS3) ?_
        clear hK K
        refine wpSink_step (i := 14) (by kernel_rfl) rfl (fun K hK => ?_)
        simp only [List.getElem_toArray, List.getElem_cons_zero, List.getElem_cons_succ]
        go_simp
        refine hK.out _ _ (fun h => absurd rfl h) ?_
        clear hK K
        refine wpSink_done (by kernel_rfl) ?_ _
        clear s1 s2 hS3
        go_wp2_with fail
        go_ret
        obtain ⟨v', q1, q2⟩ := HM.out
        exact ⟨rfl, v', q1, (Grows.below HB4.out).trans q2⟩
end Go.Proofs.Ytmjggjccmbiheaa
