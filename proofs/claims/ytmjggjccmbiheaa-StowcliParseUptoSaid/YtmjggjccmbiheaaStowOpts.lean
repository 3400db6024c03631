/- stowcli.opts, step by step. -/
import Derived.Test.YtmjggjccmbiheaaStowDeals
namespace Go.Proofs.Ytmjggjccmbiheaa
open Go Go.RowKit Go.Proofs Go.Sort
attribute [local go_sem] mk_list mk_size mk_data

/-- Cells of a block of the call's own, as they lie behind calls that only make memory. -/
theorem cell_kept {w w' : World} (hb : Below w.heap.size w w') {B o : Nat} {v : Value} (h : w.cell? ⟨B, o, none⟩ = some v) : w'.cell? ⟨B, o, none⟩ = some v :=
  (hb.cell (p := ⟨B, o, none⟩) (World.block_lt_of_cell? _ _ h)).trans h

theorem results_cell1 {fn : Func} {p : Tmp} {ty : TypeId} (h : fn.results = #[.cell p ty]) (tmps : Array Value) (P : Program) (w : World) :
    (results fn tmps).run P w = ((asAddr (tmps.getD p undef)).run P w).andThen fun a w₁ => (loadVar ty a).run P w₁ := by
  simp only [results, h]
  simp [Sem.run_bind]
theorem results_cell_tmp2 {fn : Func} {p u u' : Tmp} {ty : TypeId} (h : fn.results = #[.cell p ty, .tmp u, .tmp u']) (tmps : Array Value) (P : Program) (w : World) :
    (results fn tmps).run P w =
      ((asAddr (tmps.getD p undef)).run P w).andThen fun a w₁ => ((loadVar ty a).run P w₁).andThen fun v w₂ => .ok (.tuple #[v, tmps.getD u undef, tmps.getD u' undef]) w₂ := by
  simp only [results, h]
  simp [Sem.run_bind, Result.andThen]
/-- Texts that lie in a block from U on. -/
def AboveAt (W : World) (U : Nat) (A : Option Addr) (xs : List Tx) : Prop :=
  xs = [] ∨ ∃ b off, A = some ⟨b, off, none⟩ ∧ b < W.heap.size ∧ U ≤ b ∧ ∀ (j : Nat) (h : j < xs.length), W.cell? ⟨b, off + j, none⟩ = some (.string (mk xs[j]))
theorem AboveAt.strs {W : World} {U : Nat} {A : Option Addr} {xs : List Tx} (h : AboveAt W U A xs) : StrsAt W A xs := by
  rcases h with h | ⟨b, off, h1, h2, _, h4⟩
  · exact .inl h
  · exact .inr ⟨b, off, h1, h2, h4⟩
theorem AboveAt.mono {W : World} {U U' : Nat} {A : Option Addr} {xs : List Tx} (h : AboveAt W U A xs) (hU : U' ≤ U) : AboveAt W U' A xs := by
  rcases h with h | ⟨b, off, h1, h2, h3, h4⟩
  · exact .inl h
  · exact .inr ⟨b, off, h1, h2, Nat.le_trans hU h3, h4⟩
theorem AboveAt.below {W W' : World} {U : Nat} {A : Option Addr} {xs : List Tx} (h : AboveAt W U A xs) (hb : Below W.heap.size W W') : AboveAt W' U A xs := by
  rcases h with h | ⟨b, off, h1, h2, h3, h4⟩
  · exact .inl h
  · exact .inr ⟨b, off, h1, Nat.lt_of_lt_of_le h2 hb.size, h3, fun j hj => (hb.cell (p := ⟨b, off + j, none⟩) h2).trans (h4 j hj)⟩
theorem AboveAt.keep {W W' : World} {U R : Nat} {A : Option Addr} {xs : List Tx} (h : AboveAt W U A xs) (hR : R < U) (k : Keep R none W W') : AboveAt W' U A xs := by
  rcases h with h | ⟨b, off, h1, h2, h3, h4⟩
  · exact .inl h
  · exact .inr ⟨b, off, h1, Nat.lt_of_lt_of_le h2 k.size, h3, fun j hj => (k.cell h2 (by omega) (by simp)).trans (h4 j hj)⟩
theorem own_above {w : World} {base n : Nat} {v : Value} {xs : List Tx} (h : w.ownsRow base 9 1 v n (xs.map fun x => .string (mk x))) : ∃ A c, v = .slice A xs.length c ∧ AboveAt w base A xs := by
  obtain ⟨A, c, rfl, h1, _, rfl⟩ := StrsAt.own h
  refine ⟨A, c, rfl, ?_⟩
  rcases h1 with h1 | ⟨b, off, rfl, h2, h3⟩
  · exact .inl h1
  · exact .inr ⟨b, off, rfl, h2, (h.lt b rfl).1, h3⟩
/-- How packages are stowed, as it lies. -/
def OptsAt (W : World) (U : Nat) (v : Value) (d t : Tx) (fo ds ad : Bool) (ig df ov : List Tx) : Prop :=
  ∃ A1 c1 A2 c2 A3 c3, v = .agg #[.string (mk d), .string (mk t), .bool fo, .bool ds, .bool ad, .slice A1 ig.length c1, .slice A2 df.length c2, .slice A3 ov.length c3] ∧ AboveAt W U A1 ig ∧ AboveAt W U A2 df ∧ AboveAt W U A3 ov

set_option maxRecDepth 100000 in
set_option maxHeartbeats 8000000 in
theorem stow_opts (A : Option Addr) (c : Nat) (its : List ItemT) (w : World) (h : ItemsAt w A its) (hl : its.length ≤ 100000000000) (ht : tv its ≤ 100000000000) (hv : ∀ x ∈ its, ∀ v ∈ x.vals, v.length ≤ 300000000) :
    Calls Try.prog 96 #[.slice A its.length c] w fun e w' => (∃ v, e = .returned v ∧ OptsAt w' w.heap.size v (cmdT its).dir (cmdT its).target (cmdT its).fold (cmdT its).dots (cmdT its).adopt (cmdT its).ign (cmdT its).defr (cmdT its).over) ∧ Below w.heap.size w w' := by
  have hd : (lastS its dirT [47]).length ≤ 1000000000 := by
    unfold lastS
    split
    · simp
    · rename_i v hv2
      have hm := List.mem_of_getLast? hv2
      unfold valuesS at hm
      obtain ⟨x, hx, hxv⟩ := List.mem_flatMap.1 hm
      have h1 := hv x (List.mem_filter.1 hx).1 v hxv
      rw [cleanS_eq, List.length_cons]
      have := joinS_le (pathP v); have := wt_pathP v; omega
  have hI := fun W (hb : Below w.heap.size w W) => h.below hb
  have HD := Lib.hid (fun W (hb : Below w.heap.size w W) => stow_last A c its dirT [47] W (hI W hb) hl ht (fun x hx v hv' => by have := hv x hx v hv'; omega))
  have HDI := Lib.hid (fun W => path_Dir (lastS its dirT [47]) W hd)
  have HT := Lib.hid (fun W (hb : Below w.heap.size w W) => stow_last A c its targetT (dirS (lastS its dirT [47])) W (hI W hb) hl ht (fun x hx v hv' => by have := hv x hx v hv'; omega))
  have HH := Lib.hid (fun l W (hb : Below w.heap.size w W) => args_Has A c its l W (hI W hb) hl)
  have HV := Lib.hid (fun l W (hb : Below w.heap.size w W) => args_Values A c its l W (hI W hb) hl ht)
  show Calls Try.prog 96 #[.slice A its.length c] w fun e w' => (∃ v, e = .returned v ∧ OptsAt w' w.heap.size v (lastS its dirT [47]) (lastS its targetT (dirS (lastS its dirT [47]))) (!hasS its nofoldT) (hasS its dotsT) (hasS its adoptT) (valuesS its ignoreT) (valuesS its deferT) (valuesS its overT)) ∧ Below w.heap.size w w'
  generalize lastS its targetT (dirS (lastS its dirT [47])) = tg at HT ⊢
  generalize dirS (lastS its dirT [47]) = dd at HT HDI
  generalize lastS its dirT [47] = dr at HD HDI ⊢
  obtain ⟨n, hn⟩ : ∃ n, its.length = n := ⟨_, rfl⟩
  rw [hn] at HD HT HH HV ⊢
  clear hn h hl ht hv hd hI
  obtain ⟨B, hB⟩ : ∃ B, w.heap.size = B := ⟨_, rfl⟩
  obtain ⟨w0, hw0⟩ : ∃ w0, w.alloc (.cells #[.string ⟨#[]⟩, .string ⟨#[]⟩, .bool false, .bool false, .bool false, .slice none 0 0, .slice none 0 0, .slice none 0 0] 70) = w0 := ⟨_, rfl⟩
  have HB0 : Hid (Below w.heap.size w w0) := Lib.hid (by rw [← hw0]; exact (Below.refl _ _).alloc (Nat.le_refl _) _)
  have HC : Hid ((∀ i, w0.cell? ⟨B, i, none⟩ = (#[.string ⟨#[]⟩, .string ⟨#[]⟩, .bool false, .bool false, .bool false, .slice none 0 0, .slice none 0 0, .slice none 0 0] : Array Value)[i]?) ∧ (∀ i, w0.frozen? ⟨B, i, none⟩ = false) ∧ B < w0.heap.size) := Lib.hid (by
    rw [← hw0, ← hB]
    exact ⟨fun i => cellA_new _ _ _ _, fun i => frozenA_new _ _ _ _, by simp⟩)
  have HBE := Lib.hid hB
  have k1 : (⟨#[100, 105, 114]⟩ : ByteArray) = mk dirT := rfl
  have k2 : (⟨#[47]⟩ : ByteArray) = mk [47] := rfl
  have k3 : (⟨#[116, 97, 114, 103, 101, 116]⟩ : ByteArray) = mk targetT := rfl
  have k4 : (⟨#[110, 111, 45, 102, 111, 108, 100, 105, 110, 103]⟩ : ByteArray) = mk nofoldT := rfl
  have k5 : (⟨#[100, 111, 116, 102, 105, 108, 101, 115]⟩ : ByteArray) = mk dotsT := rfl
  have k6 : (⟨#[97, 100, 111, 112, 116]⟩ : ByteArray) = mk adoptT := rfl
  have k7 : (⟨#[105, 103, 110, 111, 114, 101]⟩ : ByteArray) = mk ignoreT := rfl
  have k8 : (⟨#[100, 101, 102, 101, 114]⟩ : ByteArray) = mk deferT := rfl
  have k9 : (⟨#[111, 118, 101, 114, 114, 105, 100, 101]⟩ : ByteArray) = mk overT := rfl
  go_enter Try.func96, Try.ntmps96
  simp only [k1, k2, k3, k4, k5, k6, k7, k8, k9]
  clear k1 k2 k3 k4 k5 k6 k7 k8 k9
  go_wp2_with fail
  clear hw0 hB
  refine (HD.out w0 HB0.out).mono ?_
  rintro e w1 ⟨rfl, b1⟩
  have B1 := Lib.hid (below_then HB0.out HB0.out.size b1)
  have S1 := Lib.hid b1
  clear b1
  go_wp2_with fail
  refine (HDI.out w1).mono ?_
  rintro e w2 ⟨rfl, b2⟩
  have B2 := Lib.hid (ext_trans B1.out b2)
  have S2 := Lib.hid (ext_trans S1.out b2)
  clear b2
  go_wp2_with fail
  refine (HT.out w2 B2.out).mono ?_
  rintro e w3 ⟨rfl, b3⟩
  have B3 := Lib.hid (ext_trans B2.out b3)
  have S3 := Lib.hid (ext_trans S2.out b3)
  clear b3
  go_wp2_with fail
  refine (HH.out nofoldT w3 B3.out).mono ?_
  rintro e w4 ⟨rfl, b4⟩
  have B4 := Lib.hid (ext_trans B3.out b4)
  have S4 := Lib.hid (ext_trans S3.out b4)
  clear b4
  obtain ⟨h4, hh4⟩ : ∃ b, hasS its nofoldT = b := ⟨_, rfl⟩
  rw [hh4]
  have H4 := Lib.hid hh4
  clear hh4
  go_wp2_with fail
  refine (HH.out dotsT w4 B4.out).mono ?_
  rintro e w5 ⟨rfl, b5⟩
  have B5 := Lib.hid (ext_trans B4.out b5)
  have S5 := Lib.hid (ext_trans S4.out b5)
  clear b5
  go_wp2_with fail
  refine (HH.out adoptT w5 B5.out).mono ?_
  rintro e w6 ⟨rfl, b6⟩
  have B6 := Lib.hid (ext_trans B5.out b6)
  have S6 := Lib.hid (ext_trans S5.out b6)
  clear b6
  go_wp2_with fail
  refine (HV.out ignoreT w6 B6.out).mono ?_
  rintro e w7 ⟨v7, rfl, o7, b7⟩
  obtain ⟨a7, c7, rfl, y7⟩ := own_above o7
  have x7 := y7.mono (U' := B + 1) (Nat.lt_of_lt_of_le HC.out.2.2 S6.out.size)
  have B7 := Lib.hid (ext_trans B6.out b7)
  have S7 := Lib.hid (ext_trans S6.out b7)
  have X7 := Lib.hid x7
  clear b7 o7 x7 y7
  go_wp2_with fail
  refine (HV.out deferT w7 B7.out).mono ?_
  rintro e w8 ⟨v8, rfl, o8, b8⟩
  obtain ⟨a8, c8, rfl, y8⟩ := own_above o8
  have x8 := y8.mono (U' := B + 1) (Nat.lt_of_lt_of_le HC.out.2.2 S7.out.size)
  have B8 := Lib.hid (ext_trans B7.out b8)
  have S8 := Lib.hid (ext_trans S7.out b8)
  have X8 := Lib.hid (And.intro x8 (X7.out.below b8))
  clear b8 o8 x8 y8
  go_wp2_with fail
  refine (HV.out overT w8 B8.out).mono ?_
  rintro e w9 ⟨v9, rfl, o9, b9⟩
  obtain ⟨a9, c9, rfl, y9⟩ := own_above o9
  have x9 := y9.mono (U' := B + 1) (Nat.lt_of_lt_of_le HC.out.2.2 S8.out.size)
  have B9 := Lib.hid (ext_trans B8.out b9)
  have S9 := Lib.hid (ext_trans S8.out b9)
  have X9 := Lib.hid (And.intro x9 (And.intro (X8.out.1.below b9) (X8.out.2.below b9)))
  clear b9 o9 x9 y9
  have g := fun i => S9.out.cell (p := ⟨B, i, none⟩) HC.out.2.2
  have g0 : w9.cell? ⟨B, 0, none⟩ = some (.string ⟨#[]⟩) := by rw [g, HC.out.1]; rfl
  have g1 : w9.cell? ⟨B, 1, none⟩ = some (.string ⟨#[]⟩) := by rw [g, HC.out.1]; rfl
  have g2 : w9.cell? ⟨B, 2, none⟩ = some (.bool false) := by rw [g, HC.out.1]; rfl
  have g3 : w9.cell? ⟨B, 3, none⟩ = some (.bool false) := by rw [g, HC.out.1]; rfl
  have g4 : w9.cell? ⟨B, 4, none⟩ = some (.bool false) := by rw [g, HC.out.1]; rfl
  have g5 : w9.cell? ⟨B, 5, none⟩ = some (.slice none 0 0) := by rw [g, HC.out.1]; rfl
  have g6 : w9.cell? ⟨B, 6, none⟩ = some (.slice none 0 0) := by rw [g, HC.out.1]; rfl
  have g7 : w9.cell? ⟨B, 7, none⟩ = some (.slice none 0 0) := by rw [g, HC.out.1]; rfl
  have q := fun i => (S9.out.frozen (p := ⟨B, i, none⟩) HC.out.2.2).trans (HC.out.2.1 i)
  have q0 := q 0
  have q1 := q 1
  have q2 := q 2
  have q3 := q 3
  have q4 := q 4
  have q5 := q 5
  have q6 := q 6
  have q7 := q 7
  clear g q
  go_wp2_with fail
  refine bodyPost_ret (v := .agg #[.string (mk dr), .string (mk tg), .bool (!h4), .bool (hasS its dotsT), .bool (hasS its adoptT), .slice a7 (valuesS its ignoreT).length c7, .slice a8 (valuesS its deferT).length c8, .slice a9 (valuesS its overT).length c9]) ?_ rfl ⟨⟨_, rfl, ?_⟩, ?_⟩
  · rw [results_cell1 rfl]
    go_simp
  · have hk : ∀ W', Keep B none w9 W' → OptsAt W' w.heap.size (.agg #[.string (mk dr), .string (mk tg), .bool (!h4), .bool (hasS its dotsT), .bool (hasS its adoptT), .slice a7 (valuesS its ignoreT).length c7, .slice a8 (valuesS its deferT).length c8, .slice a9 (valuesS its overT).length c9]) dr tg (!hasS its nofoldT) (hasS its dotsT) (hasS its adoptT) (valuesS its ignoreT) (valuesS its deferT) (valuesS its overT) := fun W' hk =>
      ⟨a7, c7, a8, c8, a9, c9, by rw [H4.out], (X9.out.2.2.keep (Nat.lt_succ_self B) hk).mono (by have := HBE.out; omega), (X9.out.2.1.keep (Nat.lt_succ_self B) hk).mono (by have := HBE.out; omega), (X9.out.1.keep (Nat.lt_succ_self B) hk).mono (by have := HBE.out; omega)⟩
    refine hk _ ?_
    refine Keep.trans ?_ (Keep.setR _ _ _) (.inl rfl)
    refine Keep.trans ?_ (Keep.setR _ _ _) (.inl rfl)
    refine Keep.trans ?_ (Keep.setR _ _ _) (.inl rfl)
    refine Keep.trans ?_ (Keep.setR _ _ _) (.inl rfl)
    refine Keep.trans ?_ (Keep.setR _ _ _) (.inl rfl)
    refine Keep.trans ?_ (Keep.setR _ _ _) (.inl rfl)
    refine Keep.trans ?_ (Keep.setR _ _ _) (.inl rfl)
    exact Keep.setR _ _ _
  · have hB : w.heap.size ≤ B := Nat.le_of_eq HBE.out
    exact (((((((B9.out.setCell (p := ⟨B, 0, none⟩) hB _).setCell (p := ⟨B, 1, none⟩) hB _).setCell (p := ⟨B, 2, none⟩) hB _).setCell (p := ⟨B, 3, none⟩) hB _).setCell (p := ⟨B, 4, none⟩) hB _).setCell (p := ⟨B, 5, none⟩) hB _).setCell (p := ⟨B, 6, none⟩) hB _).setCell (p := ⟨B, 7, none⟩) hB _
end Go.Proofs.Ytmjggjccmbiheaa
