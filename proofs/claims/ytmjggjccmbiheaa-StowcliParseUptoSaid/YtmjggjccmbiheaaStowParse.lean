/- stowcli.Specs, stowcli.Parse, step by step. -/
import Derived.Test.YtmjggjccmbiheaaStowOpts
namespace Go.Proofs.Ytmjggjccmbiheaa
open Go Go.RowKit Go.Proofs Go.Sort
attribute [local go_sem] mk_list mk_size mk_data

theorem flat_at {α : Type} (f : α → List Value) (k : Nat) (hk : ∀ x, (f x).length = k) : ∀ (l : List α) (j : Nat) (h : j < l.length) (i : Nat) (v : Value), (f l[j])[i]? = some v → (l.flatMap f)[j * k + i]? = some v
  | [], j, h, _, _, _ => by simp at h
  | x :: l, 0, _, i, v, hv => by
    rw [List.flatMap_cons, Nat.zero_mul, Nat.zero_add, List.getElem?_append_left]
    · exact hv
    · exact (List.getElem?_eq_some_iff.1 hv).1
  | x :: l, j + 1, h, i, v, hv => by
    have ih := flat_at f k hk l j (by simpa using h) i v hv
    rw [List.flatMap_cons, List.getElem?_append_right (by rw [hk, Nat.succ_mul]; omega), hk, show (j + 1) * k + i - k = j * k + i by rw [Nat.succ_mul]; omega]
    exact ih

/-- Deals that lie in a block from U on. -/
def DealsAt (W : World) (U : Nat) (A : Option Addr) (ds : List DealT) : Prop :=
  ds = [] ∨ ∃ b off, A = some ⟨b, off, none⟩ ∧ b < W.heap.size ∧ U ≤ b ∧ ∀ (j : Nat) (h : j < ds.length), W.cell? ⟨b, off + j * 2, none⟩ = some (.int .i64 ds[j].1) ∧ W.cell? ⟨b, off + j * 2 + 1, none⟩ = some (.string (mk ds[j].2))
theorem DealsAt.mono {W : World} {U U' : Nat} {A : Option Addr} {xs : List DealT} (h : DealsAt W U A xs) (hU : U' ≤ U) : DealsAt W U' A xs := by
  rcases h with h | ⟨b, off, h1, h2, h3, h4⟩
  · exact .inl h
  · exact .inr ⟨b, off, h1, h2, Nat.le_trans hU h3, h4⟩
theorem DealsAt.below {W W' : World} {U : Nat} {A : Option Addr} {xs : List DealT} (h : DealsAt W U A xs) (hb : Below W.heap.size W W') : DealsAt W' U A xs := by
  rcases h with h | ⟨b, off, h1, h2, h3, h4⟩
  · exact .inl h
  · exact .inr ⟨b, off, h1, Nat.lt_of_lt_of_le h2 hb.size, h3, fun j hj => ⟨(hb.cell (p := ⟨b, off + j * 2, none⟩) h2).trans (h4 j hj).1, (hb.cell (p := ⟨b, off + j * 2 + 1, none⟩) h2).trans (h4 j hj).2⟩⟩
theorem DealsAt.keep {W W' : World} {U R : Nat} {A : Option Addr} {xs : List DealT} (h : DealsAt W U A xs) (hR : R < U) (k : Keep R none W W') : DealsAt W' U A xs := by
  rcases h with h | ⟨b, off, h1, h2, h3, h4⟩
  · exact .inl h
  · exact .inr ⟨b, off, h1, Nat.lt_of_lt_of_le h2 k.size, h3, fun j hj => ⟨(k.cell h2 (by omega) (by simp)).trans (h4 j hj).1, (k.cell h2 (by omega) (by simp)).trans (h4 j hj).2⟩⟩
theorem own_deals {w : World} {base n : Nat} {v : Value} {xs : List DealT} (h : w.ownsRow base 98 2 v n (xs.flatMap dealC)) (hn : n = xs.length) : ∃ A c, v = .slice A xs.length c ∧ DealsAt w base A xs ∧ xs.length ≤ c := by
  subst hn
  rcases h.2 with ⟨rfl, h0⟩ | ⟨g, cap, cur, rfl, hb, hg, hn, hm, hs, ht⟩
  · exact ⟨none, 0, by rw [h0], .inl (List.eq_nil_of_length_eq_zero h0), by omega⟩
  · refine ⟨_, cap, rfl, .inr ⟨g, 0, rfl, (Array.getElem?_eq_some_iff.1 hg).1, hb, fun j hj => ?_⟩, hn⟩
    have c1 := h.cells (g := g) rfl _ _ (flat_at dealC 2 (fun _ => rfl) xs j hj 0 _ rfl)
    have c2 := h.cells (g := g) rfl _ _ (flat_at dealC 2 (fun _ => rfl) xs j hj 1 _ rfl)
    have had : ∀ i, (⟨g, 0, none⟩ : Addr).add i = ⟨g, 0 + i, none⟩ := fun i => by unfold Addr.add; split <;> simp_all
    rw [had] at c1 c2
    exact ⟨c1, c2⟩

/-- All values are at most so long. -/
def valsLe (M : Nat) (l : List ItemT) : Prop := ∀ x ∈ l, ∀ v ∈ x.vals, v.length ≤ M
theorem putS_vals {M : Nat} {s : SpecT} {rest : List Tx} {is : List ItemT} {n : Nat} (hr : ∀ y ∈ rest, y.length ≤ M) (h : putS s rest = some (is, n)) : valsLe M is := by
  unfold putS at h
  split at h
  · simp only [Option.some.injEq, Prod.mk.injEq] at h
    obtain ⟨rfl, rfl⟩ := h
    intro x hx v hv
    rw [List.mem_singleton.1 hx] at hv
    exact hr v (List.mem_of_mem_take hv)
  · cases h
theorem one_vals {M : Nat} {l v : Tx} (h : v.length ≤ M) : valsLe M [⟨l, [v]⟩] := fun x hx u hu => by
  rw [List.mem_singleton.1 hx] at hu
  rw [List.mem_singleton.1 hu]; exact h
theorem longS_vals {M : Nat} {ss : List SpecT} {w : Tx} {rest : List Tx} {is : List ItemT} {n : Nat} (hw : w.length ≤ M) (hr : ∀ y ∈ rest, y.length ≤ M) (h : longS ss w rest = some (is, n)) : valsLe M is := by
  unfold longS at h
  split at h
  · cases h
  · split at h
    · split at h
      · simp only [Option.some.injEq, Prod.mk.injEq] at h
        obtain ⟨rfl, rfl⟩ := h
        exact one_vals (by unfold afterC; rw [List.length_drop]; omega)
      · cases h
    · exact putS_vals hr h
theorem shortS_vals {M : Nat} {ss : List SpecT} : ∀ {w : Tx} {rest : List Tx} {is : List ItemT} {n : Nat}, w.length ≤ M → (∀ y ∈ rest, y.length ≤ M) → shortS ss w rest = some (is, n) → valsLe M is
  | [], rest, is, n, _, _, h => by
    unfold shortS at h
    simp only [Option.some.injEq, Prod.mk.injEq] at h
    obtain ⟨rfl, rfl⟩ := h
    intro x hx; cases hx
  | c :: w, rest, is, n, hw, hr, h => by
    have hw2 : w.length ≤ M := by rw [List.length_cons] at hw; omega
    unfold shortS at h
    split at h
    · cases h
    · split at h
      · cases h
      · split at h
        · simp only [Option.some.injEq, Prod.mk.injEq] at h
          obtain ⟨rfl, rfl⟩ := h
          exact one_vals hw2
        · split at h
          · cases h
          · rename_i i n1 hp
            split at h
            · cases h
            · rename_i is2 m h3
              simp only [Option.some.injEq, Prod.mk.injEq] at h
              obtain ⟨rfl, rfl⟩ := h
              intro x hx
              rcases List.mem_append.1 hx with hx | hx
              · exact putS_vals hr hp x hx
              · exact shortS_vals hw2 (fun y hy => hr y (List.mem_of_mem_drop hy)) h3 x hx
theorem wordS_vals {M : Nat} {ss : List SpecT} {w : Tx} {rest : List Tx} {is : List ItemT} {n : Nat} (hw : w.length ≤ M) (hr : ∀ y ∈ rest, y.length ≤ M) (h : wordS ss w rest = some (is, n)) : valsLe M is := by
  unfold wordS at h
  split at h
  · exact longS_vals (by rw [List.length_drop]; omega) hr h
  · split at h
    · exact shortS_vals (by rw [List.length_drop]; omega) hr h
    · simp only [Option.some.injEq, Prod.mk.injEq] at h
      obtain ⟨rfl, rfl⟩ := h
      exact one_vals hw
theorem goS_vals {M : Nat} {ss : List SpecT} : ∀ (f : Nat) (ws : List Tx) (k : Nat) (acc l : List ItemT), valsLe M acc → (∀ y ∈ ws, y.length ≤ M) → goS ss f ws k acc = .inl l → valsLe M l
  | 0, ws, k, acc, l, ha, _, h => by unfold goS at h; cases h; exact ha
  | f + 1, [], k, acc, l, ha, _, h => by unfold goS at h; cases h; exact ha
  | f + 1, w :: ws, k, acc, l, ha, hr, h => by
    have hr2 : ∀ y ∈ ws, y.length ≤ M := fun y hy => hr y (List.mem_cons_of_mem _ hy)
    unfold goS at h
    split at h
    · cases h
      intro x hx
      rcases List.mem_append.1 hx with hx | hx
      · exact ha x hx
      · obtain ⟨y, hy, rfl⟩ := List.mem_map.1 hx
        exact fun v hv => by rw [List.mem_singleton.1 hv]; exact hr2 y hy
    · split at h
      · cases h
      · rename_i is n hw
        refine goS_vals f _ _ _ _ (fun x hx => ?_) (fun y hy => hr2 y (List.mem_of_mem_drop hy)) h
        rcases List.mem_append.1 hx with hx | hx
        · exact ha x hx
        · exact wordS_vals (hr w (by simp)) hr2 hw x hx
theorem mem_wt : ∀ (ws : List Tx) (y : Tx), y ∈ ws → y.length ≤ wt ws
  | x :: l, y, h => by
    rw [wt_cons]
    rcases List.mem_cons.1 h with rfl | h
    · omega
    · have := mem_wt l y h; omega
/-- What is known of stow's items. -/
theorem stow_items {ws : List Tx} {l : List ItemT} (h : parseS stowL ws = .inl l) : l.length ≤ wt ws ∧ tv l ≤ wt ws ∧ valsLe (wt ws) l ∧ ∀ x ∈ l, x.long.length ≤ 1000 ∧ (x.long = [] → x.vals.length = 1) := by
  have h1 := goS_inl _ _ _ _ _ h
  rw [tv_nil, List.length_nil, Nat.zero_add] at h1
  refine ⟨h1.1, h1.2, goS_vals _ _ _ _ _ (by intro x hx; cases hx) (mem_wt ws) h, fun x hx => ?_⟩
  rcases parseS_ok h x hx with ⟨h2, h3⟩ | ⟨s, hs, h2, h3, h4⟩
  · exact ⟨by rw [h2]; simp, fun _ => h3⟩
  · refine ⟨?_, fun e => absurd (h2.symm.trans e) h3⟩
    rw [h2]
    have hall : ∀ s ∈ stowL, s.long.length ≤ 1000 := by decide
    exact hall s hs

set_option maxRecDepth 100000 in
set_option maxHeartbeats 2000000 in
theorem stow_Specs (w : World) : Calls Try.prog 63 #[] w fun e w' => (∃ A c, e = .returned (.slice A stowL.length c) ∧ SpecsAt w' A stowL) ∧ Below w.heap.size w w' := by
  go_enter Try.func63, Try.ntmps63
  go_wp2_with fail
  go_ret
  refine ⟨⟨_, _, rfl, .inr ⟨w.heap.size, 0, rfl, by simp, fun j hj i v hv => ?_⟩⟩, (Below.refl _ _).alloc (Nat.le_refl _) _⟩
  rw [Nat.zero_add, cellA_new]
  have h1 := flat_at specC 3 (fun _ => rfl) stowL j hj i v hv
  rw [List.getElem?_toArray]
  refine Eq.trans (congrArg (fun l : List Value => l[j * 3 + i]?) ?_) h1
  rfl

def zeroCmd : Value := .agg #[.string ⟨#[]⟩, .string ⟨#[]⟩, .bool false, .bool false, .bool false, .slice none 0 0, .slice none 0 0, .slice none 0 0, .slice none 0 0, .bool false, .bool false]
/-- What stow is to do, as it lies. -/
def CmdAt (W : World) (U : Nat) (v : Value) (c : CmdT) : Prop :=
  ∃ A1 c1 A2 c2 A3 c3 D dc, v = .agg #[.string (mk c.dir), .string (mk c.target), .bool c.fold, .bool c.dots, .bool c.adopt, .slice A1 c.ign.length c1, .slice A2 c.defr.length c2, .slice A3 c.over.length c3, .slice D c.deals.length dc, .bool c.sim, .bool c.quiet] ∧
    AboveAt W U A1 c.ign ∧ AboveAt W U A2 c.defr ∧ AboveAt W U A3 c.over ∧ DealsAt W U D c.deals
def StowsTo (res : Sum CmdT Nat) (w : World) (e : Ending) (w' : World) : Prop :=
  match res with
  | .inl c => (∃ v, e = .returned (.tuple #[v, .int .i64 (-1), .int .i64 0]) ∧ CmdAt w' w.heap.size v c) ∧ Below w.heap.size w w'
  | .inr k => e = .returned (.tuple #[zeroCmd, .int .i64 k, .int .i64 19]) ∧ Below w.heap.size w w'
set_option maxRecDepth 100000 in
set_option maxHeartbeats 8000000 in
theorem stow_Parse (wa : Option Addr) (wc : Nat) (ws : List Tx) (w : World) (hw : StrsAt w wa ws) (hc : ws.length ≤ wc) (hwt : wt ws ≤ 300000000) :
    Calls Try.prog 65 #[.slice wa ws.length wc] w (StowsTo (stowS ws) w) := by
  have HP := Lib.hid (fun A c W (hb : Below w.heap.size w W) (hs : SpecsAt W A stowL) => args_Parse A c stowL wa wc ws W hs (hw.below hb) (by decide) hc (by omega))
  obtain ⟨n, hn⟩ : ∃ n, ws.length = n := ⟨_, rfl⟩
  have HN := Lib.hid hn
  rw [hn] at HP ⊢
  have HSS : Hid (stowS ws = match parseS stowL ws with
    | .inr k => .inr k
    | .inl l => if (dealsT l).isEmpty then .inr ws.length else .inl (cmdT l)) := Lib.hid rfl
  obtain ⟨P, hP⟩ : ∃ P, parseS stowL ws = P := ⟨_, rfl⟩
  rw [hP] at HP HSS
  have HPS := Lib.hid hP
  obtain ⟨S, hS⟩ : ∃ S, stowS ws = S := ⟨_, rfl⟩
  rw [hS] at HSS ⊢
  obtain ⟨B, hB⟩ : ∃ B, w.heap.size = B := ⟨_, rfl⟩
  obtain ⟨w0, hw0⟩ : ∃ w0, w.alloc (.cells #[.string ⟨#[]⟩, .string ⟨#[]⟩, .bool false, .bool false, .bool false, .slice none 0 0, .slice none 0 0, .slice none 0 0, .slice none 0 0, .bool false, .bool false] 73) = w0 := ⟨_, rfl⟩
  have HB0 : Hid (Below w.heap.size w w0) := Lib.hid (by rw [← hw0]; exact (Below.refl _ _).alloc (Nat.le_refl _) _)
  have HC : Hid ((∀ i, w0.cell? ⟨B, i, none⟩ = (#[.string ⟨#[]⟩, .string ⟨#[]⟩, .bool false, .bool false, .bool false, .slice none 0 0, .slice none 0 0, .slice none 0 0, .slice none 0 0, .bool false, .bool false] : Array Value)[i]?) ∧ (∀ i, w0.frozen? ⟨B, i, none⟩ = false) ∧ B < w0.heap.size) := Lib.hid (by
    rw [← hw0, ← hB]
    exact ⟨fun i => cellA_new _ _ _ _, fun i => frozenA_new _ _ _ _, by simp⟩)
  have HBE := Lib.hid hB
  clear hP hn hw hS
  go_enter Try.func65, Try.ntmps65
  go_wp2_with fail
  clear hw0 hB
  refine (stow_Specs w0).mono ?_
  rintro e w1 ⟨⟨A, c, rfl, hs⟩, b1⟩
  have B1 := Lib.hid (below_then HB0.out HB0.out.size b1)
  have S1 := Lib.hid b1
  have HPP := Lib.hid (HP.out A c w1 B1.out hs)
  clear b1 hs HP
  go_wp2_with fail
  refine HPP.out.mono ?_
  rintro e w2 hpt
  cases P with
  | inr k =>
    obtain ⟨rfl, b2⟩ := hpt
    have B2 := Lib.hid (ext_trans B1.out b2)
    have S2 := Lib.hid (ext_trans S1.out b2)
    clear b2 HPP
    have HS := Lib.hid HSS.out
    obtain rfl := HS.out
    have g := fun i => S2.out.cell (p := ⟨B, i, none⟩) HC.out.2.2
    have g0 : w2.cell? ⟨B, 0, none⟩ = some (.string ⟨#[]⟩) := by rw [g, HC.out.1]; rfl
    have g1 : w2.cell? ⟨B, 1, none⟩ = some (.string ⟨#[]⟩) := by rw [g, HC.out.1]; rfl
    have g2 : w2.cell? ⟨B, 2, none⟩ = some (.bool false) := by rw [g, HC.out.1]; rfl
    have g3 : w2.cell? ⟨B, 3, none⟩ = some (.bool false) := by rw [g, HC.out.1]; rfl
    have g4 : w2.cell? ⟨B, 4, none⟩ = some (.bool false) := by rw [g, HC.out.1]; rfl
    have g5 : w2.cell? ⟨B, 5, none⟩ = some (.slice none 0 0) := by rw [g, HC.out.1]; rfl
    have g6 : w2.cell? ⟨B, 6, none⟩ = some (.slice none 0 0) := by rw [g, HC.out.1]; rfl
    have g7 : w2.cell? ⟨B, 7, none⟩ = some (.slice none 0 0) := by rw [g, HC.out.1]; rfl
    have g8 : w2.cell? ⟨B, 8, none⟩ = some (.slice none 0 0) := by rw [g, HC.out.1]; rfl
    have g9 : w2.cell? ⟨B, 9, none⟩ = some (.bool false) := by rw [g, HC.out.1]; rfl
    have g10 : w2.cell? ⟨B, 10, none⟩ = some (.bool false) := by rw [g, HC.out.1]; rfl
    have q := fun i => (S2.out.frozen (p := ⟨B, i, none⟩) HC.out.2.2).trans (HC.out.2.1 i)
    have f0 := q 0
    have f1 := q 1
    have f2 := q 2
    have f3 := q 3
    have f4 := q 4
    have f5 := q 5
    have f6 := q 6
    have f7 := q 7
    have f8 := q 8
    have f9 := q 9
    have f10 := q 10
    clear g q
    go_wp2_with fail
    refine bodyPost_ret (v := .tuple #[zeroCmd, .int .i64 k, .int .i64 19]) ?_ rfl ⟨rfl, ?_⟩
    · unfold zeroCmd
      rw [results_cell_tmp2 rfl]
      go_simp
    · have hB : w.heap.size ≤ B := Nat.le_of_eq HBE.out
      exact (((((((((((B2.out.setCell (p := ⟨B, 0, none⟩) hB _).setCell (p := ⟨B, 1, none⟩) hB _).setCell (p := ⟨B, 2, none⟩) hB _).setCell (p := ⟨B, 3, none⟩) hB _).setCell (p := ⟨B, 4, none⟩) hB _).setCell (p := ⟨B, 5, none⟩) hB _).setCell (p := ⟨B, 6, none⟩) hB _).setCell (p := ⟨B, 7, none⟩) hB _).setCell (p := ⟨B, 8, none⟩) hB _).setCell (p := ⟨B, 9, none⟩) hB _).setCell (p := ⟨B, 10, none⟩) hB _)
  | inl its =>
    obtain ⟨⟨A2, c2, rfl, hi, _⟩, b2⟩ := hpt
    obtain ⟨q1, q2, q3, q4⟩ := stow_items HPS.out
    have HI := Lib.hid hi
    have B2 := Lib.hid (ext_trans B1.out b2)
    have S2 := Lib.hid (ext_trans S1.out b2)
    have HOP := Lib.hid (stow_opts A2 c2 its w2 HI.out (by omega) (by omega) (fun x hx v hv => by have := q3 x hx v hv; omega))
    have HDL := Lib.hid (fun W (hb : Below w2.heap.size w2 W) => stow_deals A2 c2 its W (HI.out.below hb) (by omega) q4)
    have HHS := Lib.hid (fun l W (hb : Below w2.heap.size w2 W) => args_Has A2 c2 its l W (HI.out.below hb) (by omega))
    go_wp2_with fail
    refine HOP.out.mono ?_
    rintro e w3 ⟨⟨v3, rfl, ho3⟩, b3⟩
    have B3 := Lib.hid (And.intro (ext_trans B2.out b3) b3)
    obtain ⟨A3, c3, A4, c4, A5, c5, rfl, x1, x2, x3⟩ := ho3
    have O3 := Lib.hid (And.intro x1 (And.intro x2 x3))
    clear b3 x1 x2 x3
    go_wp2_with fail
    refine (HDL.out w3 B3.out.2).mono ?_
    rintro e w4 ⟨v4, rfl, ho4, b4⟩
    have B4 := Lib.hid (And.intro (ext_trans B3.out.1 b4) (ext_trans B3.out.2 b4))
    obtain ⟨DA, dc, rfl, hd4, _⟩ := own_deals ho4 rfl
    have O4 := Lib.hid (And.intro (And.intro (O3.out.1.below b4) (And.intro (O3.out.2.1.below b4) (O3.out.2.2.below b4))) hd4)
    clear b4 ho4 hd4
    go_wp2_with fail
    refine (HHS.out simT w4 B4.out.2).mono ?_
    rintro e w5 ⟨rfl, b5⟩
    have B5 := Lib.hid (And.intro (ext_trans B4.out.1 b5) (ext_trans B4.out.2 b5))
    have O5 := Lib.hid (And.intro (And.intro (O4.out.1.1.below b5) (And.intro (O4.out.1.2.1.below b5) (O4.out.1.2.2.below b5))) (O4.out.2.below b5))
    clear b5
    go_wp2_with fail
    refine (HHS.out quietT w5 B5.out.2).mono ?_
    rintro e w6 ⟨rfl, b6⟩
    have B6 := Lib.hid (And.intro (ext_trans B5.out.1 b6) (ext_trans B5.out.2 b6))
    have S6 := Lib.hid (below_then S2.out S2.out.size B6.out.2)
    have O6 := Lib.hid (And.intro (And.intro (O5.out.1.1.below b6) (And.intro (O5.out.1.2.1.below b6) (O5.out.1.2.2.below b6))) (O5.out.2.below b6))
    clear b6
    have g := fun i => S6.out.cell (p := ⟨B, i, none⟩) HC.out.2.2
    have g0 : w6.cell? ⟨B, 0, none⟩ = some (.string ⟨#[]⟩) := by rw [g, HC.out.1]; rfl
    have g1 : w6.cell? ⟨B, 1, none⟩ = some (.string ⟨#[]⟩) := by rw [g, HC.out.1]; rfl
    have g2 : w6.cell? ⟨B, 2, none⟩ = some (.bool false) := by rw [g, HC.out.1]; rfl
    have g3 : w6.cell? ⟨B, 3, none⟩ = some (.bool false) := by rw [g, HC.out.1]; rfl
    have g4 : w6.cell? ⟨B, 4, none⟩ = some (.bool false) := by rw [g, HC.out.1]; rfl
    have g5 : w6.cell? ⟨B, 5, none⟩ = some (.slice none 0 0) := by rw [g, HC.out.1]; rfl
    have g6 : w6.cell? ⟨B, 6, none⟩ = some (.slice none 0 0) := by rw [g, HC.out.1]; rfl
    have g7 : w6.cell? ⟨B, 7, none⟩ = some (.slice none 0 0) := by rw [g, HC.out.1]; rfl
    have g8 : w6.cell? ⟨B, 8, none⟩ = some (.slice none 0 0) := by rw [g, HC.out.1]; rfl
    have g9 : w6.cell? ⟨B, 9, none⟩ = some (.bool false) := by rw [g, HC.out.1]; rfl
    have g10 : w6.cell? ⟨B, 10, none⟩ = some (.bool false) := by rw [g, HC.out.1]; rfl
    have q := fun i => (S6.out.frozen (p := ⟨B, i, none⟩) HC.out.2.2).trans (HC.out.2.1 i)
    have f0 := q 0
    have f1 := q 1
    have f2 := q 2
    have f3 := q 3
    have f4 := q 4
    have f5 := q 5
    have f6 := q 6
    have f7 := q 7
    have f8 := q 8
    have f9 := q 9
    have f10 := q 10
    clear g q
    have hBlt : B < w6.heap.size := Nat.lt_of_lt_of_le HC.out.2.2 S6.out.size
    have hU : B + 1 ≤ w2.heap.size := Nat.lt_of_lt_of_le HC.out.2.2 S2.out.size
    have O7 := Lib.hid (And.intro (And.intro (O6.out.1.1.mono hU) (And.intro (O6.out.1.2.1.mono hU) (O6.out.1.2.2.mono hU))) (O6.out.2.mono (Nat.le_trans hU B3.out.2.size)))
    clear hU
    have HS := Lib.hid HSS.out
    obtain ⟨m, hm⟩ : ∃ m, (dealsT its).length = m := ⟨_, rfl⟩
    have HM := Lib.hid hm
    rw [hm]
    clear hm
    cases m with
    | zero =>
      have HE : Hid (S = .inr n) := Lib.hid (by rw [HS.out, List.eq_nil_of_length_eq_zero HM.out, HN.out]; rfl)
      obtain rfl := HE.out
      go_wp2_with fail
      refine bodyPost_ret (v := .tuple #[zeroCmd, .int .i64 n, .int .i64 19]) ?_ rfl ⟨rfl, ?_⟩
      · unfold zeroCmd
        rw [results_cell_tmp2 rfl]
        go_simp
      · have hB : w.heap.size ≤ B := Nat.le_of_eq HBE.out
        exact (((((((((((B6.out.1.setCell (p := ⟨B, 0, none⟩) hB _).setCell (p := ⟨B, 1, none⟩) hB _).setCell (p := ⟨B, 2, none⟩) hB _).setCell (p := ⟨B, 3, none⟩) hB _).setCell (p := ⟨B, 4, none⟩) hB _).setCell (p := ⟨B, 5, none⟩) hB _).setCell (p := ⟨B, 6, none⟩) hB _).setCell (p := ⟨B, 7, none⟩) hB _).setCell (p := ⟨B, 8, none⟩) hB _).setCell (p := ⟨B, 9, none⟩) hB _).setCell (p := ⟨B, 10, none⟩) hB _).alloc (by have := B6.out.1.size; simp only [World.size_setCell]; omega) _
    | succ m =>
      have HE : Hid (S = .inl (cmdT its)) := Lib.hid (by
        rw [HS.out, if_neg]
        intro h; have := HM.out; rw [List.isEmpty_iff.1 h] at this; simp at this)
      obtain rfl := HE.out
      go_wp2_with fail
      refine bodyPost_ret (v := .tuple #[.agg #[.string (mk (cmdT its).dir), .string (mk (cmdT its).target), .bool (cmdT its).fold, .bool (cmdT its).dots, .bool (cmdT its).adopt, .slice A3 (cmdT its).ign.length c3, .slice A4 (cmdT its).defr.length c4, .slice A5 (cmdT its).over.length c5, .slice DA (m + 1) dc, .bool (hasS its simT), .bool (hasS its quietT)], .int .i64 (-1), .int .i64 0]) ?_ rfl ⟨⟨_, rfl, ?_⟩, ?_⟩
      · rw [results_cell_tmp2 rfl]
        go_simp
      · have hk : ∀ W7 W8, Keep B none w6 W7 → Below W7.heap.size W7 W8 → CmdAt W8 w.heap.size (.agg #[.string (mk (cmdT its).dir), .string (mk (cmdT its).target), .bool (cmdT its).fold, .bool (cmdT its).dots, .bool (cmdT its).adopt, .slice A3 (cmdT its).ign.length c3, .slice A4 (cmdT its).defr.length c4, .slice A5 (cmdT its).over.length c5, .slice DA (m + 1) dc, .bool (hasS its simT), .bool (hasS its quietT)]) (cmdT its) := fun W7 W8 h7 h8 => by
          have hwB : w.heap.size ≤ B + 1 := by have := HBE.out; omega
          refine ⟨A3, c3, A4, c4, A5, c5, DA, dc, by rw [← HM.out]; rfl, ((O7.out.1.1.keep (Nat.lt_succ_self B) h7).below h8).mono hwB, ((O7.out.1.2.1.keep (Nat.lt_succ_self B) h7).below h8).mono hwB, ((O7.out.1.2.2.keep (Nat.lt_succ_self B) h7).below h8).mono hwB, ((O7.out.2.keep (Nat.lt_succ_self B) h7).below h8).mono hwB⟩
        refine hk _ _ ?_ ((Below.refl _ _).alloc (Nat.le_refl _) _)
        refine Keep.trans ?_ (Keep.setR _ _ _) (.inl rfl)
        refine Keep.trans ?_ (Keep.setR _ _ _) (.inl rfl)
        refine Keep.trans ?_ (Keep.setR _ _ _) (.inl rfl)
        refine Keep.trans ?_ (Keep.setR _ _ _) (.inl rfl)
        refine Keep.trans ?_ (Keep.setR _ _ _) (.inl rfl)
        refine Keep.trans ?_ (Keep.setR _ _ _) (.inl rfl)
        refine Keep.trans ?_ (Keep.setR _ _ _) (.inl rfl)
        refine Keep.trans ?_ (Keep.setR _ _ _) (.inl rfl)
        refine Keep.trans ?_ (Keep.setR _ _ _) (.inl rfl)
        refine Keep.trans ?_ (Keep.setR _ _ _) (.inl rfl)
        exact Keep.setR _ _ _
      · have hB : w.heap.size ≤ B := Nat.le_of_eq HBE.out
        exact (((((((((((B6.out.1.setCell (p := ⟨B, 0, none⟩) hB _).setCell (p := ⟨B, 1, none⟩) hB _).setCell (p := ⟨B, 2, none⟩) hB _).setCell (p := ⟨B, 3, none⟩) hB _).setCell (p := ⟨B, 4, none⟩) hB _).setCell (p := ⟨B, 5, none⟩) hB _).setCell (p := ⟨B, 6, none⟩) hB _).setCell (p := ⟨B, 7, none⟩) hB _).setCell (p := ⟨B, 8, none⟩) hB _).setCell (p := ⟨B, 9, none⟩) hB _).setCell (p := ⟨B, 10, none⟩) hB _).alloc (by have := B6.out.1.size; simp only [World.size_setCell]; omega) _
end Go.Proofs.Ytmjggjccmbiheaa
