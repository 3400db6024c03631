/- Parse, step by step, at a text of the negated form with two items. -/
import Derived.Test.YtmjggjccmbiheabDoorItem
namespace Go.Proofs.YtmjggjccmbiheabDoor
open Go Go.RowKit Go.Proofs
attribute [local go_sem] mk_list mk_size mk_data

structure PX (W w : World) (R : Nat) (s : Tx) (p : Nat) (f : Nat → Bool) : Prop where
  read : ReadAt w R s p f
  keep : Below W.heap.size W w
  fresh : W.heap.size ≤ R
section
variable {W w w' : World} {R : Nat} {s : Tx} {p q : Nat} {f g : Nat → Bool}
theorem PX.new (W : World) (s : Tx) : PX W (W.alloc (.cells (pb (rc s 1) fun _ => false) 53)) W.heap.size s 1 fun _ => false := ⟨heap_alloc_new _ _, (Below.refl _ _).alloc (Nat.le_refl _) _, Nat.le_refl _⟩
theorem PX.to (h : PX W w R s p f) (hr : ReadAt w' R s q g) (hk : Keep R R w w') : PX W w' R s q g := ⟨hr, Keep.under h.keep hk h.fresh h.fresh h.keep.size, h.fresh⟩
theorem PX.step (h : PX W w R s p f) {v : Int} (hv : v = q) : PX W (w.setCell ⟨R, 1, none⟩ (.int .i64 v)) R s q f := h.to (h.read.step hv).1 (h.read.step hv).2
theorem PX.drew (h : PX W w R s p f) : PX W w.drew R s p f := ⟨h.read, below_drewN h.keep 1, h.fresh⟩
end
def ItemIs (s : Tx) (p q : Nat) (h : Nat → Bool) : Prop := ∀ (f : Nat → Bool) (R : Nat) (w : World), ReadAt w R s p f → Calls Tryd.prog 28 #[.pointer (some ⟨R, 0, none⟩)] w fun e w' => e = .returned (.int .i64 0) ∧ ReadAt w' R s q (fun i => f i || h i) ∧ Keep R R w w'
theorem zero53 (w : World) : (zeroValue 53).run Tryd.prog w = .ok (.agg (pb [.string ⟨#[]⟩, .int .i64 0] fun _ => false)) w := by
  unfold pb bools
  rw [List.map_const', List.length_range]
  kernel_rfl
theorem build53 (s : Tx) : ((pb [.string ⟨#[]⟩, .int .i64 0] fun _ => false).setIfInBounds 0 (.string (mk s))).setIfInBounds 1 (.int .i64 1) = pb (rc s 1) fun _ => false := by
  unfold pb
  rw [List.setIfInBounds_toArray, List.setIfInBounds_toArray]
  rfl
set_option maxRecDepth 100000 in
set_option maxHeartbeats 4000000 in
theorem class_Parse (s r : Tx) (p q : Nat) (h1 h2 : Nat → Bool) (hs : s = 91 :: r) (hr : Lib.hasPrefix r [94] = true) (I1 : ItemIs s 2 p h1) (I2 : ItemIs s p q h2) (hl : s.length ≤ 1000000) (hp : p < s.length) (hpc : (((mk s)[p]'(by rw [mk_size]; exact hp)).toNat : Int) ≠ 93) (hq : q < s.length) (hqc : ((mk s)[q]'(by rw [mk_size]; exact hq)).toNat = 93) (W : World) :
    Calls Tryd.prog 23 #[.string (mk s)] W fun e w' => e = .returned (.tuple #[.string (mk (tb (notB (tb fun i => h1 i || h2 i)))), .int .i64 (q + 1), .int .i64 0]) ∧ Below W.heap.size W w' := by
  have e1 : (⟨#[91]⟩ : ByteArray) = mk [91] := rfl
  have e2 : (⟨#[94]⟩ : ByteArray) = mk [94] := rfl
  have HP := Lib.hid (fun w => Tryd.strings_HasPrefix (mk r) (mk [94]) w)
  simp only [mk_data, hr] at HP
  have HCP : Hid (∀ w, Calls Tryd.prog 25 #[.string (mk s), .string (mk [91])] w fun e w' => e = .returned (.tuple #[.string (mk r), .bool true]) ∧ w' = w) := Lib.hid (fun w => by
    have h := Tryd.strings_CutPrefix (mk s) (mk [91]) w
    subst hs
    exact h)
  have HI := Lib.hid (And.intro I1 I2)
  clear I1 I2 hs hr
  have hpz : p < (mk s).size := by rw [mk_size]; exact hp
  have hqz : q < (mk s).size := by rw [mk_size]; exact hq
  obtain ⟨c, hce⟩ : ∃ c : Int, (((mk s)[p]'hpz).toNat : Int) = c := ⟨_, rfl⟩
  have hix : ∀ hh, (((mk s)[p]'hh).toNat : Int) = c := fun _ => hce
  have hc93 : (c != 93) = true := by
    rw [bne_iff_ne, ← hce]
    exact hpc
  have hix2 : ∀ hh, ((mk s)[q]'hh).toNat = 93 := fun _ => hqc
  have hp0 : (0 : Int) ≤ p := by omega
  have hq0 : (0 : Int) ≤ q := by omega
  obtain ⟨n, hn⟩ : ∃ n, s.length = n := ⟨_, rfl⟩
  have hpn : ¬ n ≤ p := by omega
  have hqn : ¬ n ≤ q := by omega
  have hnb : n ≤ 1000000 := by omega
  clear hce hpc hqc
  have HRES : Hid (tb (notB (tb fun i => h1 i || h2 i)) = tb (notB (tb fun i => (false || h1 i) || h2 i))) := Lib.hid (by simp only [Bool.false_or])
  rw [HRES.out]
  clear HRES
  obtain ⟨F, hF⟩ : ∃ F : Nat → Bool, (fun i => (false || h1 i) || h2 i) = F := ⟨_, rfl⟩
  rw [hF]
  have HF := Lib.hid hF
  clear hF
  have hu37 := Tryd.underlying37
  have hi37 : (Tryd.prog.info? 37).map (·.size) = some (bools F).length := by rw [bools_len]; exact size37
  have H19 : Hid (∀ w, Calls Tryd.prog 19 #[.agg (bools F).toArray] w fun e w' => e = .returned (.string (mk (tb F))) ∧ Below w.heap.size w w') := Lib.hid (fun w => class_text F w)
  have H11 : Hid (∀ w, Calls Tryd.prog 11 #[.string (mk (tb F))] w fun e w' => e = .returned (.string (mk (tb (notB (tb F))))) ∧ Below w.heap.size w w') := Lib.hid (fun w => class_Not (tb F) w (by rw [tb_len]; decide))
  generalize tb (notB (tb F)) = U at H11 ⊢
  generalize tb F = T at H11 H19
  go_enter Tryd.func23, Tryd.ntmps23
  simp only [e1, e2]
  clear e1 e2
  go_wp2_with fail
  refine (HCP.out _).mono ?_
  rintro e w1 ⟨rfl, rfl⟩
  go_wp2_with fail
  rw [zero53]
  simp only [Result.andThen_ok]
  rw [if_neg (by intro h; have := congrArg Array.size h; rw [pb_size] at this; simp at this), if_neg (by rw [pb_size]; simp), build53]
  simp only [Sem.run_pure, Result.andThen_ok]
  go_wp2_with fail
  refine (HP.out _).mono ?_
  rintro e w2 ⟨rfl, rfl⟩
  have H2 := Lib.hid (PX.new w1 s)
  obtain ⟨R, hR⟩ : ∃ R, w1.heap.size = R := ⟨_, rfl⟩
  rw [hR] at H2 ⊢
  clear hR
  generalize World.alloc _ _ = w2 at H2 ⊢
  obtain ⟨c0, c1, q0, q1, hlt⟩ := H2.out.read.cells
  go_wp2_with fail
  have H3 := Lib.hid (H2.out.step (v := 2) (q := 2) rfl)
  clear c0 c1 q0 q1 hlt H2
  generalize World.setCell _ _ _ = w3 at H3 ⊢
  go_loopg [9] 2 (fun g cv wx => ∃ (pp : Nat) (ff : Nat → Bool), Hid (PX w1 wx R s pp ff) ∧ ((g = 2 ∧ cv = .bool true ∧ pp = 2 ∧ ff = fun _ => false) ∨ (g = 1 ∧ cv = .bool false ∧ pp = p ∧ ff = fun i => false || h1 i) ∨ (g = 0 ∧ cv = .bool false ∧ pp = q ∧ ff = fun i => (false || h1 i) || h2 i)))
  case atStart => exact ⟨2, _, H3, Or.inl ⟨rfl, rfl, rfl, rfl⟩⟩
  case round =>
    obtain ⟨pp, ff, HX, hrel⟩ := hrel
    rcases hrel with ⟨rfl, rfl, rfl, rfl⟩ | ⟨rfl, rfl, rfl, rfl⟩ | ⟨rfl, rfl, rfl, hff⟩
    · go_wp2_with fail
      refine (HI.out.1 _ R _ HX.out.read).mono ?_
      rintro e w4 ⟨rfl, hr, hk⟩
      have H4 := Lib.hid (HX.out.to hr hk)
      clear hr hk
      go_wp2_with fail
      go_roundg 1
      case measure => omega
      case rel => exact ⟨p, _, H4, Or.inr (Or.inl ⟨rfl, rfl, rfl, rfl⟩)⟩
    · obtain ⟨c0, c1, q0, q1, hlt⟩ := HX.out.read.cells
      go_wp2_with fail
      refine (HI.out.2 _ R _ HX.out.read).mono ?_
      rintro e w4 ⟨rfl, hr, hk⟩
      have H4 := Lib.hid (HX.out.to hr hk)
      clear hr hk
      go_wp2_with fail
      go_roundg 0
      case measure => omega
      case rel => exact ⟨q, _, H4, Or.inr (Or.inr ⟨rfl, rfl, rfl, rfl⟩)⟩
    · obtain ⟨c0, c1, q0, q1, hlt⟩ := HX.out.read.cells
      go_wp2_with fail
      rw [HF.out] at hff
      subst hff
      have hwq : IntKind.i64.wrap ((pp : Int) + 1) = (pp : Int) + 1 := IntWalk.i64_in _ (by omega)
      have HS : Hid (∀ w w', PX w1 w R s pp ff → Below w.heap.size w w' → w'.rangeAt R 2 (bools ff) ∧ w'.cell? ⟨R, 1, none⟩ = some (.int .i64 pp) ∧ PX w1 w' R s pp ff) := Lib.hid (fun w w' hx hb => by
        have hx2 : PX w1 w' R s pp ff := hx.to ((hb.block _ (blk_lt hx.read)).trans hx.read) (Keep.below hb)
        exact ⟨bools_at hx2.read rfl, hx2.read.cells.2.1, hx2⟩)
      have hS0 := HS.out wr wr.drew HX.out (below_drewN (Below.refl _ _) 1)
      generalize bools ff = bF at *
      go_region_held3 (fun w' => w'.rangeAt R 2 bF ∧ w'.cell? ⟨R, 1, none⟩ = some (.int .i64 pp) ∧ PX w1 w' R s pp ff) (first | exact hS0 | exact HS.out _ _ (And.right (And.right (by assumption))) (by assumption)) (first | (go_at_call 19; refine (H19.out _).mono ?_; rintro e w' ⟨rfl, hb⟩) | (go_at_call 11; refine (H11.out _).mono ?_; rintro e w' ⟨rfl, hb⟩))
      have HK := Lib.hid (show PX w1 w' R s pp ff from (‹_ ∧ _ ∧ PX w1 w' R s pp ff›).2.2)
      clear c0 c1 q0 q1 hlt
      go_wp2_with fail
      refine bodyPost_ret (v := .tuple #[.string (mk U), .int .i64 ((pp : Int) + 1), .int .i64 0]) ?_ rfl ⟨rfl, HK.out.keep⟩
      simp only [results, Tryd.f23]
      go_simp
end Go.Proofs.YtmjggjccmbiheabDoor
