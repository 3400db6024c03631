/- Named, step by step. -/
import Derived.Test.YtmjggjccmbiheabDoorNot
namespace Go.Proofs.YtmjggjccmbiheabDoor
open Go Go.RowKit Go.Proofs
attribute [local go_sem] mk_list mk_size mk_data

theorem add_to (X : Nat) (f g : Nat → Bool) (a b : Nat) (W : World) (h : W.heap[X]? = some (.cells (vb f) 37)) (hb : b < 256) (hg : ∀ i, i < 256 → (f i || spanB a b i) = g i) :
    Calls Tryd.prog 18 #[.pointer (some ⟨X, 0, none⟩), .int .i64 a, .int .i64 b] W fun e w' => e = .returned (.tuple #[]) ∧ w'.heap[X]? = some (.cells (vb g) 37) ∧ Keep X X W w' := by
  refine (class_add X 0 [] f 37 a b W h rfl hb).mono ?_
  rintro e w' ⟨rfl, h1, h2⟩
  exact ⟨rfl, by rw [h1]; exact congrArg (fun c => some (Obj.cells c 37)) (vb_congr hg), h2⟩
def azB : Nat → Bool := spanB 97 122
def zzB : Nat → Bool := fun i => azB i || spanB 65 90 i
def uuB : Nat → Bool := fun i => zzB i || spanB 95 95 i
def dB : Nat → Bool := spanB 48 57
def wB : Nat → Bool := fun i => uuB i || spanB 48 57 i
def sB0 : Nat → Bool := spanB 9 13
def sB : Nat → Bool := fun i => sB0 i || spanB 32 32 i
def nB (f : Nat → Bool) : Nat → Bool := fun i => !f i
def noB : Nat → Bool := fun _ => false
/-- A letter's set; is there one? -/
def namedT (c : Nat) : Tx × Bool := if c = 100 then (tb dB, true) else if c = 119 then (tb wB, true) else if c = 115 then (tb sB, true) else if c = 68 then (tb (nB dB), true) else if c = 87 then (tb (nB wB), true) else if c = 83 then (tb (nB sB), true) else (tb noB, false)
theorem not_tb (f : Nat → Bool) : tb (notB (tb f)) = tb (nB f) := tb_congr fun i hi => by unfold notB nB; rw [has_tb f hi]

set_option maxRecDepth 100000 in
set_option maxHeartbeats 4000000 in
theorem class_Named100 (W : World) : Calls Tryd.prog 4 #[.int .u8 100] W fun e w' => e = .returned (.tuple #[.string (mk (tb (dB))), .bool true]) ∧ Below W.heap.size W w' := by
  have e0 : (⟨#[]⟩ : ByteArray) = mk [] := rfl
  have hz := zero37
  have HTX := Lib.hid (fun w => class_text dB w)
  have HA0 : Hid (∀ w : World, w.heap[W.heap.size]? = some (.cells (vb noB) 37) → Calls Tryd.prog 18 #[.pointer (some ⟨W.heap.size, 0, none⟩), .int .i64 48, .int .i64 57] w fun e w' => e = .returned (.tuple #[]) ∧ w'.heap[W.heap.size]? = some (.cells (vb dB) 37) ∧ Keep W.heap.size W.heap.size w w') := Lib.hid (fun w h => add_to W.heap.size noB dB 48 57 w h (by decide) (fun i _ => Bool.false_or _))
  have H0 : Hid (Below W.heap.size W (W.alloc (.cells (vb fun _ => false) 37)) ∧ (W.alloc (.cells (vb fun _ => false) 37)).heap[W.heap.size]? = some (.cells (vb noB) 37)) := Lib.hid ⟨(Below.refl _ _).alloc (Nat.le_refl _) _, heap_alloc_new _ _⟩
  obtain ⟨T, hT⟩ : ∃ T, tb (dB) = T := ⟨_, rfl⟩
  rw [hT] at HTX ⊢
  generalize dB = dB' at *
  generalize noB = noB' at *
  clear hT
  obtain ⟨B, hB⟩ : ∃ B, W.heap.size = B := ⟨_, rfl⟩
  rw [hB] at HA0 H0 ⊢
  go_enter Tryd.func4, Tryd.ntmps4
  simp only [e0]
  clear e0
  go_wp2_with fail
  try rw [hB]
  refine (HA0.out _ H0.out.2).mono ?_
  rintro e w1 ⟨rfl, hc, hk⟩
  have H1 : Hid (Below B W w1 ∧ w1.heap[B]? = some (.cells (vb dB') 37)) := Lib.hid ⟨Keep.under H0.out.1 hk (Nat.le_refl _) (Nat.le_refl _) (by have := (H0.out.1).size; omega), hc⟩
  clear hc hk
  go_wp2_with fail
  refine load_bits _ rfl B 0 rfl (pre := []) H1.out.2 rfl ?_
  go_wp2_with fail
  refine (HTX.out _).mono ?_
  rintro e wt ⟨rfl, hb⟩
  have HT := Lib.hid (below_then H1.out.1 (by have := (H1.out.1).size; omega) hb)
  clear hb
  go_wp2_with fail
  go_ret2
  exact ⟨rfl, HT.out⟩
set_option maxRecDepth 100000 in
set_option maxHeartbeats 4000000 in
theorem class_Named68 (W : World) : Calls Tryd.prog 4 #[.int .u8 68] W fun e w' => e = .returned (.tuple #[.string (mk (tb (nB dB))), .bool true]) ∧ Below W.heap.size W w' := by
  have e0 : (⟨#[]⟩ : ByteArray) = mk [] := rfl
  have hz := zero37
  have HTX := Lib.hid (fun w => class_text dB w)
  have HA0 : Hid (∀ w : World, w.heap[W.heap.size]? = some (.cells (vb noB) 37) → Calls Tryd.prog 18 #[.pointer (some ⟨W.heap.size, 0, none⟩), .int .i64 48, .int .i64 57] w fun e w' => e = .returned (.tuple #[]) ∧ w'.heap[W.heap.size]? = some (.cells (vb dB) 37) ∧ Keep W.heap.size W.heap.size w w') := Lib.hid (fun w h => add_to W.heap.size noB dB 48 57 w h (by decide) (fun i _ => Bool.false_or _))
  have HNO := Lib.hid (fun w => class_Not (tb dB) w (by rw [tb_len]; decide))
  rw [not_tb] at HNO
  have H0 : Hid (Below W.heap.size W (W.alloc (.cells (vb fun _ => false) 37)) ∧ (W.alloc (.cells (vb fun _ => false) 37)).heap[W.heap.size]? = some (.cells (vb noB) 37)) := Lib.hid ⟨(Below.refl _ _).alloc (Nat.le_refl _) _, heap_alloc_new _ _⟩
  obtain ⟨T, hT⟩ : ∃ T, tb (nB dB) = T := ⟨_, rfl⟩
  obtain ⟨TF, hTF⟩ : ∃ T, tb dB = T := ⟨_, rfl⟩
  rw [hTF] at HTX HNO
  rw [hT] at HNO ⊢
  generalize dB = dB' at *
  generalize noB = noB' at *
  clear hT hTF
  obtain ⟨B, hB⟩ : ∃ B, W.heap.size = B := ⟨_, rfl⟩
  rw [hB] at HA0 H0 ⊢
  go_enter Tryd.func4, Tryd.ntmps4
  simp only [e0]
  clear e0
  go_wp2_with fail
  try rw [hB]
  refine (HA0.out _ H0.out.2).mono ?_
  rintro e w1 ⟨rfl, hc, hk⟩
  have H1 : Hid (Below B W w1 ∧ w1.heap[B]? = some (.cells (vb dB') 37)) := Lib.hid ⟨Keep.under H0.out.1 hk (Nat.le_refl _) (Nat.le_refl _) (by have := (H0.out.1).size; omega), hc⟩
  clear hc hk
  go_wp2_with fail
  refine load_bits _ rfl B 0 rfl (pre := []) H1.out.2 rfl ?_
  go_wp2_with fail
  refine (HTX.out _).mono ?_
  rintro e wt ⟨rfl, hb⟩
  have HT := Lib.hid (below_then H1.out.1 (by have := (H1.out.1).size; omega) hb)
  clear hb
  go_wp2_with fail
  refine (HNO.out _).mono ?_
  rintro e wn ⟨rfl, hb⟩
  have HT2 := Lib.hid (below_then HT.out (by have := HT.out.size; omega) hb)
  clear hb
  go_wp2_with fail
  go_ret2
  exact ⟨rfl, HT2.out⟩
set_option maxRecDepth 100000 in
set_option maxHeartbeats 4000000 in
theorem class_Named119 (W : World) : Calls Tryd.prog 4 #[.int .u8 119] W fun e w' => e = .returned (.tuple #[.string (mk (tb (wB))), .bool true]) ∧ Below W.heap.size W w' := by
  have e0 : (⟨#[]⟩ : ByteArray) = mk [] := rfl
  have hz := zero37
  have HTX := Lib.hid (fun w => class_text wB w)
  have HA0 : Hid (∀ w : World, w.heap[W.heap.size]? = some (.cells (vb noB) 37) → Calls Tryd.prog 18 #[.pointer (some ⟨W.heap.size, 0, none⟩), .int .i64 97, .int .i64 122] w fun e w' => e = .returned (.tuple #[]) ∧ w'.heap[W.heap.size]? = some (.cells (vb azB) 37) ∧ Keep W.heap.size W.heap.size w w') := Lib.hid (fun w h => add_to W.heap.size noB azB 97 122 w h (by decide) (fun i _ => Bool.false_or _))
  have HA1 : Hid (∀ w : World, w.heap[W.heap.size]? = some (.cells (vb azB) 37) → Calls Tryd.prog 18 #[.pointer (some ⟨W.heap.size, 0, none⟩), .int .i64 65, .int .i64 90] w fun e w' => e = .returned (.tuple #[]) ∧ w'.heap[W.heap.size]? = some (.cells (vb zzB) 37) ∧ Keep W.heap.size W.heap.size w w') := Lib.hid (fun w h => add_to W.heap.size azB zzB 65 90 w h (by decide) (fun i _ => rfl))
  have HA2 : Hid (∀ w : World, w.heap[W.heap.size]? = some (.cells (vb zzB) 37) → Calls Tryd.prog 18 #[.pointer (some ⟨W.heap.size, 0, none⟩), .int .i64 95, .int .i64 95] w fun e w' => e = .returned (.tuple #[]) ∧ w'.heap[W.heap.size]? = some (.cells (vb uuB) 37) ∧ Keep W.heap.size W.heap.size w w') := Lib.hid (fun w h => add_to W.heap.size zzB uuB 95 95 w h (by decide) (fun i _ => rfl))
  have HA3 : Hid (∀ w : World, w.heap[W.heap.size]? = some (.cells (vb uuB) 37) → Calls Tryd.prog 18 #[.pointer (some ⟨W.heap.size, 0, none⟩), .int .i64 48, .int .i64 57] w fun e w' => e = .returned (.tuple #[]) ∧ w'.heap[W.heap.size]? = some (.cells (vb wB) 37) ∧ Keep W.heap.size W.heap.size w w') := Lib.hid (fun w h => add_to W.heap.size uuB wB 48 57 w h (by decide) (fun i _ => rfl))
  have H0 : Hid (Below W.heap.size W (W.alloc (.cells (vb fun _ => false) 37)) ∧ (W.alloc (.cells (vb fun _ => false) 37)).heap[W.heap.size]? = some (.cells (vb noB) 37)) := Lib.hid ⟨(Below.refl _ _).alloc (Nat.le_refl _) _, heap_alloc_new _ _⟩
  obtain ⟨T, hT⟩ : ∃ T, tb (wB) = T := ⟨_, rfl⟩
  rw [hT] at HTX ⊢
  generalize wB = wB' at *
  generalize uuB = uuB' at *
  generalize zzB = zzB' at *
  generalize azB = azB' at *
  generalize noB = noB' at *
  clear hT
  obtain ⟨B, hB⟩ : ∃ B, W.heap.size = B := ⟨_, rfl⟩
  rw [hB] at HA0 HA1 HA2 HA3 H0 ⊢
  go_enter Tryd.func4, Tryd.ntmps4
  simp only [e0]
  clear e0
  go_wp2_with fail
  try rw [hB]
  refine (HA0.out _ H0.out.2).mono ?_
  rintro e w1 ⟨rfl, hc, hk⟩
  have H1 : Hid (Below B W w1 ∧ w1.heap[B]? = some (.cells (vb azB') 37)) := Lib.hid ⟨Keep.under H0.out.1 hk (Nat.le_refl _) (Nat.le_refl _) (by have := (H0.out.1).size; omega), hc⟩
  clear hc hk
  go_wp2_with fail
  refine (HA1.out _ H1.out.2).mono ?_
  rintro e w2 ⟨rfl, hc, hk⟩
  have H2 : Hid (Below B W w2 ∧ w2.heap[B]? = some (.cells (vb zzB') 37)) := Lib.hid ⟨Keep.under H1.out.1 hk (Nat.le_refl _) (Nat.le_refl _) (by have := (H1.out.1).size; omega), hc⟩
  clear hc hk
  go_wp2_with fail
  refine (HA2.out _ H2.out.2).mono ?_
  rintro e w3 ⟨rfl, hc, hk⟩
  have H3 : Hid (Below B W w3 ∧ w3.heap[B]? = some (.cells (vb uuB') 37)) := Lib.hid ⟨Keep.under H2.out.1 hk (Nat.le_refl _) (Nat.le_refl _) (by have := (H2.out.1).size; omega), hc⟩
  clear hc hk
  go_wp2_with fail
  refine (HA3.out _ H3.out.2).mono ?_
  rintro e w4 ⟨rfl, hc, hk⟩
  have H4 : Hid (Below B W w4 ∧ w4.heap[B]? = some (.cells (vb wB') 37)) := Lib.hid ⟨Keep.under H3.out.1 hk (Nat.le_refl _) (Nat.le_refl _) (by have := (H3.out.1).size; omega), hc⟩
  clear hc hk
  go_wp2_with fail
  refine load_bits _ rfl B 0 rfl (pre := []) H4.out.2 rfl ?_
  go_wp2_with fail
  refine (HTX.out _).mono ?_
  rintro e wt ⟨rfl, hb⟩
  have HT := Lib.hid (below_then H4.out.1 (by have := (H4.out.1).size; omega) hb)
  clear hb
  go_wp2_with fail
  go_ret2
  exact ⟨rfl, HT.out⟩
set_option maxRecDepth 100000 in
set_option maxHeartbeats 4000000 in
theorem class_Named87 (W : World) : Calls Tryd.prog 4 #[.int .u8 87] W fun e w' => e = .returned (.tuple #[.string (mk (tb (nB wB))), .bool true]) ∧ Below W.heap.size W w' := by
  have e0 : (⟨#[]⟩ : ByteArray) = mk [] := rfl
  have hz := zero37
  have HTX := Lib.hid (fun w => class_text wB w)
  have HA0 : Hid (∀ w : World, w.heap[W.heap.size]? = some (.cells (vb noB) 37) → Calls Tryd.prog 18 #[.pointer (some ⟨W.heap.size, 0, none⟩), .int .i64 97, .int .i64 122] w fun e w' => e = .returned (.tuple #[]) ∧ w'.heap[W.heap.size]? = some (.cells (vb azB) 37) ∧ Keep W.heap.size W.heap.size w w') := Lib.hid (fun w h => add_to W.heap.size noB azB 97 122 w h (by decide) (fun i _ => Bool.false_or _))
  have HA1 : Hid (∀ w : World, w.heap[W.heap.size]? = some (.cells (vb azB) 37) → Calls Tryd.prog 18 #[.pointer (some ⟨W.heap.size, 0, none⟩), .int .i64 65, .int .i64 90] w fun e w' => e = .returned (.tuple #[]) ∧ w'.heap[W.heap.size]? = some (.cells (vb zzB) 37) ∧ Keep W.heap.size W.heap.size w w') := Lib.hid (fun w h => add_to W.heap.size azB zzB 65 90 w h (by decide) (fun i _ => rfl))
  have HA2 : Hid (∀ w : World, w.heap[W.heap.size]? = some (.cells (vb zzB) 37) → Calls Tryd.prog 18 #[.pointer (some ⟨W.heap.size, 0, none⟩), .int .i64 95, .int .i64 95] w fun e w' => e = .returned (.tuple #[]) ∧ w'.heap[W.heap.size]? = some (.cells (vb uuB) 37) ∧ Keep W.heap.size W.heap.size w w') := Lib.hid (fun w h => add_to W.heap.size zzB uuB 95 95 w h (by decide) (fun i _ => rfl))
  have HA3 : Hid (∀ w : World, w.heap[W.heap.size]? = some (.cells (vb uuB) 37) → Calls Tryd.prog 18 #[.pointer (some ⟨W.heap.size, 0, none⟩), .int .i64 48, .int .i64 57] w fun e w' => e = .returned (.tuple #[]) ∧ w'.heap[W.heap.size]? = some (.cells (vb wB) 37) ∧ Keep W.heap.size W.heap.size w w') := Lib.hid (fun w h => add_to W.heap.size uuB wB 48 57 w h (by decide) (fun i _ => rfl))
  have HNO := Lib.hid (fun w => class_Not (tb wB) w (by rw [tb_len]; decide))
  rw [not_tb] at HNO
  have H0 : Hid (Below W.heap.size W (W.alloc (.cells (vb fun _ => false) 37)) ∧ (W.alloc (.cells (vb fun _ => false) 37)).heap[W.heap.size]? = some (.cells (vb noB) 37)) := Lib.hid ⟨(Below.refl _ _).alloc (Nat.le_refl _) _, heap_alloc_new _ _⟩
  obtain ⟨T, hT⟩ : ∃ T, tb (nB wB) = T := ⟨_, rfl⟩
  obtain ⟨TF, hTF⟩ : ∃ T, tb wB = T := ⟨_, rfl⟩
  rw [hTF] at HTX HNO
  rw [hT] at HNO ⊢
  generalize wB = wB' at *
  generalize uuB = uuB' at *
  generalize zzB = zzB' at *
  generalize azB = azB' at *
  generalize noB = noB' at *
  clear hT hTF
  obtain ⟨B, hB⟩ : ∃ B, W.heap.size = B := ⟨_, rfl⟩
  rw [hB] at HA0 HA1 HA2 HA3 H0 ⊢
  go_enter Tryd.func4, Tryd.ntmps4
  simp only [e0]
  clear e0
  go_wp2_with fail
  try rw [hB]
  refine (HA0.out _ H0.out.2).mono ?_
  rintro e w1 ⟨rfl, hc, hk⟩
  have H1 : Hid (Below B W w1 ∧ w1.heap[B]? = some (.cells (vb azB') 37)) := Lib.hid ⟨Keep.under H0.out.1 hk (Nat.le_refl _) (Nat.le_refl _) (by have := (H0.out.1).size; omega), hc⟩
  clear hc hk
  go_wp2_with fail
  refine (HA1.out _ H1.out.2).mono ?_
  rintro e w2 ⟨rfl, hc, hk⟩
  have H2 : Hid (Below B W w2 ∧ w2.heap[B]? = some (.cells (vb zzB') 37)) := Lib.hid ⟨Keep.under H1.out.1 hk (Nat.le_refl _) (Nat.le_refl _) (by have := (H1.out.1).size; omega), hc⟩
  clear hc hk
  go_wp2_with fail
  refine (HA2.out _ H2.out.2).mono ?_
  rintro e w3 ⟨rfl, hc, hk⟩
  have H3 : Hid (Below B W w3 ∧ w3.heap[B]? = some (.cells (vb uuB') 37)) := Lib.hid ⟨Keep.under H2.out.1 hk (Nat.le_refl _) (Nat.le_refl _) (by have := (H2.out.1).size; omega), hc⟩
  clear hc hk
  go_wp2_with fail
  refine (HA3.out _ H3.out.2).mono ?_
  rintro e w4 ⟨rfl, hc, hk⟩
  have H4 : Hid (Below B W w4 ∧ w4.heap[B]? = some (.cells (vb wB') 37)) := Lib.hid ⟨Keep.under H3.out.1 hk (Nat.le_refl _) (Nat.le_refl _) (by have := (H3.out.1).size; omega), hc⟩
  clear hc hk
  go_wp2_with fail
  refine load_bits _ rfl B 0 rfl (pre := []) H4.out.2 rfl ?_
  go_wp2_with fail
  refine (HTX.out _).mono ?_
  rintro e wt ⟨rfl, hb⟩
  have HT := Lib.hid (below_then H4.out.1 (by have := (H4.out.1).size; omega) hb)
  clear hb
  go_wp2_with fail
  refine (HNO.out _).mono ?_
  rintro e wn ⟨rfl, hb⟩
  have HT2 := Lib.hid (below_then HT.out (by have := HT.out.size; omega) hb)
  clear hb
  go_wp2_with fail
  go_ret2
  exact ⟨rfl, HT2.out⟩
set_option maxRecDepth 100000 in
set_option maxHeartbeats 4000000 in
theorem class_Named115 (W : World) : Calls Tryd.prog 4 #[.int .u8 115] W fun e w' => e = .returned (.tuple #[.string (mk (tb (sB))), .bool true]) ∧ Below W.heap.size W w' := by
  have e0 : (⟨#[]⟩ : ByteArray) = mk [] := rfl
  have hz := zero37
  have HTX := Lib.hid (fun w => class_text sB w)
  have HA0 : Hid (∀ w : World, w.heap[W.heap.size]? = some (.cells (vb noB) 37) → Calls Tryd.prog 18 #[.pointer (some ⟨W.heap.size, 0, none⟩), .int .i64 9, .int .i64 13] w fun e w' => e = .returned (.tuple #[]) ∧ w'.heap[W.heap.size]? = some (.cells (vb sB0) 37) ∧ Keep W.heap.size W.heap.size w w') := Lib.hid (fun w h => add_to W.heap.size noB sB0 9 13 w h (by decide) (fun i _ => Bool.false_or _))
  have HA1 : Hid (∀ w : World, w.heap[W.heap.size]? = some (.cells (vb sB0) 37) → Calls Tryd.prog 18 #[.pointer (some ⟨W.heap.size, 0, none⟩), .int .i64 32, .int .i64 32] w fun e w' => e = .returned (.tuple #[]) ∧ w'.heap[W.heap.size]? = some (.cells (vb sB) 37) ∧ Keep W.heap.size W.heap.size w w') := Lib.hid (fun w h => add_to W.heap.size sB0 sB 32 32 w h (by decide) (fun i _ => rfl))
  have H0 : Hid (Below W.heap.size W (W.alloc (.cells (vb fun _ => false) 37)) ∧ (W.alloc (.cells (vb fun _ => false) 37)).heap[W.heap.size]? = some (.cells (vb noB) 37)) := Lib.hid ⟨(Below.refl _ _).alloc (Nat.le_refl _) _, heap_alloc_new _ _⟩
  obtain ⟨T, hT⟩ : ∃ T, tb (sB) = T := ⟨_, rfl⟩
  rw [hT] at HTX ⊢
  generalize sB = sB' at *
  generalize sB0 = sB0' at *
  generalize noB = noB' at *
  clear hT
  obtain ⟨B, hB⟩ : ∃ B, W.heap.size = B := ⟨_, rfl⟩
  rw [hB] at HA0 HA1 H0 ⊢
  go_enter Tryd.func4, Tryd.ntmps4
  simp only [e0]
  clear e0
  go_wp2_with fail
  try rw [hB]
  refine (HA0.out _ H0.out.2).mono ?_
  rintro e w1 ⟨rfl, hc, hk⟩
  have H1 : Hid (Below B W w1 ∧ w1.heap[B]? = some (.cells (vb sB0') 37)) := Lib.hid ⟨Keep.under H0.out.1 hk (Nat.le_refl _) (Nat.le_refl _) (by have := (H0.out.1).size; omega), hc⟩
  clear hc hk
  go_wp2_with fail
  refine (HA1.out _ H1.out.2).mono ?_
  rintro e w2 ⟨rfl, hc, hk⟩
  have H2 : Hid (Below B W w2 ∧ w2.heap[B]? = some (.cells (vb sB') 37)) := Lib.hid ⟨Keep.under H1.out.1 hk (Nat.le_refl _) (Nat.le_refl _) (by have := (H1.out.1).size; omega), hc⟩
  clear hc hk
  go_wp2_with fail
  refine load_bits _ rfl B 0 rfl (pre := []) H2.out.2 rfl ?_
  go_wp2_with fail
  refine (HTX.out _).mono ?_
  rintro e wt ⟨rfl, hb⟩
  have HT := Lib.hid (below_then H2.out.1 (by have := (H2.out.1).size; omega) hb)
  clear hb
  go_wp2_with fail
  go_ret2
  exact ⟨rfl, HT.out⟩
set_option maxRecDepth 100000 in
set_option maxHeartbeats 4000000 in
theorem class_Named83 (W : World) : Calls Tryd.prog 4 #[.int .u8 83] W fun e w' => e = .returned (.tuple #[.string (mk (tb (nB sB))), .bool true]) ∧ Below W.heap.size W w' := by
  have e0 : (⟨#[]⟩ : ByteArray) = mk [] := rfl
  have hz := zero37
  have HTX := Lib.hid (fun w => class_text sB w)
  have HA0 : Hid (∀ w : World, w.heap[W.heap.size]? = some (.cells (vb noB) 37) → Calls Tryd.prog 18 #[.pointer (some ⟨W.heap.size, 0, none⟩), .int .i64 9, .int .i64 13] w fun e w' => e = .returned (.tuple #[]) ∧ w'.heap[W.heap.size]? = some (.cells (vb sB0) 37) ∧ Keep W.heap.size W.heap.size w w') := Lib.hid (fun w h => add_to W.heap.size noB sB0 9 13 w h (by decide) (fun i _ => Bool.false_or _))
  have HA1 : Hid (∀ w : World, w.heap[W.heap.size]? = some (.cells (vb sB0) 37) → Calls Tryd.prog 18 #[.pointer (some ⟨W.heap.size, 0, none⟩), .int .i64 32, .int .i64 32] w fun e w' => e = .returned (.tuple #[]) ∧ w'.heap[W.heap.size]? = some (.cells (vb sB) 37) ∧ Keep W.heap.size W.heap.size w w') := Lib.hid (fun w h => add_to W.heap.size sB0 sB 32 32 w h (by decide) (fun i _ => rfl))
  have HNO := Lib.hid (fun w => class_Not (tb sB) w (by rw [tb_len]; decide))
  rw [not_tb] at HNO
  have H0 : Hid (Below W.heap.size W (W.alloc (.cells (vb fun _ => false) 37)) ∧ (W.alloc (.cells (vb fun _ => false) 37)).heap[W.heap.size]? = some (.cells (vb noB) 37)) := Lib.hid ⟨(Below.refl _ _).alloc (Nat.le_refl _) _, heap_alloc_new _ _⟩
  obtain ⟨T, hT⟩ : ∃ T, tb (nB sB) = T := ⟨_, rfl⟩
  obtain ⟨TF, hTF⟩ : ∃ T, tb sB = T := ⟨_, rfl⟩
  rw [hTF] at HTX HNO
  rw [hT] at HNO ⊢
  generalize sB = sB' at *
  generalize sB0 = sB0' at *
  generalize noB = noB' at *
  clear hT hTF
  obtain ⟨B, hB⟩ : ∃ B, W.heap.size = B := ⟨_, rfl⟩
  rw [hB] at HA0 HA1 H0 ⊢
  go_enter Tryd.func4, Tryd.ntmps4
  simp only [e0]
  clear e0
  go_wp2_with fail
  try rw [hB]
  refine (HA0.out _ H0.out.2).mono ?_
  rintro e w1 ⟨rfl, hc, hk⟩
  have H1 : Hid (Below B W w1 ∧ w1.heap[B]? = some (.cells (vb sB0') 37)) := Lib.hid ⟨Keep.under H0.out.1 hk (Nat.le_refl _) (Nat.le_refl _) (by have := (H0.out.1).size; omega), hc⟩
  clear hc hk
  go_wp2_with fail
  refine (HA1.out _ H1.out.2).mono ?_
  rintro e w2 ⟨rfl, hc, hk⟩
  have H2 : Hid (Below B W w2 ∧ w2.heap[B]? = some (.cells (vb sB') 37)) := Lib.hid ⟨Keep.under H1.out.1 hk (Nat.le_refl _) (Nat.le_refl _) (by have := (H1.out.1).size; omega), hc⟩
  clear hc hk
  go_wp2_with fail
  refine load_bits _ rfl B 0 rfl (pre := []) H2.out.2 rfl ?_
  go_wp2_with fail
  refine (HTX.out _).mono ?_
  rintro e wt ⟨rfl, hb⟩
  have HT := Lib.hid (below_then H2.out.1 (by have := (H2.out.1).size; omega) hb)
  clear hb
  go_wp2_with fail
  refine (HNO.out _).mono ?_
  rintro e wn ⟨rfl, hb⟩
  have HT2 := Lib.hid (below_then HT.out (by have := HT.out.size; omega) hb)
  clear hb
  go_wp2_with fail
  go_ret2
  exact ⟨rfl, HT2.out⟩
end Go.Proofs.YtmjggjccmbiheabDoor
