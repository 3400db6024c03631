/- The reference's Named, step by step. -/
import Derived.Test.YtmjggjccmbiheabDoorRSets
import Derived.Test.YtmjggjccmbiheabDoorNamed2
namespace Go.Proofs.YtmjggjccmbiheabDoor
open Go Go.RowKit Go.Proofs
attribute [local go_sem] mk_list mk_size mk_data

theorem u_tb (f g : Nat → Bool) : tb (unionB (tb f) (tb g)) = tb fun i => f i || g i := tb_congr fun i hi => by unfold unionB; rw [has_tb f hi, has_tb g hi]
theorem run_union (f g h : Nat → Bool) (hh : ∀ i, (f i || g i) = h i) (w : World) : Calls Tryd.prog 13 #[.string (mk (tb f)), .string (mk (tb g))] w fun e w' => e = .returned (.string (mk (tb h))) ∧ Below w.heap.size w w' := by
  have := ref_Union (tb f) (tb g) w (by rw [tb_len]; decide) (by rw [tb_len]; decide)
  rwa [u_tb, tb_congr fun i _ => hh i] at this
theorem run_not (f : Nat → Bool) (w : World) : Calls Tryd.prog 14 #[.string (mk (tb f))] w fun e w' => e = .returned (.string (mk (tb (nB f)))) ∧ Below w.heap.size w w' := by
  have := ref_Not (tb f) w (by rw [tb_len]; decide)
  rwa [not_tb] at this
def daB : Nat → Bool := fun i => dB i || azB i
def zB : Nat → Bool := spanB 65 90
def uB : Nat → Bool := spanB 95 95
def zuB : Nat → Bool := fun i => zB i || uB i
def bB : Nat → Bool := spanB 32 32
theorem w_eq (i : Nat) : (daB i || zuB i) = wB i := by
  unfold daB zuB wB uuB zzB zB uB dB
  cases azB i <;> cases spanB 65 90 i <;> cases spanB 95 95 i <;> cases spanB 48 57 i <;> rfl
theorem none_eq : tb (spanB 1 0) = tb noB := tb_congr fun i _ => by unfold spanB noB; exact decide_eq_false (by omega)
/-- What the calls ahead of the letters answer. -/
structure NamedC (tD tA tDA tZ tU tZU tW t9 t3 tS : Tx) : Prop where
  d : ∀ w, Calls Tryd.prog 7 #[.int .i64 48, .int .i64 57] w fun e w' => e = .returned (.string (mk tD)) ∧ Below w.heap.size w w'
  a : ∀ w, Calls Tryd.prog 7 #[.int .i64 97, .int .i64 122] w fun e w' => e = .returned (.string (mk tA)) ∧ Below w.heap.size w w'
  da : ∀ w, Calls Tryd.prog 13 #[.string (mk tD), .string (mk tA)] w fun e w' => e = .returned (.string (mk tDA)) ∧ Below w.heap.size w w'
  z : ∀ w, Calls Tryd.prog 7 #[.int .i64 65, .int .i64 90] w fun e w' => e = .returned (.string (mk tZ)) ∧ Below w.heap.size w w'
  u : ∀ w, Calls Tryd.prog 7 #[.int .i64 95, .int .i64 95] w fun e w' => e = .returned (.string (mk tU)) ∧ Below w.heap.size w w'
  zu : ∀ w, Calls Tryd.prog 13 #[.string (mk tZ), .string (mk tU)] w fun e w' => e = .returned (.string (mk tZU)) ∧ Below w.heap.size w w'
  w_ : ∀ w, Calls Tryd.prog 13 #[.string (mk tDA), .string (mk tZU)] w fun e w' => e = .returned (.string (mk tW)) ∧ Below w.heap.size w w'
  n : ∀ w, Calls Tryd.prog 7 #[.int .i64 9, .int .i64 13] w fun e w' => e = .returned (.string (mk t9)) ∧ Below w.heap.size w w'
  b : ∀ w, Calls Tryd.prog 7 #[.int .i64 32, .int .i64 32] w fun e w' => e = .returned (.string (mk t3)) ∧ Below w.heap.size w w'
  s : ∀ w, Calls Tryd.prog 13 #[.string (mk t9), .string (mk t3)] w fun e w' => e = .returned (.string (mk tS)) ∧ Below w.heap.size w w'
theorem namedC : NamedC (tb dB) (tb azB) (tb daB) (tb zB) (tb uB) (tb zuB) (tb wB) (tb sB0) (tb bB) (tb sB) :=
  ⟨fun w => ref_Span 48 57 w (by decide), fun w => ref_Span 97 122 w (by decide), run_union dB azB daB (fun _ => rfl), fun w => ref_Span 65 90 w (by decide), fun w => ref_Span 95 95 w (by decide), run_union zB uB zuB (fun _ => rfl), run_union daB zuB wB w_eq, fun w => ref_Span 9 13 w (by decide), fun w => ref_Span 32 32 w (by decide), run_union sB0 bB sB (fun _ => rfl)⟩

set_option maxRecDepth 100000 in
set_option maxHeartbeats 4000000 in
theorem ref_Named100 {tD tA tDA tZ tU tZU tW t9 t3 tS : Tx} (H : NamedC tD tA tDA tZ tU tZU tW t9 t3 tS) (W : World) : Calls Tryd.prog 5 #[.int .u8 100] W fun e w' => e = .returned (.tuple #[.string (mk tD), .bool true]) ∧ Below W.heap.size W w' := by
  have e0 : (⟨#[]⟩ : ByteArray) = mk [] := rfl
  have HC := Lib.hid H
  clear H
  go_enter Tryd.func5, Tryd.ntmps5
  simp only [e0]
  clear e0
  go_wp2_with fail
  refine (HC.out.d _).mono ?_
  rintro e w0 ⟨rfl, hb⟩
  have H0 : Hid (Below W.heap.size W w0) := Lib.hid (hb)
  clear hb
  go_wp2_with fail
  refine (HC.out.a _).mono ?_
  rintro e w1 ⟨rfl, hb⟩
  have H1 : Hid (Below W.heap.size W w1) := Lib.hid (ext_trans H0.out hb)
  clear hb
  go_wp2_with fail
  refine (HC.out.da _).mono ?_
  rintro e w2 ⟨rfl, hb⟩
  have H2 : Hid (Below W.heap.size W w2) := Lib.hid (ext_trans H1.out hb)
  clear hb
  go_wp2_with fail
  refine (HC.out.z _).mono ?_
  rintro e w3 ⟨rfl, hb⟩
  have H3 : Hid (Below W.heap.size W w3) := Lib.hid (ext_trans H2.out hb)
  clear hb
  go_wp2_with fail
  refine (HC.out.u _).mono ?_
  rintro e w4 ⟨rfl, hb⟩
  have H4 : Hid (Below W.heap.size W w4) := Lib.hid (ext_trans H3.out hb)
  clear hb
  go_wp2_with fail
  refine (HC.out.zu _).mono ?_
  rintro e w5 ⟨rfl, hb⟩
  have H5 : Hid (Below W.heap.size W w5) := Lib.hid (ext_trans H4.out hb)
  clear hb
  go_wp2_with fail
  refine (HC.out.w_ _).mono ?_
  rintro e w6 ⟨rfl, hb⟩
  have H6 : Hid (Below W.heap.size W w6) := Lib.hid (ext_trans H5.out hb)
  clear hb
  go_wp2_with fail
  refine (HC.out.n _).mono ?_
  rintro e w7 ⟨rfl, hb⟩
  have H7 : Hid (Below W.heap.size W w7) := Lib.hid (ext_trans H6.out hb)
  clear hb
  go_wp2_with fail
  refine (HC.out.b _).mono ?_
  rintro e w8 ⟨rfl, hb⟩
  have H8 : Hid (Below W.heap.size W w8) := Lib.hid (ext_trans H7.out hb)
  clear hb
  go_wp2_with fail
  refine (HC.out.s _).mono ?_
  rintro e w9 ⟨rfl, hb⟩
  have H9 : Hid (Below W.heap.size W w9) := Lib.hid (ext_trans H8.out hb)
  clear hb
  go_wp2_with fail
  go_ret2
  exact ⟨rfl, H9.out⟩
set_option maxRecDepth 100000 in
set_option maxHeartbeats 4000000 in
theorem ref_Named119 {tD tA tDA tZ tU tZU tW t9 t3 tS : Tx} (H : NamedC tD tA tDA tZ tU tZU tW t9 t3 tS) (W : World) : Calls Tryd.prog 5 #[.int .u8 119] W fun e w' => e = .returned (.tuple #[.string (mk tW), .bool true]) ∧ Below W.heap.size W w' := by
  have e0 : (⟨#[]⟩ : ByteArray) = mk [] := rfl
  have HC := Lib.hid H
  clear H
  go_enter Tryd.func5, Tryd.ntmps5
  simp only [e0]
  clear e0
  go_wp2_with fail
  refine (HC.out.d _).mono ?_
  rintro e w0 ⟨rfl, hb⟩
  have H0 : Hid (Below W.heap.size W w0) := Lib.hid (hb)
  clear hb
  go_wp2_with fail
  refine (HC.out.a _).mono ?_
  rintro e w1 ⟨rfl, hb⟩
  have H1 : Hid (Below W.heap.size W w1) := Lib.hid (ext_trans H0.out hb)
  clear hb
  go_wp2_with fail
  refine (HC.out.da _).mono ?_
  rintro e w2 ⟨rfl, hb⟩
  have H2 : Hid (Below W.heap.size W w2) := Lib.hid (ext_trans H1.out hb)
  clear hb
  go_wp2_with fail
  refine (HC.out.z _).mono ?_
  rintro e w3 ⟨rfl, hb⟩
  have H3 : Hid (Below W.heap.size W w3) := Lib.hid (ext_trans H2.out hb)
  clear hb
  go_wp2_with fail
  refine (HC.out.u _).mono ?_
  rintro e w4 ⟨rfl, hb⟩
  have H4 : Hid (Below W.heap.size W w4) := Lib.hid (ext_trans H3.out hb)
  clear hb
  go_wp2_with fail
  refine (HC.out.zu _).mono ?_
  rintro e w5 ⟨rfl, hb⟩
  have H5 : Hid (Below W.heap.size W w5) := Lib.hid (ext_trans H4.out hb)
  clear hb
  go_wp2_with fail
  refine (HC.out.w_ _).mono ?_
  rintro e w6 ⟨rfl, hb⟩
  have H6 : Hid (Below W.heap.size W w6) := Lib.hid (ext_trans H5.out hb)
  clear hb
  go_wp2_with fail
  refine (HC.out.n _).mono ?_
  rintro e w7 ⟨rfl, hb⟩
  have H7 : Hid (Below W.heap.size W w7) := Lib.hid (ext_trans H6.out hb)
  clear hb
  go_wp2_with fail
  refine (HC.out.b _).mono ?_
  rintro e w8 ⟨rfl, hb⟩
  have H8 : Hid (Below W.heap.size W w8) := Lib.hid (ext_trans H7.out hb)
  clear hb
  go_wp2_with fail
  refine (HC.out.s _).mono ?_
  rintro e w9 ⟨rfl, hb⟩
  have H9 : Hid (Below W.heap.size W w9) := Lib.hid (ext_trans H8.out hb)
  clear hb
  go_wp2_with fail
  go_ret2
  exact ⟨rfl, H9.out⟩
set_option maxRecDepth 100000 in
set_option maxHeartbeats 4000000 in
theorem ref_Named115 {tD tA tDA tZ tU tZU tW t9 t3 tS : Tx} (H : NamedC tD tA tDA tZ tU tZU tW t9 t3 tS) (W : World) : Calls Tryd.prog 5 #[.int .u8 115] W fun e w' => e = .returned (.tuple #[.string (mk tS), .bool true]) ∧ Below W.heap.size W w' := by
  have e0 : (⟨#[]⟩ : ByteArray) = mk [] := rfl
  have HC := Lib.hid H
  clear H
  go_enter Tryd.func5, Tryd.ntmps5
  simp only [e0]
  clear e0
  go_wp2_with fail
  refine (HC.out.d _).mono ?_
  rintro e w0 ⟨rfl, hb⟩
  have H0 : Hid (Below W.heap.size W w0) := Lib.hid (hb)
  clear hb
  go_wp2_with fail
  refine (HC.out.a _).mono ?_
  rintro e w1 ⟨rfl, hb⟩
  have H1 : Hid (Below W.heap.size W w1) := Lib.hid (ext_trans H0.out hb)
  clear hb
  go_wp2_with fail
  refine (HC.out.da _).mono ?_
  rintro e w2 ⟨rfl, hb⟩
  have H2 : Hid (Below W.heap.size W w2) := Lib.hid (ext_trans H1.out hb)
  clear hb
  go_wp2_with fail
  refine (HC.out.z _).mono ?_
  rintro e w3 ⟨rfl, hb⟩
  have H3 : Hid (Below W.heap.size W w3) := Lib.hid (ext_trans H2.out hb)
  clear hb
  go_wp2_with fail
  refine (HC.out.u _).mono ?_
  rintro e w4 ⟨rfl, hb⟩
  have H4 : Hid (Below W.heap.size W w4) := Lib.hid (ext_trans H3.out hb)
  clear hb
  go_wp2_with fail
  refine (HC.out.zu _).mono ?_
  rintro e w5 ⟨rfl, hb⟩
  have H5 : Hid (Below W.heap.size W w5) := Lib.hid (ext_trans H4.out hb)
  clear hb
  go_wp2_with fail
  refine (HC.out.w_ _).mono ?_
  rintro e w6 ⟨rfl, hb⟩
  have H6 : Hid (Below W.heap.size W w6) := Lib.hid (ext_trans H5.out hb)
  clear hb
  go_wp2_with fail
  refine (HC.out.n _).mono ?_
  rintro e w7 ⟨rfl, hb⟩
  have H7 : Hid (Below W.heap.size W w7) := Lib.hid (ext_trans H6.out hb)
  clear hb
  go_wp2_with fail
  refine (HC.out.b _).mono ?_
  rintro e w8 ⟨rfl, hb⟩
  have H8 : Hid (Below W.heap.size W w8) := Lib.hid (ext_trans H7.out hb)
  clear hb
  go_wp2_with fail
  refine (HC.out.s _).mono ?_
  rintro e w9 ⟨rfl, hb⟩
  have H9 : Hid (Below W.heap.size W w9) := Lib.hid (ext_trans H8.out hb)
  clear hb
  go_wp2_with fail
  go_ret2
  exact ⟨rfl, H9.out⟩
set_option maxRecDepth 100000 in
set_option maxHeartbeats 4000000 in
theorem ref_Named68 {tD tA tDA tZ tU tZU tW t9 t3 tS : Tx} (H : NamedC tD tA tDA tZ tU tZU tW t9 t3 tS) {tND : Tx} (hN : ∀ w, Calls Tryd.prog 14 #[.string (mk tD)] w fun e w' => e = .returned (.string (mk tND)) ∧ Below w.heap.size w w') (W : World) : Calls Tryd.prog 5 #[.int .u8 68] W fun e w' => e = .returned (.tuple #[.string (mk tND), .bool true]) ∧ Below W.heap.size W w' := by
  have e0 : (⟨#[]⟩ : ByteArray) = mk [] := rfl
  have HC := Lib.hid H
  clear H
  have HN := Lib.hid hN
  clear hN
  go_enter Tryd.func5, Tryd.ntmps5
  simp only [e0]
  clear e0
  go_wp2_with fail
  refine (HC.out.d _).mono ?_
  rintro e w0 ⟨rfl, hb⟩
  have H0 : Hid (Below W.heap.size W w0) := Lib.hid (hb)
  clear hb
  go_wp2_with fail
  refine (HC.out.a _).mono ?_
  rintro e w1 ⟨rfl, hb⟩
  have H1 : Hid (Below W.heap.size W w1) := Lib.hid (ext_trans H0.out hb)
  clear hb
  go_wp2_with fail
  refine (HC.out.da _).mono ?_
  rintro e w2 ⟨rfl, hb⟩
  have H2 : Hid (Below W.heap.size W w2) := Lib.hid (ext_trans H1.out hb)
  clear hb
  go_wp2_with fail
  refine (HC.out.z _).mono ?_
  rintro e w3 ⟨rfl, hb⟩
  have H3 : Hid (Below W.heap.size W w3) := Lib.hid (ext_trans H2.out hb)
  clear hb
  go_wp2_with fail
  refine (HC.out.u _).mono ?_
  rintro e w4 ⟨rfl, hb⟩
  have H4 : Hid (Below W.heap.size W w4) := Lib.hid (ext_trans H3.out hb)
  clear hb
  go_wp2_with fail
  refine (HC.out.zu _).mono ?_
  rintro e w5 ⟨rfl, hb⟩
  have H5 : Hid (Below W.heap.size W w5) := Lib.hid (ext_trans H4.out hb)
  clear hb
  go_wp2_with fail
  refine (HC.out.w_ _).mono ?_
  rintro e w6 ⟨rfl, hb⟩
  have H6 : Hid (Below W.heap.size W w6) := Lib.hid (ext_trans H5.out hb)
  clear hb
  go_wp2_with fail
  refine (HC.out.n _).mono ?_
  rintro e w7 ⟨rfl, hb⟩
  have H7 : Hid (Below W.heap.size W w7) := Lib.hid (ext_trans H6.out hb)
  clear hb
  go_wp2_with fail
  refine (HC.out.b _).mono ?_
  rintro e w8 ⟨rfl, hb⟩
  have H8 : Hid (Below W.heap.size W w8) := Lib.hid (ext_trans H7.out hb)
  clear hb
  go_wp2_with fail
  refine (HC.out.s _).mono ?_
  rintro e w9 ⟨rfl, hb⟩
  have H9 : Hid (Below W.heap.size W w9) := Lib.hid (ext_trans H8.out hb)
  clear hb
  go_wp2_with fail
  refine (HN.out _).mono ?_
  rintro e wn ⟨rfl, hb⟩
  have HZ := Lib.hid (ext_trans H9.out hb)
  clear hb
  go_wp2_with fail
  go_ret2
  exact ⟨rfl, HZ.out⟩
set_option maxRecDepth 100000 in
set_option maxHeartbeats 4000000 in
theorem ref_Named87 {tD tA tDA tZ tU tZU tW t9 t3 tS : Tx} (H : NamedC tD tA tDA tZ tU tZU tW t9 t3 tS) {tNW : Tx} (hN : ∀ w, Calls Tryd.prog 14 #[.string (mk tW)] w fun e w' => e = .returned (.string (mk tNW)) ∧ Below w.heap.size w w') (W : World) : Calls Tryd.prog 5 #[.int .u8 87] W fun e w' => e = .returned (.tuple #[.string (mk tNW), .bool true]) ∧ Below W.heap.size W w' := by
  have e0 : (⟨#[]⟩ : ByteArray) = mk [] := rfl
  have HC := Lib.hid H
  clear H
  have HN := Lib.hid hN
  clear hN
  go_enter Tryd.func5, Tryd.ntmps5
  simp only [e0]
  clear e0
  go_wp2_with fail
  refine (HC.out.d _).mono ?_
  rintro e w0 ⟨rfl, hb⟩
  have H0 : Hid (Below W.heap.size W w0) := Lib.hid (hb)
  clear hb
  go_wp2_with fail
  refine (HC.out.a _).mono ?_
  rintro e w1 ⟨rfl, hb⟩
  have H1 : Hid (Below W.heap.size W w1) := Lib.hid (ext_trans H0.out hb)
  clear hb
  go_wp2_with fail
  refine (HC.out.da _).mono ?_
  rintro e w2 ⟨rfl, hb⟩
  have H2 : Hid (Below W.heap.size W w2) := Lib.hid (ext_trans H1.out hb)
  clear hb
  go_wp2_with fail
  refine (HC.out.z _).mono ?_
  rintro e w3 ⟨rfl, hb⟩
  have H3 : Hid (Below W.heap.size W w3) := Lib.hid (ext_trans H2.out hb)
  clear hb
  go_wp2_with fail
  refine (HC.out.u _).mono ?_
  rintro e w4 ⟨rfl, hb⟩
  have H4 : Hid (Below W.heap.size W w4) := Lib.hid (ext_trans H3.out hb)
  clear hb
  go_wp2_with fail
  refine (HC.out.zu _).mono ?_
  rintro e w5 ⟨rfl, hb⟩
  have H5 : Hid (Below W.heap.size W w5) := Lib.hid (ext_trans H4.out hb)
  clear hb
  go_wp2_with fail
  refine (HC.out.w_ _).mono ?_
  rintro e w6 ⟨rfl, hb⟩
  have H6 : Hid (Below W.heap.size W w6) := Lib.hid (ext_trans H5.out hb)
  clear hb
  go_wp2_with fail
  refine (HC.out.n _).mono ?_
  rintro e w7 ⟨rfl, hb⟩
  have H7 : Hid (Below W.heap.size W w7) := Lib.hid (ext_trans H6.out hb)
  clear hb
  go_wp2_with fail
  refine (HC.out.b _).mono ?_
  rintro e w8 ⟨rfl, hb⟩
  have H8 : Hid (Below W.heap.size W w8) := Lib.hid (ext_trans H7.out hb)
  clear hb
  go_wp2_with fail
  refine (HC.out.s _).mono ?_
  rintro e w9 ⟨rfl, hb⟩
  have H9 : Hid (Below W.heap.size W w9) := Lib.hid (ext_trans H8.out hb)
  clear hb
  go_wp2_with fail
  refine (HN.out _).mono ?_
  rintro e wn ⟨rfl, hb⟩
  have HZ := Lib.hid (ext_trans H9.out hb)
  clear hb
  go_wp2_with fail
  go_ret2
  exact ⟨rfl, HZ.out⟩
set_option maxRecDepth 100000 in
set_option maxHeartbeats 4000000 in
theorem ref_Named83 {tD tA tDA tZ tU tZU tW t9 t3 tS : Tx} (H : NamedC tD tA tDA tZ tU tZU tW t9 t3 tS) {tNS : Tx} (hN : ∀ w, Calls Tryd.prog 14 #[.string (mk tS)] w fun e w' => e = .returned (.string (mk tNS)) ∧ Below w.heap.size w w') (W : World) : Calls Tryd.prog 5 #[.int .u8 83] W fun e w' => e = .returned (.tuple #[.string (mk tNS), .bool true]) ∧ Below W.heap.size W w' := by
  have e0 : (⟨#[]⟩ : ByteArray) = mk [] := rfl
  have HC := Lib.hid H
  clear H
  have HN := Lib.hid hN
  clear hN
  go_enter Tryd.func5, Tryd.ntmps5
  simp only [e0]
  clear e0
  go_wp2_with fail
  refine (HC.out.d _).mono ?_
  rintro e w0 ⟨rfl, hb⟩
  have H0 : Hid (Below W.heap.size W w0) := Lib.hid (hb)
  clear hb
  go_wp2_with fail
  refine (HC.out.a _).mono ?_
  rintro e w1 ⟨rfl, hb⟩
  have H1 : Hid (Below W.heap.size W w1) := Lib.hid (ext_trans H0.out hb)
  clear hb
  go_wp2_with fail
  refine (HC.out.da _).mono ?_
  rintro e w2 ⟨rfl, hb⟩
  have H2 : Hid (Below W.heap.size W w2) := Lib.hid (ext_trans H1.out hb)
  clear hb
  go_wp2_with fail
  refine (HC.out.z _).mono ?_
  rintro e w3 ⟨rfl, hb⟩
  have H3 : Hid (Below W.heap.size W w3) := Lib.hid (ext_trans H2.out hb)
  clear hb
  go_wp2_with fail
  refine (HC.out.u _).mono ?_
  rintro e w4 ⟨rfl, hb⟩
  have H4 : Hid (Below W.heap.size W w4) := Lib.hid (ext_trans H3.out hb)
  clear hb
  go_wp2_with fail
  refine (HC.out.zu _).mono ?_
  rintro e w5 ⟨rfl, hb⟩
  have H5 : Hid (Below W.heap.size W w5) := Lib.hid (ext_trans H4.out hb)
  clear hb
  go_wp2_with fail
  refine (HC.out.w_ _).mono ?_
  rintro e w6 ⟨rfl, hb⟩
  have H6 : Hid (Below W.heap.size W w6) := Lib.hid (ext_trans H5.out hb)
  clear hb
  go_wp2_with fail
  refine (HC.out.n _).mono ?_
  rintro e w7 ⟨rfl, hb⟩
  have H7 : Hid (Below W.heap.size W w7) := Lib.hid (ext_trans H6.out hb)
  clear hb
  go_wp2_with fail
  refine (HC.out.b _).mono ?_
  rintro e w8 ⟨rfl, hb⟩
  have H8 : Hid (Below W.heap.size W w8) := Lib.hid (ext_trans H7.out hb)
  clear hb
  go_wp2_with fail
  refine (HC.out.s _).mono ?_
  rintro e w9 ⟨rfl, hb⟩
  have H9 : Hid (Below W.heap.size W w9) := Lib.hid (ext_trans H8.out hb)
  clear hb
  go_wp2_with fail
  refine (HN.out _).mono ?_
  rintro e wn ⟨rfl, hb⟩
  have HZ := Lib.hid (ext_trans H9.out hb)
  clear hb
  go_wp2_with fail
  go_ret2
  exact ⟨rfl, HZ.out⟩
set_option maxRecDepth 100000 in
set_option maxHeartbeats 4000000 in
theorem ref_NamedNo {tD tA tDA tZ tU tZU tW t9 t3 tS : Tx} (H : NamedC tD tA tDA tZ tU tZU tW t9 t3 tS) {tN : Tx} (hN : ∀ w, Calls Tryd.prog 7 #[.int .i64 1, .int .i64 0] w fun e w' => e = .returned (.string (mk tN)) ∧ Below w.heap.size w w') (c : Nat) (hn : c ≠ 100 ∧ c ≠ 119 ∧ c ≠ 115 ∧ c ≠ 68 ∧ c ≠ 87 ∧ c ≠ 83) (W : World) : Calls Tryd.prog 5 #[.int .u8 c] W fun e w' => e = .returned (.tuple #[.string (mk tN), .bool false]) ∧ Below W.heap.size W w' := by
  have e0 : (⟨#[]⟩ : ByteArray) = mk [] := rfl
  have HC := Lib.hid H
  clear H
  have HN := Lib.hid hN
  clear hN
  have i0 : ((c : Int) == 100) = false := by simp; omega
  have i1 : ((c : Int) == 119) = false := by simp; omega
  have i2 : ((c : Int) == 115) = false := by simp; omega
  have i3 : ((c : Int) == 68) = false := by simp; omega
  have i4 : ((c : Int) == 87) = false := by simp; omega
  have i5 : ((c : Int) == 83) = false := by simp; omega
  clear hn
  go_enter Tryd.func5, Tryd.ntmps5
  simp only [e0]
  clear e0
  go_wp2_with fail
  refine (HC.out.d _).mono ?_
  rintro e w0 ⟨rfl, hb⟩
  have H0 : Hid (Below W.heap.size W w0) := Lib.hid (hb)
  clear hb
  go_wp2_with fail
  refine (HC.out.a _).mono ?_
  rintro e w1 ⟨rfl, hb⟩
  have H1 : Hid (Below W.heap.size W w1) := Lib.hid (ext_trans H0.out hb)
  clear hb
  go_wp2_with fail
  refine (HC.out.da _).mono ?_
  rintro e w2 ⟨rfl, hb⟩
  have H2 : Hid (Below W.heap.size W w2) := Lib.hid (ext_trans H1.out hb)
  clear hb
  go_wp2_with fail
  refine (HC.out.z _).mono ?_
  rintro e w3 ⟨rfl, hb⟩
  have H3 : Hid (Below W.heap.size W w3) := Lib.hid (ext_trans H2.out hb)
  clear hb
  go_wp2_with fail
  refine (HC.out.u _).mono ?_
  rintro e w4 ⟨rfl, hb⟩
  have H4 : Hid (Below W.heap.size W w4) := Lib.hid (ext_trans H3.out hb)
  clear hb
  go_wp2_with fail
  refine (HC.out.zu _).mono ?_
  rintro e w5 ⟨rfl, hb⟩
  have H5 : Hid (Below W.heap.size W w5) := Lib.hid (ext_trans H4.out hb)
  clear hb
  go_wp2_with fail
  refine (HC.out.w_ _).mono ?_
  rintro e w6 ⟨rfl, hb⟩
  have H6 : Hid (Below W.heap.size W w6) := Lib.hid (ext_trans H5.out hb)
  clear hb
  go_wp2_with fail
  refine (HC.out.n _).mono ?_
  rintro e w7 ⟨rfl, hb⟩
  have H7 : Hid (Below W.heap.size W w7) := Lib.hid (ext_trans H6.out hb)
  clear hb
  go_wp2_with fail
  refine (HC.out.b _).mono ?_
  rintro e w8 ⟨rfl, hb⟩
  have H8 : Hid (Below W.heap.size W w8) := Lib.hid (ext_trans H7.out hb)
  clear hb
  go_wp2_with fail
  refine (HC.out.s _).mono ?_
  rintro e w9 ⟨rfl, hb⟩
  have H9 : Hid (Below W.heap.size W w9) := Lib.hid (ext_trans H8.out hb)
  clear hb
  go_wp2_with fail
  refine (HN.out _).mono ?_
  rintro e wn ⟨rfl, hb⟩
  have HZ := Lib.hid (ext_trans H9.out hb)
  clear hb
  go_wp2_with fail
  go_ret2
  exact ⟨rfl, HZ.out⟩
theorem ref_Named (c : Nat) (W : World) :
    Calls Tryd.prog 5 #[.int .u8 c] W fun e w' => e = .returned (.tuple #[.string (mk (namedT c).1), .bool (namedT c).2]) ∧ Below W.heap.size W w' := by
  by_cases h1 : c = 100
  · subst h1; exact ref_Named100 namedC W
  by_cases h2 : c = 119
  · subst h2; exact ref_Named119 namedC W
  by_cases h3 : c = 115
  · subst h3; exact ref_Named115 namedC W
  by_cases h4 : c = 68
  · subst h4; exact ref_Named68 namedC (run_not dB) W
  by_cases h5 : c = 87
  · subst h5; exact ref_Named87 namedC (run_not wB) W
  by_cases h6 : c = 83
  · subst h6; exact ref_Named83 namedC (run_not sB) W
  have e : namedT c = (tb noB, false) := by unfold namedT; rw [if_neg h1, if_neg h2, if_neg h3, if_neg h4, if_neg h5, if_neg h6]
  rw [e]
  refine ref_NamedNo namedC (fun w => ?_) c ⟨h1, h2, h3, h4, h5, h6⟩ W
  rw [← none_eq]
  exact ref_Span 1 0 w (by decide)
end Go.Proofs.YtmjggjccmbiheabDoor
