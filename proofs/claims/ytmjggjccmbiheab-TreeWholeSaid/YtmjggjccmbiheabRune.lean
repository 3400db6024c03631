/- strings.IndexRune, ContainsRune, IndexAny, ContainsAny where the texts may hold bytes beyond ASCII: what they answer at this seat's constants. -/
import Derived.Test.YtmjggjccmbiheabBase
import Derived.Laws.RangeAny
import Derived.Laws.Runes
import Derived.RegionTactic
import Derived.ChangeAlike
import Derived.BigQuiet
import Derived.Deep.QuietTactic
import Derived.Lib.Hide
import Derived.IntWalk
import Derived.Lib.IndexLaws
import Derived.Lib.OthersKept
import Derived.Lib.IndexAny
import Derived.WalkSmall
import Derived.Deep.LoopGhost
namespace Go.Proofs.Ytmjggjccmbiheab
open Go.RowKit Go.Proofs

theorem indexByte_none {l : List UInt8} {c : UInt8} (h : ∀ b ∈ l, b ≠ c) : Lib.indexByte l c = -1 := by
  have h1 := Lib.indexByte_ge l c
  apply Decidable.byContradiction
  intro h2
  obtain ⟨o, ho⟩ : ∃ o : Nat, Lib.indexByte l c = o := ⟨(Lib.indexByte l c).toNat, by omega⟩
  have h3 := (Lib.indexByte_some ho).1
  exact h c (List.mem_of_getElem? h3) rfl
set_option maxHeartbeats 1000000 in
set_option maxRecDepth 100000 in
theorem indexRune_valid (s rs : ByteArray) (m : Nat) (r : Int) (w : World) (h1 : 128 ≤ r) (h2 : r ≤ 2147483647) (h3 : (r == 65533) = false) (h4 : Lib.validRune r = true) (he : Utf8.encode r = rs)
    (hm : rs.size = m + 1) (n1 : 1 ≤ m) (n2 : m ≤ 3) (_hs : s.size ≤ 8)
    (hb : ∀ (h : m < s.size) (h' : m < rs.size), ((s[m]'h).toNat : Int) < 128 ∧ 128 ≤ ((rs[m]'h').toNat : Int))
    (hi : ∀ h' : m < rs.size, Lib.indexByte (List.take (s.size - (m + 1)) (List.drop (m + 1) s.data.toList)) (rs[m]'h') = -1) :
    Calls Try.prog 60 #[.string s, .int .i32 r] w fun e w' => e = .returned (.int .i64 (-1)) ∧ ∃ n, w' = w.drewN n := by
  have H4 := Lib.hid h4
  clear h4
  have h' : m < rs.size := by omega
  by_cases h : m < s.size
  · obtain ⟨b1, b2⟩ := hb h h'
    have hi' := hi h'
    have hne : ((s[m].toNat : Int) != (rs[m].toNat : Int)) = true := by rw [bne_iff_ne]; omega
    have i1 : (0 : Int) ≤ (m : Int) := by omega
    have i2 : (m : Int) < (s.size : Int) := by omega
    have i3 : (m : Int) < (m : Int) + 1 := by omega
    have i4 : IntKind.i64.wrap ((m : Int) + 1) = (m : Int) + 1 := IntWalk.i64_in _ (by omega)
    have i5 : (0 : Int) ≤ (m : Int) + 1 := by omega
    have i6 : ((m : Int) + 1).toNat = m + 1 := by omega
    have i7 : (m : Int) + 1 ≤ (s.size : Int) := by omega
    have i8 : ((rs[m].toNat : Int)).toNat.toUInt8 = rs[m] := by simp
    clear hi hb
    go_enter Try.func60, Try.ntmps60
    go_wp2_with (go_at_call 68; refine (Try.utf8_ValidRune _ _).mono ?_; rintro e w' ⟨rfl, rfl⟩; rw [H4.out])
    go_step3
    go_wp2_with fail
    refine wp_loop_rounds 1 ?_
    rw [rounds_succ]
    go_wp2_with fail
    go_step3
    go_wp2_with fail
    go_quiet (fail)
    go_wp2_with fail
    generalize hw2 : w'.drewN nq = w2
    have HW2 := Lib.hid hw2
    clear hw2
    go_quiet ((go_at_call 67; exact Calls.quiet_of_same (Try.strings_IndexByte _ _ _)))
    go_wp2_with fail
    rw [Exit.noGoto_ret]
    go_wp2_with fail
    rw [Exit.noGoto_ret]
    go_ret
    exact ⟨rfl, _, by rw [← HW2.out]; exact World.drewN_drewN ..⟩
  · clear hi hb
    have i2 : (s.size : Int) ≤ (m : Int) := by omega
    go_enter Try.func60, Try.ntmps60
    go_wp2_with (go_at_call 68; refine (Try.utf8_ValidRune _ _).mono ?_; rintro e w' ⟨rfl, rfl⟩; rw [H4.out])
    go_step3
    go_wp2_with fail
    refine wp_loop_rounds 1 ?_
    rw [rounds_succ]
    go_wp2_with fail
    rw [Exit.noGoto_ret]
    go_ret
    exact ⟨rfl, 0, rfl⟩

theorem encode_last (r : Int) (hv : Lib.validRune r = true) (h1 : 128 ≤ r) : ∃ m, (Utf8.encode r).size = m + 1 ∧ 1 ≤ m ∧ m ≤ 3 ∧ ∀ h' : m < (Utf8.encode r).size, 128 ≤ (((Utf8.encode r)[m]'h').toNat : Int) := by
  obtain ⟨a, b, c⟩ := encode_facts r ((validRune_eq r).trans hv) h1
  refine ⟨(Utf8.encode r).size - 1, by omega, by omega, by omega, fun h' => ?_⟩
  have := c h'
  omega

set_option maxHeartbeats 1000000 in
set_option maxRecDepth 100000 in
/-- A short ASCII text holds no rune beyond ASCII. -/
theorem indexRune_high (s : ByteArray) (r : Int) (w : World) (h1 : 128 ≤ r) (h2 : r ≤ 2147483647) (hs : s.size ≤ 8) (ha : ∀ b ∈ s.data.toList, b.toNat < 128) :
    Calls Try.prog 60 #[.string s, .int .i32 r] w fun e w' => e = .returned (.int .i64 (-1)) ∧ Below w.heap.size w w' := by
  have hget : ∀ (i : Nat) (h : i < s.size), (s[i]'h).toNat < 128 := fun i h => ha _ (by
    have : s[i] = s.data.toList[i]'(by rw [Array.length_toList]; exact h) := rfl
    rw [this]; exact List.getElem_mem _)
  by_cases h3 : r = 65533
  · subst h3
    have HA := Lib.hid hget
    clear hget ha
    go_enter Try.func60, Try.ntmps60
    go_wp2_with fail
    go_loopg [5, 6, 176, 177] s.size (fun g _ _ _ _ wx => ∃ i : Nat, i + g = s.size ∧ wx = w.iter s i)
    case atStart => exact ⟨0, by omega, rfl⟩
    case round =>
      obtain ⟨i, hig, rfl⟩ := hrel
      cases gk with
      | zero =>
        obtain rfl : i = s.size := by omega
        have hnx := fun ty => run_next_end (P := Try.prog) w s s.size ty (Nat.lt_irrefl _)
        go_wp2
        go_ret
        exact ⟨rfl, (Below.refl _ _).alloc (Nat.le_refl _) _⟩
      | succ g =>
        have hi : i < s.size := by omega
        have hx := HA.out i hi
        have hnx := fun ty => run_next_ascii (P := Try.prog) w s i ty hi hx
        have hne : ((s[i].toNat : Int) == 65533) = false := beq_eq_false_iff_ne.2 (by omega)
        go_wp2
        go_roundg g
        case measure => omega
        case rel => exact ⟨i + 1, by omega, rfl⟩
  · have h3' : (r == 65533) = false := beq_eq_false_iff_ne.2 h3
    cases h4 : Lib.validRune r
    · have H4 := Lib.hid h4
      clear h4
      go_enter Try.func60, Try.ntmps60
      go_wp2_with (go_at_call 68; refine (Try.utf8_ValidRune _ _).mono ?_; rintro e w' ⟨rfl, rfl⟩; rw [H4.out])
      go_ret
      exact ⟨rfl, Below.refl _ _⟩
    · obtain ⟨m, e1, e2, e3, e4⟩ := encode_last r h4 h1
      refine (indexRune_valid s _ m r w h1 h2 h3' h4 rfl e1 e2 e3 hs (fun h h' => ⟨by have := hget m h; omega, e4 h'⟩) (fun h' => ?_)).mono ?_
      · apply indexByte_none
        intro b hb
        have h6 := ha b (List.mem_of_mem_drop (List.mem_of_mem_take hb))
        have h7 := e4 h'
        rintro rfl
        omega
      · rintro e w' ⟨rfl, n, rfl⟩
        refine ⟨rfl, ?_⟩
        induction n with
        | zero => exact Below.refl _ _
        | succ n ih => rw [← World.drew_drewN]; exact ih.drew

/-- What decoding passes over beyond ASCII is beyond ASCII. -/
theorem decode_skip (s : ByteArray) (i : Nat) (h : i < s.size) (ha : 128 ≤ (s[i]'h).toNat) :
    i + (Utf8.decode s i).2 ≤ s.size ∧ ∀ j (hj : j < s.size), i ≤ j → j < i + (Utf8.decode s i).2 → 128 ≤ (s[j]'hj).toNat := by
  have hn : ¬ (s[i]'h).toNat < 128 := by omega
  have hg : ∀ k (hk : k < s.size), s.get! k = s[k]'hk := fun k hk => get_at s k hk
  have one : i + 1 ≤ s.size ∧ ∀ j (hj : j < s.size), i ≤ j → j < i + 1 → 128 ≤ (s[j]'hj).toNat := ⟨by omega, fun j hj a b => by
    obtain rfl : i = j := (by omega)
    exact ha⟩
  have cont : ∀ k, (decide (i + k < s.size) && ((s.get! (i + k)).toNat / 64 == 2)) = true → ∃ hk : i + k < s.size, 128 ≤ (s[i + k]'hk).toNat := fun k hk => by
    rw [Bool.and_eq_true, decide_eq_true_eq, beq_iff_eq] at hk
    exact ⟨hk.1, by rw [hg _ hk.1] at hk; omega⟩
  simp only [Utf8.decode, get_at s i h, hn, if_false]
  split
  · rename_i c2
    rw [Bool.and_eq_true] at c2
    obtain ⟨k1, b1⟩ := cont 1 c2.2
    split
    · exact ⟨by omega, fun j hj a b => by
        rcases (by omega : j = i ∨ j = i + 1) with rfl | rfl
        · exact ha
        · exact b1⟩
    · exact one
  · split
    · rename_i c3
      simp only [Bool.and_eq_true] at c3
      obtain ⟨k1, b1⟩ := cont 1 (by rw [Bool.and_eq_true]; exact c3.1.2)
      obtain ⟨k2, b2⟩ := cont 2 (by rw [Bool.and_eq_true]; exact c3.2)
      split
      · exact ⟨by omega, fun j hj a b => by
          rcases (by omega : j = i ∨ j = i + 1 ∨ j = i + 2) with rfl | rfl | rfl
          · exact ha
          · exact b1
          · exact b2⟩
      · exact one
    · split
      · rename_i c4
        simp only [Bool.and_eq_true] at c4
        obtain ⟨k1, b1⟩ := cont 1 (by rw [Bool.and_eq_true]; exact c4.1.1.2)
        obtain ⟨k2, b2⟩ := cont 2 (by rw [Bool.and_eq_true]; exact c4.1.2)
        obtain ⟨k3, b3⟩ := cont 3 (by rw [Bool.and_eq_true]; exact c4.2)
        split
        · exact ⟨by omega, fun j hj a b => by
            rcases (by omega : j = i ∨ j = i + 1 ∨ j = i + 2 ∨ j = i + 3) with rfl | rfl | rfl | rfl
            · exact ha
            · exact b1
            · exact b2
            · exact b3⟩
        · exact one
      · exact one

set_option maxHeartbeats 1000000 in
set_option maxRecDepth 100000 in
/-- A text of at most eight bytes, whatever they are, and two ASCII letters or more. -/
theorem indexAny_short (s chars : ByteArray) (w : World) (h2 : 2 ≤ chars.size) (h2' : chars.size ≤ 8) (h8 : s.size ≤ 8) (ha : ∀ b ∈ chars.data.toList, b.toNat < 128) :
    Calls Try.prog 52 #[.string s, .string chars] w fun e w' => e = .returned (.int .i64 (Lib.indexAny s.data.toList chars.data.toList)) ∧ Below w.heap.size w w' := by
  have hemp : chars.toList.isEmpty = false := by
    rw [list_of]
    cases h : chars.data.toList with
    | nil => have := Lib.size_eq chars; rw [h, List.length_nil] at this; omega
    | cons _ _ => rfl
  have hn1 : ((chars.size : Int) == 1) = false := beq_eq_false_iff_ne.2 (by omega)
  have h8z : decide ((8 : Int) < (s.size : Int)) = false := decide_eq_false (by omega)
  have HA := Lib.hid ha
  clear ha
  go_enter Try.func52, Try.ntmps52
  go_wp2_with (go_at_call 61; refine (Try.strings_shouldUseASCIISet _ _).mono ?_; rintro e w' ⟨rfl, hw⟩; rw [hw, h8z])
  go_loopg [9, 10] s.size (fun g _ _ wx => ∃ i : Nat, i + g = s.size ∧ wx.heap[w.heap.size]? = some (.stringIter s i) ∧ Below w.heap.size w wx ∧ Lib.NoAny s.data.toList chars.data.toList i)
  case atStart => exact ⟨0, by omega, heap_alloc_new w _, (Below.refl _ _).alloc (Nat.le_refl _) _, Lib.NoAny.zero _ _⟩
  case round =>
    obtain ⟨i, hig, hit, hbl, hno⟩ := hrel
    have HN := Lib.hid hno
    clear hno
    cases gk with
    | zero =>
      obtain rfl : i = s.size := by omega
      have hnx := fun ty => Lib.run_next_end_at (P := Try.prog) wr w.heap.size s s.size ty hit (Nat.lt_irrefl _)
      go_wp2
      go_ret
      exact ⟨by rw [Lib.indexAny_none (by rw [← Lib.size_eq]; exact HN.out)]; rfl, hbl⟩
    | succ g =>
      have hi : i < s.size := by omega
      obtain ⟨x, hx⟩ : ∃ x : UInt8, s[i]'hi = x := ⟨_, rfl⟩
      have hxl : s.data.toList[i]? = some x := by rw [← hx]; exact Lib.data_getElem? s i hi
      by_cases hx128 : x.toNat < 128
      · have hnx := fun ty => Lib.run_next_ascii_at (P := Try.prog) wr w.heap.size s i ty hit hi (by rw [hx]; exact hx128)
        have hit2 := Lib.iterAt_heap wr w.heap.size s i (i + 1) hit
        have hbl2 := Lib.below_iterAt hbl (Nat.le_refl _) s (i + 1)
        rw [hx] at hnx
        have Hx := Lib.hid hxl
        clear hxl hx
        have hcon := Lib.contains_iff_indexByte chars.data.toList x
        have hback : ((x.toNat : Int)).toNat.toUInt8 = x := by simp
        cases hin : chars.data.toList.contains x
        · rw [hin] at hcon
          have hlt : ¬ ((0 : Int) ≤ Lib.indexByte chars.data.toList x) := of_decide_eq_false hcon.symm
          clear hcon
          go_wp2_with (go_at_call 60; refine (Try.strings_IndexRune_ascii _ _ _ (by omega) (by omega)).mono ?_; rintro e w' ⟨rfl, hw⟩; rw [hw, hback])
          go_roundg g
          case measure => omega
          case rel => exact ⟨i + 1, by omega, hit2, hbl2, HN.out.succ Hx.out hin⟩
        · rw [hin] at hcon
          have hge : (0 : Int) ≤ Lib.indexByte chars.data.toList x := of_decide_eq_true hcon.symm
          clear hcon
          go_wp2_with (go_at_call 60; refine (Try.strings_IndexRune_ascii _ _ _ (by omega) (by omega)).mono ?_; rintro e w' ⟨rfl, hw⟩; rw [hw, hback])
          go_ret
          exact ⟨by rw [Lib.indexAny_hit HN.out Hx.out hin]; rfl, hbl2⟩
      · have hnx := fun ty => Lib.run_next_any_at (P := Try.prog) wr w.heap.size s i ty hit hi
        obtain ⟨d1, d2⟩ := decode_high s i hi (by rw [hx]; omega)
        obtain ⟨d3, d4⟩ := decode_skip s i hi (by rw [hx]; omega)
        have d5 := decode_le s i
        generalize hr : (Utf8.decode s i).1 = r at *
        generalize hn : (Utf8.decode s i).2 = n at *
        have HR := Lib.hid hr
        have HNn := Lib.hid hn
        have hit2 := Lib.iterAt_heap wr w.heap.size s i (i + n) hit
        have hbl2 := Lib.below_iterAt hbl (Nat.le_refl _) s (i + n)
        have hno2 : Lib.NoAny s.data.toList chars.data.toList (i + n) := by
          intro j b hj hb
          by_cases hji : j < i
          · exact HN.out j b hji hb
          · have hjs : j < s.size := by omega
            have hb2 := Lib.data_getElem? s j hjs
            rw [hb] at hb2
            have h5 := d4 j hjs (by omega) hj
            rw [← Option.some.inj hb2] at h5
            apply Decidable.byContradiction
            intro hc
            have := HA.out b (by simpa using hc)
            omega
        have HN2 := Lib.hid hno2
        clear hno2 d4 hr hn hx hxl
        go_wp2_with (go_at_call 60; refine (indexRune_high chars r _ (by omega) (by omega) h2' HA.out).mono ?_; rintro e w' ⟨rfl, hw⟩)
        have hlt : w.heap.size < (wr.iterAt w.heap.size s (i + n)).heap.size := (Array.getElem?_eq_some_iff.1 hit2).1
        go_roundg (s.size - (i + n))
        case measure => omega
        case rel => exact ⟨i + n, by omega, (hw.block _ hlt).trans hit2, hbl2.trans ⟨hw.os, hw.tape, hw.output, hw.size, fun k hk => hw.block k (Nat.lt_trans hk hlt)⟩, HN2.out⟩

theorem indexAny_any (s chars : ByteArray) (w : World) (h2 : 2 ≤ chars.size) (h2' : chars.size ≤ 8) (hs : s.size < 4294967281) (ha : ∀ b ∈ chars.data.toList, b.toNat < 128) :
    Calls Try.prog 52 #[.string s, .string chars] w fun e w' => e = .returned (.int .i64 (Lib.indexAny s.data.toList chars.data.toList)) ∧ Below w.heap.size w w' := by
  by_cases h8 : s.size ≤ 8
  · exact indexAny_short s chars w h2 h2' h8 ha
  · refine (Try.strings_IndexAny_long (fun _ => by kernel_rfl) s chars w h2 (by omega) hs (by omega) (fun j b hb => ha b (List.mem_of_getElem? hb))).mono ?_
    rintro e w' ⟨rfl, rfl⟩
    exact ⟨rfl, ((Below.refl _ _).alloc (Nat.le_refl _) _).alloc (by rw [World.size_alloc]; omega) _⟩
theorem containsAny_any (s chars : ByteArray) (w : World) (h2 : 2 ≤ chars.size) (h2' : chars.size ≤ 8) (hs : s.size < 4294967281) (ha : ∀ b ∈ chars.data.toList, b.toNat < 128) :
    Calls Try.prog 46 #[.string s, .string chars] w fun e w' => e = .returned (.bool (Lib.containsAny s.data.toList chars.data.toList)) ∧ Below w.heap.size w w' := by
  go_enter Try.func46, Try.ntmps46
  go_wp2_with (go_at_call 52; refine (indexAny_any s chars _ h2 h2' hs ha).mono ?_; rintro e w' ⟨rfl, hb⟩)
  go_ret
  exact ⟨rfl, by assumption⟩
end Go.Proofs.Ytmjggjccmbiheab
