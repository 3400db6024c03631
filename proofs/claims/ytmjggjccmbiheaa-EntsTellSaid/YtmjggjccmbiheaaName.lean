/- Which names may be: what name.Check, Right, Plain and the reference compute. -/
import Derived.Test.YtmjggjccmbiheaaRune
namespace Go.Proofs.Ytmjggjccmbiheaa
open Go.RowKit Go.Proofs
attribute [local go_sem] mk_list mk_size mk_data

def badB (b : UInt8) : Bool := b == 0 || b == 47
def checkI (l : List UInt8) : Int := if l = [] then 5 else if 64 < l.length then 11 else if l.any badB then 11 else if l = [46] ∨ l = [46, 46] then 6 else 0
def plainC (n : Int) : Bool := (decide (97 ≤ n) && decide (n ≤ 122)) || (decide (65 ≤ n) && decide (n ≤ 90)) || (decide (48 ≤ n) && decide (n ≤ 57)) || n == 46 || n == 95 || n == 43 || n == 45
def plainB (b : UInt8) : Bool := plainC b.toNat

theorem any_contains (l : List UInt8) : Lib.containsAny l [47, 0] = l.any badB := by
  unfold Lib.containsAny
  induction l with
  | nil => rfl
  | cons b l ih =>
    have hge := Lib.indexAny_ge [47, 0] l
    rw [List.any_cons, ← ih]
    have hb : ([47, 0] : List UInt8).contains b = badB b := by
      unfold badB; rw [Bool.or_comm, Bool.eq_iff_iff]; simp
    have hd : Lib.indexAny (b :: l) [47, 0] = if ([47, 0] : List UInt8).contains b then 0 else if Lib.indexAny l [47, 0] == -1 then -1 else Lib.indexAny l [47, 0] + 1 := rfl
    rw [hd, hb]
    cases hbb : badB b
    · simp only [Bool.false_eq_true, if_false, Bool.false_or]
      by_cases h : Lib.indexAny l [47, 0] = -1
      · rw [h]; decide
      · rw [if_neg (by simpa using h)]
        rw [decide_eq_true (by omega), decide_eq_true (by omega)]
    · simp

set_option maxHeartbeats 1000000 in
theorem name_Check (l : List UInt8) (w : World) (ha : l.length ≤ 140737488351300) :
    Calls Try.prog 22 #[.string (mk l)] w fun e w' => e = .returned (.int .i64 (checkI l)) ∧ Below w.heap.size w w' := by
  by_cases h1 : l = []
  · subst h1
    go_enter Try.func22, Try.ntmps22
    go_wp2
    go_ret
    exact ⟨rfl, Below.refl _ _⟩
  · have h1' : l.isEmpty = false := by cases l with | nil => exact absurd rfl h1 | cons _ _ => rfl
    by_cases h2 : 64 < l.length
    · have hf := Lib.hid (show checkI l = 11 by unfold checkI; rw [if_neg h1, if_pos h2])
      clear h1
      go_enter Try.func22, Try.ntmps22
      go_wp2
      go_ret
      exact ⟨ret_i64 (by rw [hf.out]), Below.refl _ _⟩
    · cases h3 : l.any badB
      · have hc := Lib.hid ((any_contains l).trans h3)
        by_cases h4 : l = [46]
        · subst h4
          clear h3 h1 h2 h1'
          go_enter Try.func22, Try.ntmps22
          go_wp2_with (go_at_call 72; refine (containsAny_any (mk [46]) ⟨#[47, 0]⟩ _ (by decide) (by decide) (by rw [mk_size]; decide) (by decide)).mono ?_; rintro e w' ⟨rfl, hb⟩; rw [mk_data, hc.out])
          go_ret
          exact ⟨rfl, hb⟩
        · by_cases h5 : l = [46, 46]
          · subst h5
            clear h3 h1 h2 h1' h4
            go_enter Try.func22, Try.ntmps22
            go_wp2_with (go_at_call 72; refine (containsAny_any (mk [46, 46]) ⟨#[47, 0]⟩ _ (by decide) (by decide) (by rw [mk_size]; decide) (by decide)).mono ?_; rintro e w' ⟨rfl, hb⟩; rw [mk_data, hc.out])
            go_ret
            exact ⟨rfl, hb⟩
          · have hf := Lib.hid (show checkI l = 0 by unfold checkI; rw [if_neg h1, if_neg h2, if_neg (by rw [h3]; decide), if_neg (by simp [h4, h5])])
            have h4' : (l == ([46] : List UInt8)) = false := by simpa using h4
            have h5' : (l == ([46, 46] : List UInt8)) = false := by simpa using h5
            clear h3 h1 h4 h5
            go_enter Try.func22, Try.ntmps22
            go_wp2_with (go_at_call 72; refine (containsAny_any (mk l) ⟨#[47, 0]⟩ _ (by decide) (by decide) (by rw [mk_size]; omega) (by decide)).mono ?_; rintro e w' ⟨rfl, hb⟩; rw [mk_data, hc.out])
            go_ret
            exact ⟨ret_i64 (by rw [hf.out]), hb⟩
      · have hc := Lib.hid ((any_contains l).trans h3)
        have hf := Lib.hid (show checkI l = 11 by unfold checkI; rw [if_neg h1, if_neg h2, if_pos h3])
        clear h3 h1
        go_enter Try.func22, Try.ntmps22
        go_wp2_with (go_at_call 72; refine (containsAny_any (mk l) ⟨#[47, 0]⟩ _ (by decide) (by decide) (by rw [mk_size]; omega) (by decide)).mono ?_; rintro e w' ⟨rfl, hb⟩; rw [mk_data, hc.out])
        go_ret
        exact ⟨ret_i64 (by rw [hf.out]), hb⟩

theorem name_Right (l : List UInt8) (w : World) (ha : l.length ≤ 140737488351300) :
    Calls Try.prog 21 #[.string (mk l)] w fun e w' => e = .returned (.bool (checkI l == 0)) ∧ Below w.heap.size w w' := by
  go_enter Try.func21, Try.ntmps21
  go_wp2_with (go_at_call 22; refine (name_Check l _ ha).mono ?_; rintro e w' ⟨rfl, hb⟩)
  go_ret
  exact ⟨rfl, hb⟩

theorem four_signs : ∀ m ∈ List.range 128, (decide (0 ≤ Lib.indexByte [46, 95, 43, 45] m.toUInt8)) = ((m == 46) || (m == 95) || (m == 43) || (m == 45)) := by decide +kernel
theorem sign_of (n : Int) (h0 : 0 ≤ n) (h1 : n < 128) (a : ¬ (97 ≤ n ∧ n ≤ 122)) (b : ¬ (65 ≤ n ∧ n ≤ 90)) (c : ¬ (48 ≤ n ∧ n ≤ 57)) : plainC n = decide (0 ≤ Lib.indexByte [46, 95, 43, 45] n.toNat.toUInt8) := by
  obtain ⟨m, rfl⟩ := Int.eq_ofNat_of_zero_le h0
  rw [Int.toNat_natCast, four_signs m (List.mem_range.2 (by omega))]
  unfold plainC
  rw [Bool.eq_iff_iff]
  simp
  omega

set_option maxHeartbeats 1000000 in
theorem name_plain (n : Int) (w : World) (h0 : 0 ≤ n) (h1 : n ≤ 2147483647) :
    Calls Try.prog 71 #[.int .i32 n] w fun e w' => e = .returned (.bool (plainC n)) ∧ Below w.heap.size w w' := by
  by_cases a : 97 ≤ n ∧ n ≤ 122
  · obtain ⟨a1, a2⟩ := a
    have hf := Lib.hid (show plainC n = true by unfold plainC; rw [decide_eq_true a1, decide_eq_true a2]; simp)
    go_enter Try.func71, Try.ntmps71
    go_wp2
    go_ret
    exact ⟨ret_bool (by rw [hf.out]), Below.refl _ _⟩
  · by_cases b : 65 ≤ n ∧ n ≤ 90
    · obtain ⟨b1, b2⟩ := b
      have a1 : n < 97 := by omega
      have hf := Lib.hid (show plainC n = true by unfold plainC; rw [decide_eq_true b1, decide_eq_true b2]; simp)
      clear a
      go_enter Try.func71, Try.ntmps71
      go_wp2
      go_ret
      exact ⟨ret_bool (by rw [hf.out]), Below.refl _ _⟩
    · by_cases c : 48 ≤ n ∧ n ≤ 57
      · obtain ⟨c1, c2⟩ := c
        have a1 : n < 65 := by omega
        have hf := Lib.hid (show plainC n = true by unfold plainC; rw [decide_eq_true c1, decide_eq_true c2]; simp)
        clear a b
        go_enter Try.func71, Try.ntmps71
        go_wp2
        go_ret
        exact ⟨ret_bool (by rw [hf.out]), Below.refl _ _⟩
      · by_cases d : n < 128
        · have hf := Lib.hid (sign_of n h0 d a b c)
          have HC := Lib.hid (And.intro a (And.intro b c))
          clear a b c
          go_enter Try.func71, Try.ntmps71
          go_wp2_with (go_at_call 101; refine (Try.strings_ContainsRune_ascii _ n _ h0 d).mono ?_; rintro e w' ⟨rfl, rfl⟩)
          all_goals
            go_ret
            obtain ⟨a, b, c⟩ := HC.out
            exact ⟨ret_bool (by first | (rw [hf.out]; done) | (rw [hf.out]; simp <;> omega)), Below.refl _ _⟩
        · have hf := Lib.hid (show plainC n = false by unfold plainC; simp; omega)
          have a1 : 122 < n := by omega
          clear a b c
          go_enter Try.func71, Try.ntmps71
          go_wp2_with (go_at_call 101; refine (containsRune_high _ n _ (by omega) h1 (by decide) (by decide)).mono ?_; rintro e w' ⟨rfl, hb⟩)
          go_ret
          exact ⟨ret_bool (by rw [hf.out]; simp; omega), hb⟩

theorem any_take {l : List UInt8} {p : UInt8 → Bool} {k : Nat} (h : k < l.length) : (l.take (k + 1)).any p = ((l.take k).any p || p l[k]) := by
  rw [List.take_succ_eq_append_getElem h, List.any_append]; simp
theorem all_take {l : List UInt8} {p : UInt8 → Bool} {k : Nat} (h : k < l.length) : (l.take (k + 1)).all p = ((l.take k).all p && p l[k]) := by
  rw [List.take_succ_eq_append_getElem h, List.all_append]; simp
theorem any_at {l : List UInt8} {p : UInt8 → Bool} {k : Nat} (h : k < l.length) (hp : p l[k] = true) : l.any p = true := List.any_eq_true.2 ⟨_, List.getElem_mem h, hp⟩
theorem all_at {l : List UInt8} {p : UInt8 → Bool} {k : Nat} (h : k < l.length) (hp : p l[k] = false) : l.all p = false := by
  rw [List.all_eq_false]; exact ⟨_, List.getElem_mem h, by simp [hp]⟩
theorem isEmpty_of {l : List UInt8} (h : l ≠ []) : l.isEmpty = false := by cases l with | nil => exact absurd rfl h | cons _ _ => rfl

set_option maxHeartbeats 1000000 in
theorem ref_Check (l : List UInt8) (w : World) (ha : l.length ≤ 140737488351300) :
    Calls Try.prog 23 #[.string (mk l)] w fun e w' => e = .returned (.int .i64 (checkI l)) ∧ w = w' := by
  by_cases h1 : l = []
  · subst h1
    go_enter Try.func23, Try.ntmps23
    go_wp2
    go_ret
    exact ⟨rfl, rfl⟩
  · have h1' := isEmpty_of h1
    have h1n : ((l.length : Int) == 0) = false := beq_eq_false_iff_ne.2 (by have := List.length_pos_iff.2 h1; omega)
    by_cases h2 : 64 < l.length
    · have hf := Lib.hid (show checkI l = 11 by unfold checkI; rw [if_neg h1, if_pos h2])
      clear h1
      go_enter Try.func23, Try.ntmps23
      go_wp2
      go_ret
      exact ⟨ret_i64 (by rw [hf.out]), rfl⟩
    · have HF := Lib.hid (show checkI l = if l.any badB then 11 else if l = [46] ∨ l = [46, 46] then 6 else 0 by unfold checkI; rw [if_neg h1, if_neg h2])
      have h2b : decide ((64 : Int) < (l.length : Int)) = false := decide_eq_false (by omega)
      have h2c : decide (64 < l.length) = false := decide_eq_false h2
      clear h1 h2
      go_enter Try.func23, Try.ntmps23
      go_wp2_with fail
      go_loop [3] (fun i => ∃ k : Nat, k ≤ l.length ∧ i = .int .i64 k ∧ (l.take k).any badB = false) (fun i => l.length - (intOf i).toNat)
      case atStart => exact ⟨0, Nat.zero_le _, rfl, rfl⟩
      case round =>
        obtain ⟨k, hk, rfl, hn⟩ := hrel
        have HN := Lib.hid hn
        clear hn
        by_cases hlt : k < l.length
        · have e0 := byte_eq l[k] 0 (by omega)
          have e47 := byte_eq l[k] 47 (by omega)
          have eb : badB l[k] = (((l[k].toNat : Int) == ((0 : Nat) : Int)) || ((l[k].toNat : Int) == ((47 : Nat) : Int))) := by rw [e0, e47]; rfl
          clear e0 e47
          have hlt' : k < (mk l).size := hlt
          obtain ⟨b, hb⟩ : ∃ b : Int, (((mk l)[k]'hlt').toNat : Int) = b := ⟨_, rfl⟩
          rw [show (l[k].toNat : Int) = b from hb] at eb
          by_cases c0 : b = 0
          · subst c0
            have HB := Lib.hid eb
            clear eb
            go_wp2
            go_ret
            exact ⟨ret_i64 (by rw [HF.out, if_pos (any_at hlt (HB.out.trans (by decide)))]), rfl⟩
          · by_cases c47 : b = 47
            · subst c47
              have HB := Lib.hid eb
              clear eb
              go_wp2
              go_ret
              exact ⟨ret_i64 (by rw [HF.out, if_pos (any_at hlt (HB.out.trans (by decide)))]), rfl⟩
            · have d0 : (b == 0) = false := beq_eq_false_iff_ne.2 c0
              have d47 : (b == 47) = false := beq_eq_false_iff_ne.2 c47
              have HB := Lib.hid (eb.trans (by rw [show ((0 : Nat) : Int) = 0 from rfl, show ((47 : Nat) : Int) = 47 from rfl, d0, d47]))
              clear eb c0 c47
              go_wp2
              go_round
              case rel => exact ⟨k + 1, by omega, by go_num, by rw [any_take hlt, HN.out, HB.out]; rfl⟩
              case measure => simp [intOf]; omega
        · have h3 : l.any badB = false := by have := HN.out; rwa [List.take_of_length_le (by omega)] at this
          have HF' := HF.out
          rw [h3, if_neg (by decide)] at HF'
          clear h3 HF
          by_cases h4 : l = [46]
          · have hf := Lib.hid (show checkI l = 6 by rw [HF', if_pos (Or.inl h4)])
            have h4' : (l == ([46] : List UInt8)) = true := by simpa using h4
            clear HF' h4
            go_wp2
            go_ret
            exact ⟨ret_i64 (by rw [hf.out]), rfl⟩
          · have h4' : (l == ([46] : List UInt8)) = false := by simpa using h4
            by_cases h5 : l = [46, 46]
            · have hf := Lib.hid (show checkI l = 6 by rw [HF', if_pos (Or.inr h5)])
              have h5' : (l == ([46, 46] : List UInt8)) = true := by simpa using h5
              clear HF' h4 h5
              go_wp2
              go_ret
              exact ⟨ret_i64 (by rw [hf.out]), rfl⟩
            · have h5' : (l == ([46, 46] : List UInt8)) = false := by simpa using h5
              have hf := Lib.hid (show checkI l = 0 by rw [HF', if_neg (by simp [h4, h5])])
              clear HF' h4 h5
              go_wp2
              go_ret
              exact ⟨ret_i64 (by rw [hf.out]), rfl⟩

def plainI (l : List UInt8) : Bool := l.all plainB && (checkI l == 0) && (l.head? != some 45)
theorem check_nil : checkI [] = 5 := rfl

set_option maxHeartbeats 2000000 in
theorem name_Plain (l : List UInt8) (w : World) (ha : l.length ≤ 140737488351300) :
    Calls Try.prog 20 #[.string (mk l)] w fun e w' => e = .returned (.bool (plainI l)) ∧ Below w.heap.size w w' := by
  go_enter Try.func20, Try.ntmps20
  go_wp2_with fail
  go_loopg [4] l.length (fun g _ wx => ∃ i : Nat, i + g = l.length ∧ wx.heap[w.heap.size]? = some (.stringIter (mk l) i) ∧ Below w.heap.size w wx ∧ (l.take i).all plainB = true)
  case atStart => exact ⟨0, by omega, heap_alloc_new w _, (Below.refl _ _).alloc (Nat.le_refl _) _, rfl⟩
  case round =>
    obtain ⟨i, hig, hit, hbl, hno⟩ := hrel
    have HN := Lib.hid hno
    clear hno
    cases gk with
    | zero =>
      obtain rfl : i = l.length := by omega
      have hnx := fun ty => Lib.run_next_end_at (P := Try.prog) wr w.heap.size (mk l) l.length ty hit (Nat.lt_irrefl _)
      have hall : l.all plainB = true := by have := HN.out; rwa [List.take_length] at this
      have HP := Lib.hid (show plainI l = ((checkI l == 0) && (l.head? != some 45)) by unfold plainI; rw [hall]; simp)
      clear hall
      cases hc : (checkI l == 0)
      · have hf := Lib.hid (show plainI l = false by rw [HP.out, hc]; rfl)
        have HC := Lib.hid hc
        clear hc HP
        go_wp2_with (go_at_call 21; refine (name_Right l _ ha).mono ?_; rintro e w' ⟨rfl, hb⟩; rw [HC.out])
        go_ret
        exact ⟨ret_bool (by rw [hf.out]), below_then hbl hbl.size hb⟩
      · have hne : l ≠ [] := by rintro rfl; rw [check_nil] at hc; exact absurd hc (by decide)
        have hpos : 0 < (mk l).size := List.length_pos_iff.2 hne
        have hpos' : (0 : Int) < (l.length : Int) := by have := List.length_pos_iff.2 hne; omega
        obtain ⟨b, hb0⟩ : ∃ b : Int, (((mk l)[0]'hpos).toNat : Int) = b := ⟨_, rfl⟩
        have hx : (l.head? != some 45) = (b != 45) := by
          have e := byte_ne (l[0]'hpos) 45 (by omega)
          rw [show ((l[0]'hpos).toNat : Int) = b from hb0] at e
          rw [show ((45 : Nat) : Int) = 45 from rfl] at e
          rw [e, List.head?_eq_some_head hne, ← List.getElem_zero hpos]
          rfl
        have hf := Lib.hid (show plainI l = (b != 45) by rw [HP.out, hc, hx]; rfl)
        have HC := Lib.hid hc
        have h0' : (0 : Nat) < l.length := hpos
        clear hc HP hx hne
        go_wp2_with (go_at_call 21; refine (name_Right l _ ha).mono ?_; rintro e w' ⟨rfl, hb⟩; rw [HC.out])
        go_ret
        exact ⟨ret_bool (by rw [hf.out]), below_then hbl hbl.size hb⟩
    | succ g =>
      have hi : i < (mk l).size := by rw [mk_size]; omega
      have hlt0 : w.heap.size < wr.heap.size := (Array.getElem?_eq_some_iff.1 hit).1
      by_cases hx128 : ((mk l)[i]'hi).toNat < 128
      · have hnx := fun ty => Lib.run_next_ascii_at (P := Try.prog) wr w.heap.size (mk l) i ty hit hi hx128
        have hit2 := Lib.iterAt_heap wr w.heap.size (mk l) i (i + 1) hit
        have hbl2 := Lib.below_iterAt hbl (Nat.le_refl _) (mk l) (i + 1)
        have hsz2 : (wr.iterAt w.heap.size (mk l) (i + 1)).heap.size = wr.heap.size := Lib.iterAt_size _ _ _ _
        obtain ⟨b, hb0⟩ : ∃ b : Int, (((mk l)[i]'hi).toNat : Int) = b := ⟨_, rfl⟩
        have hB := Lib.hid (show plainB (l[i]'hi) = plainC b by rw [← hb0]; rfl)
        have b1 : 0 ≤ b := by omega
        have b2 : b ≤ 2147483647 := by omega
        cases hp : plainC b
        · have hf := Lib.hid (show plainI l = false by unfold plainI; rw [all_at hi (hB.out.trans hp)]; rfl)
          have HP := Lib.hid hp
          clear hp hx128
          go_wp2_with (go_at_call 71; refine (name_plain b _ b1 b2).mono ?_; rintro e w' ⟨rfl, hb⟩; rw [HP.out])
          go_ret
          exact ⟨ret_bool (by rw [hf.out]), below_then hbl2 (by rw [hsz2]; omega) hb⟩
        · have HP := Lib.hid hp
          clear hp hx128
          go_wp2_with (go_at_call 71; refine (name_plain b _ b1 b2).mono ?_; rintro e w' ⟨rfl, hb⟩; rw [HP.out])
          go_roundg g
          case measure => omega
          case rel => exact ⟨i + 1, by omega, (hb.block _ (by rw [hsz2]; omega)).trans hit2, below_then hbl2 (by rw [hsz2]; omega) hb, by rw [all_take hi, HN.out, hB.out, HP.out]; rfl⟩
      · have hnx := fun ty => Lib.run_next_any_at (P := Try.prog) wr w.heap.size (mk l) i ty hit hi
        obtain ⟨d1, d2⟩ := decode_high (mk l) i hi (by omega)
        have d5 := decode_le (mk l) i
        have hbl2 := Lib.below_iterAt hbl (Nat.le_refl _) (mk l) (i + (Utf8.decode (mk l) i).2)
        have hsz2 : (wr.iterAt w.heap.size (mk l) (i + (Utf8.decode (mk l) i).2)).heap.size = wr.heap.size := Lib.iterAt_size _ _ _ _
        have hB : plainB (l[i]'hi) = false := by
          have : 128 ≤ (l[i]'hi).toNat := by have : (l[i]'hi) = (mk l)[i]'hi := rfl; rw [this]; omega
          unfold plainB plainC; simp; omega
        have hf := Lib.hid (show plainI l = false by unfold plainI; rw [all_at hi hB]; rfl)
        generalize hr : ((Utf8.decode (mk l) i).1) = r at *
        generalize hn : ((Utf8.decode (mk l) i).2) = n at *
        have HR := Lib.hid (And.intro hr hn)
        have HP := Lib.hid (show plainC r = false by unfold plainC; simp; omega)
        clear hx128 hB hr hn
        go_wp2_with (go_at_call 71; refine (name_plain r _ (by omega) (by omega)).mono ?_; rintro e w' ⟨rfl, hb⟩; rw [HP.out])
        go_ret
        exact ⟨ret_bool (by rw [hf.out]), below_then hbl2 (by rw [hsz2]; omega) hb⟩
end Go.Proofs.Ytmjggjccmbiheaa
