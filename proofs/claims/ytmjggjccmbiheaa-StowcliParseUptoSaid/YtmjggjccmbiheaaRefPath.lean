/- The reference's Parts, step by step: the same parts. -/
import Derived.Test.YtmjggjccmbiheaaPathClean
import Derived.Test.YtmjggjccmbiheaaEntsRefPut
namespace Go.Proofs.Ytmjggjccmbiheaa
open Go.RowKit Go.Proofs Go.Sort
attribute [local go_sem] mk_list mk_size mk_data

/-- One byte more: what is done, and the part under way. -/
def stepR (s : List Tx × Tx) (c : UInt8) : List Tx × Tx := if c == 47 then (if okP s.2 then s.1 ++ [s.2] else s.1, []) else (s.1, s.2 ++ [c])
def stateR (l : Tx) : List Tx × Tx := l.foldl stepR ([], [])
def endR (s : List Tx × Tx) : List Tx := if okP s.2 then s.1 ++ [s.2] else s.1
theorem stateR_snoc (l : Tx) (c : UInt8) : stateR (l ++ [c]) = stepR (stateR l) c := by unfold stateR; rw [List.foldl_append]; rfl
theorem endR_fold : ∀ (l : Tx) (out : List Tx) (now : Tx), endR (l.foldl stepR (out, now)) = out ++ (match split l with | h :: t => (now ++ h) :: t | [] => []).filter okP
  | [], out, now => by
    by_cases h : okP now = true <;> simp [endR, split, h]
  | c :: l, out, now => by
    have hne := split_ne l
    rw [List.foldl_cons]
    by_cases hc : c = 47
    · subst hc
      have e1 : stepR (out, now) 47 = (if okP now then out ++ [now] else out, []) := rfl
      rw [e1, endR_fold l]
      have e2 : split (47 :: l) = [] :: split l := rfl
      rw [e2]
      simp only [List.append_nil, List.nil_append]
      cases hs : split l with
      | nil => exact absurd hs hne
      | cons h t =>
        simp only []
        by_cases h : okP now = true <;> simp [h]
    · have hb : (c == 47) = false := by simpa using hc
      have e1 : stepR (out, now) c = (out, now ++ [c]) := by unfold stepR; rw [hb]; rfl
      rw [e1, endR_fold l]
      have e2 : split (c :: l) = match split l with | h :: t => (c :: h) :: t | [] => [[c]] := by
        show (if c == 47 then _ else _) = _
        rw [hb]; rfl
      rw [e2]
      cases hs : split l with
      | nil => exact absurd hs hne
      | cons h t => simp
theorem endR_eq (l : Tx) : endR (stateR l) = partsL l := by
  unfold stateR partsL
  rw [endR_fold]
  cases hs : split l with
  | nil => exact absurd hs (split_ne l)
  | cons h t => simp
theorem stateR_len (l : Tx) : (stateR l).1.length ≤ l.length ∧ (stateR l).2.length ≤ l.length := by
  have h : ∀ (l : Tx) (s : List Tx × Tx), (l.foldl stepR s).1.length ≤ s.1.length + l.length ∧ (l.foldl stepR s).2.length ≤ s.2.length + l.length := by
    intro l
    induction l with
    | nil => intro s; simp
    | cons c l ih =>
      intro s
      have := ih (stepR s c)
      rw [List.foldl_cons]
      have h2 : (stepR s c).1.length ≤ s.1.length + 1 ∧ (stepR s c).2.length ≤ s.2.length + 1 := by
        unfold stepR
        split
        · split <;> simp
        · simp
      simp only [List.length_cons]
      omega
  simpa [stateR] using h l ([], [])

theorem now_ways (x : Tx) : x = [] ∨ x = [46] ∨ (List.isEmpty x = false ∧ (x == [46]) = false ∧ okP x = true) := by
  by_cases h0 : x = []
  · exact .inl h0
  · by_cases h1 : x = [46]
    · exact .inr (.inl h1)
    · have hx2 : List.isEmpty x = false := by cases x <;> simp at h0 ⊢
      have hx3 : (x == [46]) = false := by simpa using h1
      exact .inr (.inr ⟨hx2, hx3, by unfold okP; rw [hx3]; simp [h0]⟩)

set_option maxRecDepth 100000 in
set_option maxHeartbeats 2000000 in
theorem ref_Parts (l : Tx) (w : World) (hl : l.length ≤ 4000000000000) :
    Calls Try.prog 56 #[.string (mk l)] w (GivesStrs (partsL l) w) := by
  obtain ⟨n, hn⟩ : ∃ n, l.length = n := ⟨_, rfl⟩
  have HN := Lib.hid hn
  have hs : (mk l).size = n := by rw [mk_size]; exact hn
  rw [hn] at hl
  clear hn
  go_enter Try.func56, Try.ntmps56
  go_wp2_with fail
  go_loopg [5, 4, 3] (n + 1) (fun g i s v wx => ∃ (k : Nat) (out : List Tx) (now : Tx), k + g = n + 1 ∧ i = .int .i64 k ∧ s = .string (mk now) ∧ Hid (OwnS wx w.heap.size v out) ∧ Hid (Below w.heap.size w wx) ∧ Hid (if k ≤ n then stateR (l.take k) = (out, now) else out = partsL l))
  case atStart => exact ⟨0, [], [], by omega, rfl, rfl, Lib.hid (World.ownsRow_nil w _ 9 1), Lib.hid (Below.refl _ _), Lib.hid (by simp [stateR])⟩
  case round =>
    obtain ⟨k, out, now, hk, rfl, rfl, ho, hb, hst⟩ := hrel
    cases gk with
    | zero =>
      obtain rfl : k = n + 1 := by omega
      have hnot : ¬ (((n : Nat) : Int) + 1 ≤ (n : Int)) := by omega
      have HP : Hid (out = partsL l) := Lib.hid (by have := hst.out; rwa [if_neg (by omega)] at this)
      go_wp2
      go_ret
      rw [← HP.out]
      obtain ⟨a5, c5, e5, k5, hc5, _⟩ := StrsAt.own ho.out
      exact ⟨a5, c5, by rw [e5]; rfl, k5, hc5, hb.out⟩
    | succ g =>
      have hkn : k ≤ n := by omega
      have hkn' : (k : Int) ≤ (n : Int) := by omega
      have hk0 : (0 : Int) ≤ (k : Int) := by omega
      have HS : Hid (stateR (l.take k) = (out, now)) := Lib.hid (by have := hst.out; rwa [if_pos hkn] at this)
      have hsl := stateR_len (l.take k)
      rw [HS.out] at hsl
      have HSL : Hid (out.length ≤ n ∧ now.length ≤ n) := Lib.hid (by have := HN.out; simp at hsl; omega)
      have hnl : now.length ≤ n := HSL.out.2
      have HBS := Lib.hid hb.out.size
      clear hsl hst
      have hk46 : (⟨#[46]⟩ : ByteArray) = mk [46] := rfl
      have hk0' : (⟨#[]⟩ : ByteArray) = mk [] := rfl
      by_cases hkl : k < n
      · have hlt : (k : Int) < (n : Int) := by omega
        have hlt' : k < (mk l).size := by omega
        have hlt2 : k < l.length := by have := HN.out; omega
        have HTK := Lib.hid (List.take_succ_eq_append_getElem hlt2)
        obtain ⟨b, hb'⟩ : ∃ b : Int, (((mk l)[k]'hlt').toNat : Int) = b := ⟨_, rfl⟩
        have hbb := byte_eq (l[k]'hlt2) 47 (by omega)
        have hb2 : (((l[k]'hlt2).toNat : Int)) = b := hb'
        rw [hb2] at hbb
        by_cases hsl : (l[k]'hlt2) = 47
        · have hb47 : (b == 47) = true := by rw [show (47 : Int) = ((47 : Nat) : Int) from rfl, hbb, hsl]; rfl
          have HNX : Hid (∀ o, endR (out, now) = o → if k + 1 ≤ n then stateR (l.take (k + 1)) = (o, []) else o = partsL l) := Lib.hid (by
            rintro o rfl
            rw [if_pos (by omega), HTK.out, stateR_snoc, HS.out, hsl]
            rfl)
          clear hbb hb2 hsl
          rcases now_ways now with rfl | rfl | ⟨hx1, hx2, hok⟩
          · have HE : Hid (endR (out, []) = out) := Lib.hid rfl
            simp only [hk46]
            go_wp2_with fail
            go_roundg g
            case measure => omega
            case rel => exact ⟨k + 1, out, [], by omega, by go_num, rfl, ho, hb, Lib.hid (by rw [← HE.out]; exact HNX.out _ rfl)⟩
          · have HE : Hid (endR (out, [46]) = out) := Lib.hid rfl
            simp only [hk46]
            go_wp2_with fail
            go_roundg g
            case measure => omega
            case rel => exact ⟨k + 1, out, [], by omega, by go_num, rfl, ho, hb, Lib.hid (by rw [← HE.out]; exact HNX.out _ rfl)⟩
          · have HE : Hid (endR (out, now) = out ++ [now]) := Lib.hid (by unfold endR; rw [if_pos hok])
            simp only [hk46]
            go_wp2_with (at_builtin; refine put_one w.heap.size rfl _ _ 29 9 _ 1 16 rfl Try.underlying29 info9 rfl (by decide) (by decide) u3 out.length _ [.string (mk now)] rfl rfl rfl (by simp [Value.oneCell']) ho.out hb.out HBS.out (by have := HSL.out.1; omega) ?_; intro v1 w4 hown1 hb1 hg1)
            go_roundg g
            case measure => omega
            case rel => exact ⟨k + 1, out ++ [now], [], by omega, by go_num, rfl, Lib.hid (by unfold OwnS; rw [List.length_append, List.map_append]; exact hown1), Lib.hid hb1, Lib.hid (by rw [← HE.out]; exact HNX.out _ rfl)⟩
        · have hb47 : (b == 47) = false := by
            rw [show (47 : Int) = ((47 : Nat) : Int) from rfl, hbb]
            simpa using hsl
          have HNX : Hid (if k + 1 ≤ n then stateR (l.take (k + 1)) = (out, now ++ [l[k]'hlt2]) else out = partsL l) := Lib.hid (by
            rw [if_pos (by omega), HTK.out, stateR_snoc, HS.out]
            unfold stepR
            rw [show ((l[k]'hlt2) == 47) = false by simpa using hsl]
            rfl)
          have hex := mk_extract l k (k + 1)
          rw [show (l.drop k).take (k + 1 - k) = [l[k]'hlt2] by rw [Nat.add_sub_cancel_left, List.drop_eq_getElem_cons hlt2]; rfl] at hex
          obtain ⟨cb, hcb⟩ : ∃ cb, l[k]'hlt2 = cb := ⟨_, rfl⟩
          rw [hcb] at hex HNX
          have hap := mk_append now [cb]
          have hk1 : (k : Int) + 1 ≤ (n : Int) := by omega
          have hnn : ¬ (9223372036854775807 < now.length + 1) := by omega
          clear hbb hb2 hsl hcb
          go_wp2_with fail
          go_roundg g
          case measure => omega
          case rel => exact ⟨k + 1, out, now ++ [cb], by omega, by go_num, rfl, ho, hb, HNX⟩
      · have hnlt : ¬ ((k : Int) < (n : Int)) := by omega
        have HNX : Hid (∀ o, endR (out, now) = o → if k + 1 ≤ n then stateR (l.take (k + 1)) = (o, []) else o = partsL l) := Lib.hid (by
          rintro o rfl
          rw [if_neg (by omega), ← HS.out, List.take_of_length_le (by have := HN.out; omega), endR_eq])
        rcases now_ways now with rfl | rfl | ⟨hx1, hx2, hok⟩
        · have HE : Hid (endR (out, []) = out) := Lib.hid rfl
          simp only [hk46]
          go_wp2_with fail
          go_roundg g
          case measure => omega
          case rel => exact ⟨k + 1, out, [], by omega, by go_num, rfl, ho, hb, Lib.hid (by rw [← HE.out]; exact HNX.out _ rfl)⟩
        · have HE : Hid (endR (out, [46]) = out) := Lib.hid rfl
          simp only [hk46]
          go_wp2_with fail
          go_roundg g
          case measure => omega
          case rel => exact ⟨k + 1, out, [], by omega, by go_num, rfl, ho, hb, Lib.hid (by rw [← HE.out]; exact HNX.out _ rfl)⟩
        · have HE : Hid (endR (out, now) = out ++ [now]) := Lib.hid (by unfold endR; rw [if_pos hok])
          simp only [hk46]
          go_wp2_with (at_builtin; refine put_one w.heap.size rfl _ _ 29 9 _ 1 16 rfl Try.underlying29 info9 rfl (by decide) (by decide) u3 out.length _ [.string (mk now)] rfl rfl rfl (by simp [Value.oneCell']) ho.out hb.out HBS.out (by have := HSL.out.1; omega) ?_; intro v1 w4 hown1 hb1 hg1)
          go_roundg g
          case measure => omega
          case rel => exact ⟨k + 1, out ++ [now], [], by omega, by go_num, rfl, Lib.hid (by unfold OwnS; rw [List.length_append, List.map_append]; exact hown1), Lib.hid hb1, Lib.hid (by rw [← HE.out]; exact HNX.out _ rfl)⟩

/-- Parts, each behind a slash. -/
def textP (xs : List Tx) : Tx := xs.foldl (fun s p => s ++ ([47] ++ p)) []
def textL (xs : List Tx) : Tx := if xs = [] then [47] else textP xs
theorem textP_eq : ∀ (xs : List Tx) (s : Tx), xs.foldl (fun s p => s ++ ([47] ++ p)) s = s ++ (if xs = [] then [] else 47 :: joinS xs)
  | [], s => by simp
  | [x], s => by simp [joinS, Lib.join]
  | x :: y :: l, s => by
    rw [List.foldl_cons, textP_eq (y :: l)]
    unfold joinS Lib.join
    rw [if_neg (by simp), if_neg (by simp), List.intercalate_cons_cons]
    simp
theorem textL_eq (xs : List Tx) : textL xs = 47 :: joinS xs := by
  unfold textL textP
  rw [textP_eq]
  split
  · rename_i h; subst h; rfl
  · rfl
theorem textP_len (xs : List Tx) : (textP xs).length ≤ wt xs := by
  unfold textP
  have h : ∀ (xs : List Tx) (s : Tx), (xs.foldl (fun s p => s ++ ([47] ++ p)) s).length = s.length + wt xs := by
    intro xs
    induction xs with
    | nil => intro s; simp [wt]
    | cons x xs ih =>
      intro s
      have h2 : wt (x :: xs) = x.length + 1 + wt xs := by simp [wt]
      rw [List.foldl_cons, ih, h2]
      simp
      omega
  rw [h xs []]
  simp
theorem textP_snoc (xs : List Tx) (p : Tx) : textP (xs ++ [p]) = textP xs ++ ([47] ++ p) := by unfold textP; rw [List.foldl_append]; rfl
theorem wt_take (xs : List Tx) (k : Nat) : wt (xs.take k) ≤ wt xs := by
  have := wt_append (xs.take k) (xs.drop k)
  rw [List.take_append_drop] at this
  omega

set_option maxRecDepth 100000 in
set_option maxHeartbeats 2000000 in
theorem ref_text (a : Option Addr) (c : Nat) (xs : List Tx) (w : World) (h : StrsAt w a xs) (hn : xs.length ≤ 140737488355328) (hw : wt xs ≤ 140737488355328) :
    Calls Try.prog 94 #[.slice a xs.length c] w fun e w' => e = .returned (.string (mk (47 :: joinS xs))) ∧ ∃ q, w' = w.drewN q := by
  have HE := Lib.hid (textL_eq xs)
  obtain ⟨n, hnx⟩ : ∃ n, xs.length = n := ⟨_, rfl⟩
  have HN := Lib.hid hnx
  rw [hnx] at hn ⊢
  clear hnx
  have hk : (⟨#[47]⟩ : ByteArray) = mk [47] := rfl
  have hk0 : (⟨#[]⟩ : ByteArray) = mk [] := rfl
  go_enter Try.func94, Try.ntmps94
  simp only [hk]
  go_wp2_with fail
  go_loopg [4, 3] n (fun g i s wx => ∃ (k : Nat) (acc : Tx), k + g = n ∧ i = .int .i64 k ∧ s = .string (mk acc) ∧ Hid (acc = textP (xs.take k)) ∧ wx = w)
  case atStart => exact ⟨0, [], by omega, rfl, rfl, Lib.hid rfl, rfl⟩
  case round =>
    obtain ⟨k, acc, hk, rfl, rfl, hp, rfl⟩ := hrel
    cases gk with
    | zero =>
      obtain rfl : k = n := by omega
      have hacc : acc = textP xs := by have := hp.out; rwa [List.take_of_length_le (by have := HN.out; omega)] at this
      by_cases h0 : acc = []
      · subst h0
        have HX : Hid (([47] : Tx) = 47 :: joinS xs) := Lib.hid (by
          rw [← HE.out]
          unfold textL
          rw [if_pos]
          have h3 := textP_eq xs []
          unfold textP at hacc
          rw [← hacc] at h3
          by_cases hx : xs = []
          · exact hx
          · rw [if_neg hx] at h3; simp at h3)
        clear hacc
        go_wp2_with fail
        go_ret
        exact ⟨by rw [← HX.out]; rfl, 0, rfl⟩
      · have hb : List.isEmpty acc = false := by cases acc <;> simp at h0 ⊢
        have HX : Hid (acc = 47 :: joinS xs) := Lib.hid (by
          rw [← HE.out]
          unfold textL
          rw [if_neg, hacc]
          rintro rfl
          exact h0 hacc)
        clear hacc h0
        go_wp2_with fail
        go_ret
        exact ⟨by rw [← HX.out]; rfl, 0, rfl⟩
    | succ g =>
      have hk1 : k < xs.length := by have := HN.out; omega
      obtain ⟨b1, o1, rfl, l1, e1⟩ := h.cells hk1
      have f1 := e1 k hk1
      have HT := Lib.hid (List.take_succ_eq_append_getElem hk1)
      obtain ⟨x, hx⟩ : ∃ x, xs[k] = x := ⟨_, rfl⟩
      rw [hx] at f1 HT
      have hkn : (k : Int) < (n : Int) := by omega
      have hk0 : (0 : Int) ≤ (k : Int) := by omega
      have hl1 := textP_len (xs.take (k + 1))
      have hl2 := wt_take xs (k + 1)
      rw [HT.out, textP_snoc, ← hp.out] at hl1
      rw [HT.out] at hl2
      simp only [List.length_append, List.length_singleton] at hl1
      have hs1 : ¬ (9223372036854775807 < 1 + x.length) := by omega
      have hs2 : ¬ (9223372036854775807 < acc.length + (1 + x.length)) := by omega
      have ha1 := mk_append [47] x
      have ha2 := mk_append acc (47 :: x)
      clear hx e1 hl1 hl2 l1
      go_wp2_with fail
      go_roundg g
      case measure => omega
      case rel => exact ⟨k + 1, acc ++ (47 :: x), by omega, by go_num, rfl, Lib.hid (by rw [HT.out, textP_snoc, ← hp.out]; rfl), rfl⟩

set_option maxRecDepth 100000 in
set_option maxHeartbeats 2000000 in
theorem ref_Clean (l : Tx) (w : World) (hl : l.length ≤ 4000000000000) :
    Calls Try.prog 54 #[.string (mk l)] w fun e w' => e = .returned (.string (mk (47 :: joinS (cleanP (partsL l))))) ∧ Below w.heap.size w w' := by
  have hp := ref_Parts l w hl
  have hw1 := wt_partsL l
  have hpl := partsL_len l
  obtain ⟨ps, hps⟩ : ∃ ps, partsL l = ps := ⟨_, rfl⟩
  rw [hps] at hp hw1 hpl ⊢
  have hw2 := wt_cleanP ps
  have hcl := cleanP_len ps
  obtain ⟨n, hn⟩ : ∃ n, ps.length = n := ⟨_, rfl⟩
  have HN := Lib.hid hn
  have hnl : n ≤ 4000000000001 := by omega
  have HW : Hid (wt (cleanP ps) ≤ 140737488355328 ∧ (cleanP ps).length ≤ 140737488355328) := Lib.hid (by omega)
  have hk3 : (⟨#[46, 46]⟩ : ByteArray) = mk [46, 46] := rfl
  clear hps hw1 hw2 hcl hpl
  go_enter Try.func54, Try.ntmps54
  simp only [hk3]
  go_wp2_with fail
  refine hp.mono ?_
  rintro e w1 ⟨a1, c1, rfl, k1, _, bb⟩
  have K1 := Lib.hid k1
  have B1 := Lib.hid bb
  rw [HN.out]
  clear hp k1 bb hn
  go_wp2_with fail
  go_loopg [5, 4] n (fun g i v wx => ∃ k : Nat, k + g = n ∧ i = .int .i64 k ∧ Hid (Below w1.heap.size w1 wx) ∧ Hid (OwnS wx w1.heap.size v (cleanP (ps.take k))))
  case atStart => exact ⟨0, by omega, rfl, Lib.hid (Below.refl _ _), Lib.hid (World.ownsRow_nil w1 _ 9 1)⟩
  case round =>
    obtain ⟨k, hk, rfl, hb3, ho⟩ := hrel
    cases gk with
    | zero =>
      obtain rfl : k = n := by omega
      have ho2 := ho.out
      rw [List.take_of_length_le (by have := HN.out; omega)] at ho2
      obtain ⟨a5, c5, rfl, k5, hc5, _⟩ := StrsAt.own ho2
      have ht := ref_text a5 c5 (cleanP ps) wr k5 HW.out.2 HW.out.1
      obtain ⟨n5, hn5⟩ : ∃ m, (cleanP ps).length = m := ⟨_, rfl⟩
      obtain ⟨jj, hjj⟩ : ∃ jj, joinS (cleanP ps) = jj := ⟨_, rfl⟩
      rw [hn5, hjj] at ht
      have HT := Lib.hid ht
      have HJ := Lib.hid hjj
      have hBx := Lib.hid (ext_trans B1.out hb3.out)
      rw [hn5]
      clear ho2 k5 hc5 hn5 hjj ht
      go_wp2_with (go_at_call 94; refine HT.out.mono ?_; rintro e w' ⟨rfl, q, rfl⟩)
      go_ret
      exact ⟨by rw [HJ.out]; rfl, below_drewN hBx.out _⟩
    | succ g =>
      have hi : k < ps.length := by have := HN.out; omega
      obtain ⟨bb, o1, rfl, l1, e1⟩ := (K1.out.below hb3.out).cells hi
      have f1 := e1 k hi
      have HT := Lib.hid (List.take_succ_eq_append_getElem hi)
      obtain ⟨x, hx1⟩ : ∃ x, ps[k] = x := ⟨_, rfl⟩
      rw [hx1] at f1 HT
      have hi0 : (0 : Int) ≤ (k : Int) := by omega
      have him' : (k : Int) < (n : Int) := by omega
      have hst := cleanP_snoc (ps.take k) x
      rw [← HT.out] at hst
      have hzl := cleanP_len (ps.take k)
      obtain ⟨out, hout⟩ : ∃ out, cleanP (ps.take k) = out := ⟨_, rfl⟩
      rw [hout] at ho hst hzl
      have HZL : Hid (out.length ≤ n) := Lib.hid (by rw [List.length_take] at hzl; omega)
      have HST := Lib.hid hst
      have HBS := Lib.hid hb3.out.size
      clear hx1 e1 l1 hout hzl hst
      cases hb : (x == [46, 46])
      · have HS2 : Hid (cleanP (ps.take (k + 1)) = out ++ [x]) := Lib.hid (by rw [HST.out]; unfold cleanStep; rw [hb]; rfl)
        go_wp2_with (at_builtin; refine put_one w1.heap.size rfl _ _ 29 9 _ 1 16 rfl Try.underlying29 info9 rfl (by decide) (by decide) u4 out.length _ [.string (mk x)] rfl rfl rfl (by simp [Value.oneCell']) ho.out hb3.out HBS.out (by have := HZL.out; omega) ?_; intro v1 w4 hown1 hb1 hg1)
        go_roundg g
        case measure => omega
        case rel => exact ⟨k + 1, by omega, by go_num, Lib.hid hb1, Lib.hid (by rw [HS2.out]; unfold OwnS; rw [List.length_append, List.map_append]; exact hown1)⟩
      · have HS2 : Hid (cleanP (ps.take (k + 1)) = out.dropLast) := Lib.hid (by rw [HST.out]; unfold cleanStep; rw [hb]; rfl)
        by_cases h0 : out.length = 0
        · have hv0 : ∃ a c, u4 = .slice a 0 c := by
            rcases ho.out.2 with ⟨rfl, _⟩ | ⟨g, cap, cur, rfl, _⟩
            · exact ⟨_, _, rfl⟩
            · rw [h0]; exact ⟨_, _, rfl⟩
          obtain ⟨va, vc, rfl⟩ := hv0
          have HS3 : Hid (cleanP (ps.take (k + 1)) = out) := Lib.hid (by rw [HS2.out, List.eq_nil_of_length_eq_zero h0]; rfl)
          clear h0
          go_wp2_with fail
          go_roundg g
          case measure => omega
          case rel => exact ⟨k + 1, by omega, by go_num, hb3, Lib.hid (by rw [HS3.out]; exact ho.out)⟩
        · obtain ⟨m, hkl⟩ : ∃ m, out.length = m + 1 := ⟨out.length - 1, by omega⟩
          have hrow := ho.out
          unfold OwnS at hrow
          rw [hkl] at hrow
          obtain ⟨gg, cap, rfl⟩ := ownsRow_succ hrow
          have hcap : m + 1 ≤ cap ∧ cap ≤ maxLen := by
            rcases hrow.2 with ⟨h0, _⟩ | ⟨g', cap', cur, e, _, _, hn, hm, _⟩
            · cases h0
            · cases e; exact ⟨hn, hm⟩
          have HO2 : Hid (OwnS wr w1.heap.size (.slice (some ⟨gg, 0, none⟩) m cap) out.dropLast) := Lib.hid (by
            unfold OwnS
            rw [show out.dropLast.length = m by simp; omega]
            exact row_pop hrow)
          have hkc : (m : Int) ≤ (cap : Int) := by omega
          have hk0 : (0 : Int) ≤ (m : Int) := by omega
          have hkp : (0 : Int) < (m : Int) + 1 := by omega
          have hcm : cap ≤ 9223372036854775807 := by have := hcap.2; simp only [maxLen] at this; omega
          clear hrow hcap h0 hkl
          go_wp2_with fail
          go_roundg g
          case measure => omega
          case rel => exact ⟨k + 1, by omega, by go_num, hb3, Lib.hid (by rw [HS2.out]; exact HO2.out)⟩
end Go.Proofs.Ytmjggjccmbiheaa
