/- Sets of bytes in plain words: 256 truths as a function, as cells, as a text. -/
import Derived.Test.YtmjggjccmbiheabDoorBase
import Derived.Lib.SlTrimSet
namespace Go.Proofs.YtmjggjccmbiheabDoor
open Go Go.RowKit Go.Proofs

abbrev Tx := List UInt8
theorem step_to {α : Type} (g : Nat → α) (d : α) {k : Nat} {v : α} (hv : v = g k) (i : Nat) : (if i = k then v else (if i < k then g i else d)) = if i < k + 1 then g i else d := by
  by_cases e : i = k
  · subst e; rw [if_pos rfl, if_pos (Nat.lt_succ_self _), hv]
  · rw [if_neg e]
    by_cases e2 : i < k
    · rw [if_pos e2, if_pos (Nat.lt_succ_of_lt e2)]
    · rw [if_neg e2, if_neg (show ¬ i < k + 1 by omega)]
theorem step_to2 {α : Type} (g : Nat → α) (d : α) {k : Nat} {v u : α} (hv : v = g k) (i : Nat) : (if i = k then v else (if i = k then u else (if i < k then g i else d))) = if i < k + 1 then g i else d := by
  rw [← step_to g d hv i]
  by_cases e : i = k
  · rw [if_pos e, if_pos e]
  · rw [if_neg e, if_neg e, if_neg e]
/-- 256 truths, as a list; as values; as cells behind others. -/
def bl (f : Nat → Bool) : List Bool := (List.range 256).map f
def bools (f : Nat → Bool) : List Value := (List.range 256).map fun i => Value.bool (f i)
def pb (pre : List Value) (f : Nat → Bool) : Array Value := (pre ++ bools f).toArray
def vb (f : Nat → Bool) : Array Value := pb [] f
def updB (f : Nat → Bool) (k : Nat) (v : Bool) : Nat → Bool := fun i => if i = k then v else f i
theorem bools_len (f : Nat → Bool) : (bools f).length = 256 := by simp [bools]
theorem pb_size (pre : List Value) (f : Nat → Bool) : (pb pre f).size = pre.length + 256 := by simp [pb, bools]
theorem vb_size (f : Nat → Bool) : (vb f).size = 256 := by unfold vb; rw [pb_size]; rfl
theorem bools_get (f : Nat → Bool) {k : Nat} (h : k < 256) : (bools f)[k]? = some (.bool (f k)) := by
  unfold bools
  simp [h]
theorem pb_get (pre : List Value) (f : Nat → Bool) {k : Nat} (h : k < 256) : (pb pre f)[pre.length + k]? = some (.bool (f k)) := by
  unfold pb
  rw [List.getElem?_toArray, List.getElem?_append_right (by omega), Nat.add_sub_cancel_left]
  exact bools_get f h
theorem pb_pre (pre : List Value) (f : Nat → Bool) {k : Nat} (h : k < pre.length) : (pb pre f)[k]? = pre[k]? := by
  unfold pb
  rw [List.getElem?_toArray, List.getElem?_append_left h]
theorem bools_congr {f g : Nat → Bool} (h : ∀ i, i < 256 → f i = g i) : bools f = bools g := by
  unfold bools
  exact List.map_congr_left fun i hi => by rw [h i (List.mem_range.1 hi)]
theorem pb_congr (pre : List Value) {f g : Nat → Bool} (h : ∀ i, i < 256 → f i = g i) : pb pre f = pb pre g := by unfold pb; rw [bools_congr h]
theorem vb_congr {f g : Nat → Bool} (h : ∀ i, i < 256 → f i = g i) : vb f = vb g := pb_congr [] h
theorem bools_set (f : Nat → Bool) (k : Nat) (v : Bool) : (bools f).set k (.bool v) = bools (updB f k v) := by
  apply List.ext_getElem?
  intro i
  rw [List.getElem?_set]
  by_cases hi : i < 256
  · by_cases e : k = i
    · subst e
      rw [if_pos rfl, if_pos (by rw [bools_len]; exact hi), bools_get _ hi]
      simp [updB]
    · rw [if_neg e, bools_get _ hi, bools_get _ hi]
      simp [updB, Ne.symm e]
  · rw [List.getElem?_eq_none (l := bools (updB f k v)) (by rw [bools_len]; omega), List.getElem?_eq_none (l := bools f) (by rw [bools_len]; omega)]
    split
    · rw [if_neg (by rw [bools_len]; omega)]
    · rfl
theorem pb_set (pre : List Value) (f : Nat → Bool) (k : Nat) (v : Bool) : (pb pre f).setIfInBounds (pre.length + k) (.bool v) = pb pre (updB f k v) := by
  unfold pb
  rw [List.setIfInBounds_toArray, List.set_append_right _ _ (by omega), Nat.add_sub_cancel_left, bools_set]
theorem vb_set (f : Nat → Bool) (k : Nat) (v : Bool) : (vb f).setIfInBounds k (.bool v) = vb fun i => if i = k then v else f i := by
  have h := pb_set [] f k v
  rwa [List.length_nil, Nat.zero_add] at h
theorem vb_get (f : Nat → Bool) {k : Nat} (h : k < 256) : (vb f)[k]? = some (.bool (f k)) := by
  have h2 := pb_get [] f h
  rwa [List.length_nil, Nat.zero_add] at h2
theorem vb_one (f : Nat → Bool) : (vb f).all (·.oneCell') = true := by
  unfold vb pb
  rw [Array.all_eq_true_iff_forall_mem]
  intro v hv
  simp only [List.nil_append, List.mem_toArray] at hv
  unfold bools at hv
  obtain ⟨i, _, rfl⟩ := List.mem_map.1 hv
  rfl
theorem rep_range (n : Nat) : ((List.range n).map fun _ => Value.bool false).toArray = Array.replicate n (.bool false) := by
  rw [List.map_const', List.length_range, List.toArray_replicate]
theorem vb_none : vb (fun _ => false) = Array.replicate 256 (.bool false) := rep_range 256
/-- 256 bytes, as cells. -/
def us (g : Nat → UInt8) : List Value := (List.range 256).map fun i => Value.int .u8 (g i).toNat
def ub (g : Nat → UInt8) : Array Value := (us g).toArray
def tg (g : Nat → UInt8) : Tx := (List.range 256).map g
theorem us_len (g : Nat → UInt8) : (us g).length = 256 := by simp [us]
theorem us_get (g : Nat → UInt8) {k : Nat} (h : k < 256) : (us g)[k]? = some (.int .u8 (g k).toNat) := by
  unfold us
  simp [h]
theorem ub_get (g : Nat → UInt8) {k : Nat} (h : k < 256) : (ub g)[k]? = some (.int .u8 (g k).toNat) := by
  unfold ub
  rw [List.getElem?_toArray]
  exact us_get g h
theorem ub_congr {f g : Nat → UInt8} (h : ∀ i, i < 256 → f i = g i) : ub f = ub g := by
  unfold ub us
  rw [List.map_congr_left fun i hi => by rw [h i (List.mem_range.1 hi)]]
theorem ub_set (g : Nat → UInt8) (k : Nat) (c : UInt8) : (ub g).setIfInBounds k (.int .u8 c.toNat) = ub fun i => if i = k then c else g i := by
  unfold ub
  rw [List.setIfInBounds_toArray]
  congr 1
  apply List.ext_getElem?
  intro i
  rw [List.getElem?_set]
  by_cases hi : i < 256
  · by_cases e : k = i
    · subst e
      rw [if_pos rfl, if_pos (by rw [us_len]; exact hi), us_get _ hi, if_pos rfl]
    · rw [if_neg e, us_get _ hi, us_get _ hi, if_neg (Ne.symm e)]
  · rw [List.getElem?_eq_none (l := us fun i => if i = k then c else g i) (by rw [us_len]; omega), List.getElem?_eq_none (l := us g) (by rw [us_len]; omega)]
    split
    · rw [if_neg (by rw [us_len]; omega)]
    · rfl
theorem ub_zero : ub (fun _ => 0) = Array.replicate 256 (.int .u8 0) := by
  unfold ub us
  rw [List.map_const', List.length_range, List.toArray_replicate]
  rfl
theorem us_tg (g : Nat → UInt8) : us g = (tg g).map fun c => Value.int .u8 c.toNat := by
  unfold us tg
  rw [List.map_map]
  rfl
theorem tg_congr {f g : Nat → UInt8} (h : ∀ i, i < 256 → f i = g i) : tg f = tg g := by
  unfold tg
  exact List.map_congr_left fun i hi => h i (List.mem_range.1 hi)
theorem tg_len (g : Nat → UInt8) : (tg g).length = 256 := by simp [tg]
/-- The text of 256 truths. -/
def tb (f : Nat → Bool) : Tx := (bl f).map fun b => if b then 49 else 48
theorem tb_len (f : Nat → Bool) : (tb f).length = 256 := by simp [tb, bl]
theorem tb_congr {f g : Nat → Bool} (h : ∀ i, i < 256 → f i = g i) : tb f = tb g := by
  unfold tb bl
  rw [List.map_congr_left fun i hi => h i (List.mem_range.1 hi)]
theorem tb_get (f : Nat → Bool) {k : Nat} (h : k < 256) : (tb f)[k]'(by rw [tb_len]; exact h) = if f k then 49 else 48 := by
  simp [tb, bl]
theorem tb_tg (f : Nat → Bool) : tb f = tg fun i => if f i then 49 else 48 := by
  unfold tb bl tg
  rw [List.map_map]
  rfl
/-- Does a byte belong to a set? -/
def okS (s : Tx) : Bool := s.length == 256 && s.all fun b => b == 48 || b == 49
def hasT (s : Tx) (c : Nat) : Bool := okS s && s.getD c 0 == 49
theorem ok_tb (f : Nat → Bool) : okS (tb f) = true := by
  unfold okS
  rw [tb_len]
  simp only [beq_self_eq_true, Bool.true_and, List.all_eq_true]
  intro b hb
  unfold tb at hb
  obtain ⟨x, _, rfl⟩ := List.mem_map.1 hb
  cases x <;> rfl
theorem has_tb (f : Nat → Bool) {k : Nat} (h : k < 256) : hasT (tb f) k = f k := by
  unfold hasT
  rw [ok_tb, Bool.true_and, List.getD_eq_getElem?_getD, List.getElem?_eq_getElem (by rw [tb_len]; exact h), tb_get f h]
  cases f k <;> rfl
theorem ok_len {s : Tx} (h : okS s = true) : s.length = 256 := by
  unfold okS at h
  simp only [Bool.and_eq_true, beq_iff_eq] at h
  exact h.1
theorem ok_byte {s : Tx} (h : okS s = true) {k : Nat} (hk : k < s.length) : s[k] = 48 ∨ s[k] = 49 := by
  unfold okS at h
  simp only [Bool.and_eq_true, List.all_eq_true, Bool.or_eq_true, beq_iff_eq] at h
  exact h.2 _ (List.getElem_mem hk)
theorem has_get {s : Tx} (h : okS s = true) {k : Nat} (hk : k < 256) : hasT s k = (s[k]'(by rw [ok_len h]; exact hk) == 49) := by
  unfold hasT
  rw [h, Bool.true_and, List.getD_eq_getElem?_getD, List.getElem?_eq_getElem (by rw [ok_len h]; exact hk)]
  rfl
theorem has_not {s : Tx} (h : okS s = false) (k : Nat) : hasT s k = false := by unfold hasT; rw [h]; rfl
/-- Trim strikes the whole text just if it has no other bytes. -/
theorem trim_nil (s cs : Tx) : (Lib.trimS s cs = []) ↔ s.all (cs.contains ·) = true := by
  unfold Lib.trimS Lib.trimLeftS Lib.trimRightS
  constructor
  · intro h
    rw [List.all_eq_true]
    have h1 : ∀ l : Tx, l.dropWhile (cs.contains ·) = [] → ∀ b ∈ l, cs.contains b = true := by
      intro l
      induction l with
      | nil => intro _ b hb; cases hb
      | cons a l ih =>
        intro h b hb
        rw [List.dropWhile_cons] at h
        split at h
        · rcases List.mem_cons.1 hb with rfl | hb
          · assumption
          · exact ih h b hb
        · cases h
    have h2 := h1 _ h
    intro b hb
    by_cases hc : cs.contains b = true
    · exact hc
    · have h3 : b ∈ (s.reverse.dropWhile (cs.contains ·)).reverse := by
        rw [List.mem_reverse]
        have : ∀ l : Tx, b ∈ l → b ∈ l.dropWhile (cs.contains ·) := by
          intro l
          induction l with
          | nil => intro h; cases h
          | cons a l ih =>
            intro h
            rw [List.dropWhile_cons]
            split
            · rename_i ha
              rcases List.mem_cons.1 h with rfl | h
              · exact absurd ha hc
              · exact ih h
            · exact h
        exact this _ (List.mem_reverse.2 hb)
      exact h2 b h3
  · intro h
    have h1 : ∀ l : Tx, l.all (cs.contains ·) = true → l.dropWhile (cs.contains ·) = [] := by
      intro l
      induction l with
      | nil => intro _; rfl
      | cons a l ih =>
        intro h
        rw [List.all_cons, Bool.and_eq_true] at h
        rw [List.dropWhile_cons, if_pos h.1]
        exact ih h.2
    rw [h1 s.reverse (by rw [List.all_reverse]; exact h)]
    rfl
theorem ok_iff (s : Tx) : okS s = true ↔ s.length = 256 ∧ Lib.trimS s [48, 49] = [] := by
  rw [trim_nil]
  unfold okS
  simp only [Bool.and_eq_true, beq_iff_eq, List.all_eq_true, Bool.or_eq_true, List.contains_cons, List.contains_nil, Bool.or_false]
/-- From one byte to another one. -/
def spanB (a b : Nat) : Nat → Bool := fun i => decide (a ≤ i ∧ i ≤ b)
def unionB (x y : Tx) : Nat → Bool := fun i => hasT x i || hasT y i
def notB (x : Tx) : Nat → Bool := fun i => !hasT x i
def countT (x : Tx) : Nat := (List.range 256).countP (hasT x)
end Go.Proofs.YtmjggjccmbiheabDoor
