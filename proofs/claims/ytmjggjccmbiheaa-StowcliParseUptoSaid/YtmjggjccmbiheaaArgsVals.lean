/- args.Values, Operands, Has, step by step. -/
import Derived.Test.YtmjggjccmbiheaaArgsParse
namespace Go.Proofs.Ytmjggjccmbiheaa
open Go Go.RowKit Go.Proofs Go.Sort
attribute [local go_sem] mk_list mk_size mk_data

theorem ItemsAt.cells {W : World} {A : Option Addr} {items : List ItemT} (h : ItemsAt W A items) {k : Nat} (hk : k < items.length) : ∃ b off, A = some ⟨b, off, none⟩ ∧ b < W.heap.size ∧ W.cell? ⟨b, off + k * 2, none⟩ = some (.string (mk items[k].long)) ∧ ∃ A' c', W.cell? ⟨b, off + k * 2 + 1, none⟩ = some (.slice A' items[k].vals.length c') ∧ StrsAt W A' items[k].vals := by
  rcases h with rfl | ⟨b, off, h1, h2, h3⟩
  · simp at hk
  · exact ⟨b, off, h1, h2, h3 k hk⟩
theorem valuesS_take (l : List ItemT) (long : Tx) (k : Nat) : (valuesS (l.take k) long).length ≤ tv l := by
  have h1 := valuesS_len long (l.take k)
  have h2 : tv (l.take k) ≤ tv l := by
    have := tv_append (l.take k) (l.drop k)
    rw [List.take_append_drop] at this
    omega
  omega
theorem tv_at (l : List ItemT) {k : Nat} (h : k < l.length) : l[k].vals.length ≤ tv l := by
  have h1 := tv_append (l.take k) (l.drop k)
  rw [List.take_append_drop, List.drop_eq_getElem_cons h, tv_cons] at h1
  omega

set_option maxRecDepth 100000 in
set_option maxHeartbeats 4000000 in
theorem args_Values (A : Option Addr) (c : Nat) (items : List ItemT) (long : Tx) (w : World) (h : ItemsAt w A items) (hl : items.length ≤ 100000000000) (ht : tv items ≤ 100000000000) :
    Calls Try.prog 75 #[.slice A items.length c, .string (mk long)] w fun e w' => ∃ v, e = .returned v ∧ w'.ownsRow w.heap.size 9 1 v (valuesS items long).length ((valuesS items long).map fun x => .string (mk x)) ∧ Below w.heap.size w w' := by
  obtain ⟨n, hn⟩ : ∃ n, items.length = n := ⟨_, rfl⟩
  have HN := Lib.hid hn
  have HI := Lib.hid h
  have HT := Lib.hid ht
  rw [hn] at hl ⊢
  clear hn h ht
  go_enter Try.func75, Try.ntmps75
  go_wp2_with fail
  go_loopg [5, 10] n (fun g ov iv wx => ∃ i : Nat, i + g = n ∧ iv = .int .i64 i ∧ Hid (Below w.heap.size w wx) ∧ Hid (wx.ownsRow w.heap.size 9 1 ov (valuesS (items.take i) long).length ((valuesS (items.take i) long).map fun x => .string (mk x))))
  case atStart => exact ⟨0, by omega, rfl, Lib.hid (Below.refl _ _), Lib.hid (by simp [valuesS]; exact World.ownsRow_nil _ _ _ _)⟩
  case round =>
    obtain ⟨i, hi, rfl, hb, ho⟩ := hrel
    cases gk with
    | zero =>
      obtain rfl : i = n := by omega
      have HO : Hid (wr.ownsRow w.heap.size 9 1 u5 (valuesS items long).length ((valuesS items long).map fun x => .string (mk x))) := Lib.hid (by have := ho.out; rwa [List.take_of_length_le (by have := HN.out; omega)] at this)
      clear ho
      go_wp2_with fail
      go_ret
      exact ⟨_, rfl, HO.out, hb.out⟩
    | succ g =>
      have hiw : i < items.length := by have := HN.out; omega
      have hiI : (i : Int) < (n : Int) := by omega
      have hi0 : (0 : Int) ≤ (i : Int) := by omega
      obtain ⟨b, off, rfl, hlt, f1, A', c', f2, hs⟩ := (HI.out.below hb.out).cells hiw
      have HTK := Lib.hid (List.take_succ_eq_append_getElem hiw)
      have HTV := Lib.hid (tv_at items hiw)
      have HVL := Lib.hid (valuesS_take items long i)
      obtain ⟨x, hx⟩ : ∃ x, items[i] = x := ⟨_, rfl⟩
      rw [hx] at f1 f2 hs HTK HTV
      obtain ⟨xl, xv⟩ := x
      simp only at f1 f2 hs HTV
      have HS := Lib.hid hs
      have hbs := hb.out.size
      have HBA : Hid (Below w.heap.size w (wr.alloc (.cells #[.string (mk xl), .slice A' xv.length c'] 108))) := Lib.hid (hb.out.alloc hbs _)
      clear hx hs
      cases hxl : (xl == long)
      · have HV : Hid (valuesS (items.take (i + 1)) long = valuesS (items.take i) long) := Lib.hid (by
          rw [HTK.out, valuesS_append]; unfold valuesS; rw [List.filter_cons, if_neg (by simp [hxl])]; simp)
        go_wp2_with fail
        go_roundg g
        case measure => omega
        case rel => exact ⟨i + 1, by omega, by go_num, HBA, Lib.hid (by rw [HV.out]; exact ho.out.alloc _)⟩
      · have HV : Hid (valuesS (items.take (i + 1)) long = valuesS (items.take i) long ++ xv) := Lib.hid (by
          rw [HTK.out, valuesS_append]; congr 1; unfold valuesS; rw [List.filter_cons, if_pos (by simpa using hxl)]; simp)
        have hbd : ((valuesS (items.take i) long).length + xv.length) * 16 ≤ 140737488355328 := by have := HT.out; have := HTV.out; have := HVL.out; omega
        go_wp2_with (at_builtin; refine wpList_append_strs w.heap.size rfl _ _ rfl u5 _ _ (valuesS (items.take i) long) xv rfl _ _ rfl rfl (HS.out.below ((Below.refl _ _).alloc (Nat.le_refl _) _)) (ho.out.alloc _) HBA.out (by simp; omega) hbd ?_; intro v1 w1 ho1 hb1; have HO1 := Lib.hid ho1; have HB1 := Lib.hid hb1; clear ho1 hb1)
        go_roundg g
        case measure => omega
        case rel => exact ⟨i + 1, by omega, by go_num, HB1, Lib.hid (by rw [HV.out, List.length_append]; exact HO1.out)⟩

set_option maxHeartbeats 1000000 in
theorem args_Operands (A : Option Addr) (c : Nat) (items : List ItemT) (w : World) (h : ItemsAt w A items) (hl : items.length ≤ 100000000000) (ht : tv items ≤ 100000000000) :
    Calls Try.prog 29 #[.slice A items.length c] w fun e w' => ∃ v, e = .returned v ∧ w'.ownsRow w.heap.size 9 1 v (valuesS items []).length ((valuesS items []).map fun x => .string (mk x)) ∧ Below w.heap.size w w' := by
  have HV := Lib.hid (args_Values A c items [] w h hl ht)
  have hk : (⟨#[]⟩ : ByteArray) = mk [] := rfl
  generalize valuesS items [] = vs at HV ⊢
  obtain ⟨n, hn⟩ : ∃ n, items.length = n := ⟨_, rfl⟩
  rw [hn] at HV ⊢
  clear hn h hl ht
  go_enter Try.func29, Try.ntmps29
  simp only [hk]
  go_wp2_with fail
  refine HV.out.mono ?_
  rintro e w' ⟨v, rfl, ho, hb⟩
  have HO := Lib.hid (And.intro ho hb)
  clear ho hb
  go_wp2_with fail
  go_ret
  exact ⟨_, rfl, HO.out.1, HO.out.2⟩
end Go.Proofs.Ytmjggjccmbiheaa
