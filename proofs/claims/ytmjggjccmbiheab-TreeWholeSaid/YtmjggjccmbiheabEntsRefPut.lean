/- ents.Names; the reference's Cut, Put and Merge over entries, step by step. -/
import Derived.Test.YtmjggjccmbiheabEntsPut
namespace Go.Proofs.Ytmjggjccmbiheab
open Go.RowKit Go.Proofs Go.Sort
attribute [local go_sem] mk_list mk_size mk_data

section
variable {P : Program} {ops : Array Oper} {rest : List Oper} {o : Oper} {a : Act} {Q : Exit → Act → World → Prop}
/-- append(v, x) of one element to a row of the call's own. -/
theorem put_one_at {w0 W : World} (p : Nat) (hpp : W.heap.size = p) (base : Nat) (hgd : o.guard = none) (s x : Operand) (t e : TypeId) (z : Value) (size bytes : Nat)
    (ho : o.op = .call { callee := .builtin .append, args := #[s, x], argTypes := #[t, t] })
    (ht : P.underlying t = some (.slice e)) (hinfo : (P.info? e).map (fun i => (i.zero, i.size, i.bytes)) = some (some z, size, bytes)) (hz : z.cells.size = size) (hs0 : 0 < size) (hb0 : 0 < bytes)
    (v : Value) (n : Nat) (xs ys : List Value) (hs : a.eval s = v) (hx : a.eval x = .slice (some ⟨p, 0, none⟩) 1 1) (hys : ys.length = size) (h1 : ∀ u ∈ ys, u.oneCell' = true)
    (HO : W.ownsRow base e size v n xs) (HB : Below base w0 W) (hbase : base ≤ W.heap.size) (hl : (n + 1) * bytes ≤ 140737488355328)
    (h : ∀ v1 w1, w1.ownsRow base e size v1 (n + 1) (xs ++ ys) → Below base w0 w1 → W.grownBy w1 v.ownBlock → wpList P ops Q rest (a.put o.dst v1) w1) :
    wpList P ops Q (o :: rest) a (W.alloc (.cells ys.toArray e)) := by
  subst hpp
  obtain ⟨i0, hi, hzz⟩ := Option.map_eq_some_iff.1 hinfo
  simp only [Prod.mk.injEq] at hzz
  obtain ⟨hz0, hz1, hz2⟩ := hzz
  have hlen : n + 1 ≤ 140737488355328 := Nat.le_trans (Nat.le_mul_of_pos_right _ hb0) hl
  refine wpList_append_own (W.alloc (.cells ys.toArray e)) hgd s x t ho base e i0 z size bytes ht hi hz0 hz1 hz2 hz hs0 v n xs hs (HO.alloc _) ⟨W.heap.size, 0, none⟩ 1 1 ys hx (by rw [hys]; simp)
    (by simpa using World.news_of_block (cs := ys.toArray) (t := e) (fr := (0, 0)) (heap_alloc_new W (.cells ys.toArray e))) h1 (by simp only [maxLen]; omega) hl (by simp; omega) ?_
  intro v1 w1 hown hg _
  exact h v1 w1 hown ((HB.alloc hbase _).grown hg (by simp; omega) (fun k hk => own_base HO k hk.symm)) (World.grownBy.trans (World.grownBy_alloc W _ _) hg)
end

theorem filter_take {p : En → Bool} {l : List En} {k : Nat} (h : k < l.length) : (l.take (k + 1)).filter p = (l.take k).filter p ++ (if p l[k] then [l[k]] else []) := by
  rw [List.take_succ_eq_append_getElem h, List.filter_append]
  congr 1
  by_cases hp : p l[k] <;> simp [hp]

theorem OwnE.put {w : World} {base : Nat} {v : Value} {zs : List En} {x : Tx} {n : Int} (h : w.ownsRow base 40 2 v (zs.length + 1) (cellsE zs ++ [.string (mk x), .int .i64 n])) : OwnE w base v (zs ++ [(x, n)]) := by
  unfold OwnE
  rw [cellsE_append, List.length_append]
  exact h

set_option maxHeartbeats 2000000 in
theorem ref6_Cut (a : Option Addr) (c : Nat) (xs : List En) (s : Tx) (w : World) (h : EntsAt w a xs) (hl : xs.length ≤ 1000000000) :
    Calls Try.prog 59 #[.slice a xs.length c, .string (mk s)] w (GivesE ((allE xs).filter fun e => !(e.1 == s)) w) := by
  have h1 := ref6_all a c xs w h (by omega)
  have hl2 := Nat.le_trans (allE_le xs) hl
  obtain ⟨n, hn⟩ : ∃ n, xs.length = n := ⟨_, rfl⟩
  rw [hn] at h1 ⊢
  clear hn h hl
  generalize allE xs = ys at *
  obtain ⟨m, hm⟩ : ∃ m, ys.length = m := ⟨_, rfl⟩
  have HM := Lib.hid hm
  rw [hm] at h1 hl2
  clear hm
  go_enter Try.func59, Try.ntmps59
  go_wp2_with fail
  refine h1.mono ?_
  rintro e w1 ⟨a1, c1, rfl, k1, q1, hw1⟩
  have b1 := Lib.hid (show Below w.heap.size w w1 by rw [hw1]; exact below_drewN (Below.refl _ _) _)
  have K1 := Lib.hid k1
  clear h1 hw1 k1
  go_wp2_with fail
  go_loopg [6, 5] m (fun g i v wx => ∃ k : Nat, k + g = m ∧ i = .int .i64 k ∧ Hid (Below w1.heap.size w1 wx) ∧ Hid (OwnE wx w1.heap.size v ((ys.take k).filter fun e => !(e.1 == s))))
  case atStart => exact ⟨0, by omega, rfl, Lib.hid (Below.refl _ _), Lib.hid (World.ownsRow_nil w1 _ 40 2)⟩
  case round =>
    obtain ⟨k, hk, rfl, hb3, ho⟩ := hrel
    cases gk with
    | zero =>
      obtain rfl : k = m := by omega
      go_wp2
      go_ret
      refine ⟨_, rfl, ?_, ext_trans b1.out hb3.out⟩
      have := ho.out.mono b1.out.size
      rw [List.take_of_length_le (by have := HM.out; omega)] at this
      exact this
    | succ g =>
      have hi : k < ys.length := by have := HM.out; omega
      obtain ⟨bb, o1, rfl, l1, e1⟩ := (K1.out.below hb3.out).cells hi
      have f1 := (e1 k hi).1
      have f2 := (e1 k hi).2
      obtain ⟨x, hx1⟩ : ∃ x, ys[k].1 = x := ⟨_, rfl⟩
      obtain ⟨v, hv⟩ : ∃ v, ys[k].2 = v := ⟨_, rfl⟩
      rw [hx1] at f1
      rw [hv] at f2
      have HV := Lib.hid (show ys[k] = (x, v) by rw [← hx1, ← hv])
      have hi0 : (0 : Int) ≤ (k : Int) := by omega
      have him' : (k : Int) < (m : Int) := by omega
      have hft := Lib.hid (filter_take (p := fun e : En => !(e.1 == s)) hi)
      have hzl := List.length_filter_le (fun e : En => !(e.1 == s)) (ys.take k)
      rw [List.length_take] at hzl
      rw [HV.out] at hft
      obtain ⟨zs, hzs⟩ : ∃ zs, (ys.take k).filter (fun e : En => !(e.1 == s)) = zs := ⟨_, rfl⟩
      rw [hzs] at ho hft hzl
      have HZL : Hid (zs.length ≤ m) := Lib.hid (by have := HM.out; omega)
      have HBS := Lib.hid hb3.out.size
      clear hx1 hv e1 l1 hzs hzl
      cases hb : (x == s)
      · simp only [hb] at hft
        go_wp2_with (at_builtin; refine put_one w1.heap.size rfl _ _ 36 40 _ 2 24 rfl Try.underlying36 info38 rfl (by decide) (by decide) u5 zs.length _ [.string (mk x), .int .i64 v] rfl rfl rfl (by simp [Value.oneCell']) ho.out hb3.out HBS.out (by have := HZL.out; omega) ?_; intro v1 w4 hown1 hb1 hg1)
        go_roundg g
        case measure => omega
        case rel => exact ⟨k + 1, by omega, by go_num, Lib.hid hb1, Lib.hid (by rw [hft.out]; exact OwnE.put hown1)⟩
      · simp only [hb] at hft
        go_wp2_with fail
        go_roundg g
        case measure => omega
        case rel => exact ⟨k + 1, by omega, by go_num, hb3, Lib.hid (by rw [hft.out]; simpa using ho.out)⟩

end Go.Proofs.Ytmjggjccmbiheab
