/- The reference's named, lettered, with, and One at an operand, step by step. -/
import Derived.Test.YtmjggjccmbiheaaStowSame
import Derived.Deep.DeepCutAuto
namespace Go.Proofs.Ytmjggjccmbiheaa
open Go Go.RowKit Go.Proofs Go.Sort
attribute [local go_sem] mk_list mk_size mk_data

theorem SpecsAt.cells {W : World} {a : Option Addr} {ss : List SpecT} (h : SpecsAt W a ss) {k : Nat} (hk : k < ss.length) : ∃ b off, a = some ⟨b, off, none⟩ ∧ b < W.heap.size ∧ W.cell? ⟨b, off + k * 3, none⟩ = some (.string (mk ss[k].long)) ∧ W.cell? ⟨b, off + k * 3 + 1, none⟩ = some (.int .u8 ss[k].short.toNat) ∧ W.cell? ⟨b, off + k * 3 + 2, none⟩ = some (.int .i64 ss[k].needs) := by
  rcases h with rfl | ⟨b, off, h1, h2, h3⟩
  · simp at hk
  · exact ⟨b, off, h1, h2, h3 k hk 0 _ rfl, h3 k hk 1 _ rfl, h3 k hk 2 _ rfl⟩
theorem find_step {α : Type} {q : α → Bool} {l : List α} {k : Nat} (hk : k < l.length) (h : (l.take k).find? q = none) :
    (q l[k] = false → (l.take (k + 1)).find? q = none) ∧ (q l[k] = true → l.find? q = some l[k]) := by
  constructor
  · intro h2
    rw [List.take_succ_eq_append_getElem hk, List.find?_append, h]
    simp [h2]
  · intro h2
    conv => lhs; rw [← List.take_append_drop k l, List.drop_eq_getElem_cons hk, List.find?_append, h, List.find?_cons, h2]
    rfl
set_option maxRecDepth 100000 in
set_option maxHeartbeats 2000000 in
theorem ref_named (a : Option Addr) (c : Nat) (ss : List SpecT) (n : Tx) (w : World) (h : SpecsAt w a ss) (hss : ss.length ≤ 1000000) :
    Calls Try.prog 152 #[.slice a ss.length c, .string (mk n)] w fun e w' => e = .returned (.tuple #[specV ((findS ss fun s => s.long == n).getD ⟨[], 0, 0⟩), .bool (findS ss fun s => s.long == n).isSome]) ∧ Below w.heap.size w w' := by
  obtain ⟨m, hm⟩ : ∃ m, ss.length = m := ⟨_, rfl⟩
  obtain ⟨r, hr⟩ : ∃ r, (findS ss fun s => s.long == n) = r := ⟨_, rfl⟩
  have HM := Lib.hid hm
  have HF := Lib.hid hr
  have HS := Lib.hid h
  rw [hr]
  rw [hm] at hss ⊢
  have e0 : (⟨#[]⟩ : ByteArray) = mk [] := rfl
  clear hm hr h
  go_enter Try.func152, Try.ntmps152
  simp only [e0]
  clear e0
  go_wp2_with fail
  go_loopg [6] m (fun g iv wx => ∃ k : Nat, k + g = m ∧ iv = .int .i64 k ∧ Hid ((ss.take k).find? (fun s => !(s.long == []) && s.long == n) = none) ∧ wx = w.alloc (.cells #[.string ⟨#[]⟩, .int .u8 0, .int .i64 0] 67))
  case atStart => exact ⟨0, by omega, rfl, Lib.hid rfl, rfl⟩
  case round =>
    obtain ⟨k, hk, rfl, hno, rfl⟩ := hrel
    cases gk with
    | zero =>
      obtain rfl : k = m := by omega
      have hr : Hid (r = none) := Lib.hid (by rw [← HF.out]; have := hno.out; rwa [List.take_of_length_le (by have := HM.out; omega)] at this)
      obtain rfl := hr.out
      go_wp2_with fail
      refine bodyPost_ret (v := .tuple #[specV ⟨[], 0, 0⟩, .bool false]) ?_ rfl ⟨rfl, ?_⟩
      · rw [results_cell_tmp rfl]
        go_simp
        rfl
      · exact (Below.refl _ _).alloc (Nat.le_refl _) _
    | succ g =>
      have hkw : k < ss.length := by have := HM.out; omega
      obtain ⟨b, off, rfl, hlt, f0, f1, f2⟩ := HS.out.cells hkw
      have HST := Lib.hid (find_step hkw hno.out)
      obtain ⟨x, hx⟩ : ∃ x, ss[k] = x := ⟨_, rfl⟩
      rw [hx] at f0 f1 f2 HST
      obtain ⟨xl, xs, xn⟩ := x
      simp only at f0 f1 f2
      have hkI : (k : Int) < (m : Int) := by omega
      have hk0 : (0 : Int) ≤ (k : Int) := by omega
      have hal : ∀ i, (w.alloc (.cells #[.string ⟨#[]⟩, .int .u8 0, .int .i64 0] 67)).cell? ⟨b, i, none⟩ = w.cell? ⟨b, i, none⟩ := fun i => World.cell?_alloc_lt _ _ _ hlt
      rw [← hal] at f0 f1 f2
      clear hx hal hlt hno
      cases hq : (!(xl == []) && xl == n)
      · have hnx : Hid ((ss.take (k + 1)).find? (fun s => !(s.long == []) && s.long == n) = none) := Lib.hid (HST.out.1 hq)
        cases he : (xl == n)
        · go_wp2_with fail
          go_roundg g
          case measure => omega
          case rel => exact ⟨k + 1, by omega, by go_num, hnx, rfl⟩
        · have hn : n.isEmpty = true := by
            rw [he] at hq
            have : xl = n := by simpa using he
            subst this
            cases xl <;> simp at hq ⊢
          go_wp2_with fail
          go_roundg g
          case measure => omega
          case rel => exact ⟨k + 1, by omega, by go_num, hnx, rfl⟩
      · have hr : Hid (r = some ⟨xl, xs, xn⟩) := Lib.hid (by rw [← HF.out]; exact HST.out.2 hq)
        obtain rfl := hr.out
        have he : (xl == n) = true := by simp only [Bool.and_eq_true] at hq; exact hq.2
        have hn : n.isEmpty = false := by
          have : xl = n := by simpa using he
          subst this
          cases xl <;> simp at hq ⊢
        clear hq
        go_wp2_with fail
        refine bodyPost_ret (v := .tuple #[specV ⟨xl, xs, xn⟩, .bool true]) ?_ rfl ⟨rfl, ?_⟩
        · rw [results_cell_tmp rfl]
          unfold specV specC
          go_simp
        · exact (Below.refl _ _).alloc (Nat.le_refl _) _
theorem u8_eq (a b : UInt8) : (((a.toNat : Nat) : Int) == ((b.toNat : Nat) : Int)) = (a == b) := by
  rw [Bool.eq_iff_iff]
  simp only [beq_iff_eq]
  constructor
  · intro e; exact UInt8.toNat_inj.1 (by omega)
  · intro e; rw [e]
set_option maxRecDepth 100000 in
set_option maxHeartbeats 2000000 in
theorem ref_lettered (a : Option Addr) (c : Nat) (ss : List SpecT) (b0 : UInt8) (w : World) (h : SpecsAt w a ss) (hss : ss.length ≤ 1000000) :
    Calls Try.prog 154 #[.slice a ss.length c, .int .u8 b0.toNat] w fun e w' => e = .returned (.tuple #[specV ((findS ss fun s => !(s.short == 0) && s.short == b0).getD ⟨[], 0, 0⟩), .bool (findS ss fun s => !(s.short == 0) && s.short == b0).isSome]) ∧ Below w.heap.size w w' := by
  obtain ⟨m, hm⟩ : ∃ m, ss.length = m := ⟨_, rfl⟩
  obtain ⟨r, hr⟩ : ∃ r, (findS ss fun s => !(s.short == 0) && s.short == b0) = r := ⟨_, rfl⟩
  have HM := Lib.hid hm
  have HF := Lib.hid hr
  have HS := Lib.hid h
  rw [hr]
  rw [hm] at hss ⊢
  have e0 : (⟨#[]⟩ : ByteArray) = mk [] := rfl
  have HU := Lib.hid (u8_eq · b0)
  have HU0 : Hid ((((b0.toNat : Nat) : Int) == 0) = (b0 == 0)) := Lib.hid (byte_eq b0 0 (by omega))
  obtain ⟨d, hd⟩ : ∃ d : Int, ((b0.toNat : Nat) : Int) = d := ⟨_, rfl⟩
  have hdr : 0 ≤ d ∧ d < 256 := by have := b0.toNat_lt; omega
  have hd0 := hdr.1
  have hd1 := hdr.2
  simp only [hd] at HU HU0
  rw [hd]
  clear hm hr h hd hdr
  go_enter Try.func154, Try.ntmps154
  simp only [e0]
  clear e0
  go_wp2_with fail
  go_loopg [6] m (fun g iv wx => ∃ k : Nat, k + g = m ∧ iv = .int .i64 k ∧ Hid ((ss.take k).find? (fun s => !(s.long == []) && (!(s.short == 0) && s.short == b0)) = none) ∧ wx = w.alloc (.cells #[.string ⟨#[]⟩, .int .u8 0, .int .i64 0] 67))
  case atStart => exact ⟨0, by omega, rfl, Lib.hid rfl, rfl⟩
  case round =>
    obtain ⟨k, hk, rfl, hno, rfl⟩ := hrel
    cases gk with
    | zero =>
      obtain rfl : k = m := by omega
      have hr : Hid (r = none) := Lib.hid (by rw [← HF.out]; have := hno.out; rwa [List.take_of_length_le (by have := HM.out; omega)] at this)
      obtain rfl := hr.out
      go_wp2_with fail
      refine bodyPost_ret (v := .tuple #[specV ⟨[], 0, 0⟩, .bool false]) ?_ rfl ⟨rfl, ?_⟩
      · rw [results_cell_tmp rfl]
        go_simp
        rfl
      · exact (Below.refl _ _).alloc (Nat.le_refl _) _
    | succ g =>
      have hkw : k < ss.length := by have := HM.out; omega
      obtain ⟨b, off, rfl, hlt, f0, f1, f2⟩ := HS.out.cells hkw
      have HST := Lib.hid (find_step hkw hno.out)
      obtain ⟨x, hx⟩ : ∃ x, ss[k] = x := ⟨_, rfl⟩
      rw [hx] at f0 f1 f2 HST
      obtain ⟨xl, xs, xn⟩ := x
      simp only at f0 f1 f2
      have hkI : (k : Int) < (m : Int) := by omega
      have hk0 : (0 : Int) ≤ (k : Int) := by omega
      have hal : ∀ i, (w.alloc (.cells #[.string ⟨#[]⟩, .int .u8 0, .int .i64 0] 67)).cell? ⟨b, i, none⟩ = w.cell? ⟨b, i, none⟩ := fun i => World.cell?_alloc_lt _ _ _ hlt
      rw [← hal] at f0 f1 f2
      have HX := Lib.hid (HU.out xs)
      obtain ⟨t, ht⟩ : ∃ t : Int, ((xs.toNat : Nat) : Int) = t := ⟨_, rfl⟩
      rw [ht] at f1 HX
      have HTT := Lib.hid ht
      clear hx hal hlt hno ht
      cases hq : (!(xl == []) && (!(xs == 0) && xs == b0))
      · have hnx : Hid ((ss.take (k + 1)).find? (fun s => !(s.long == []) && (!(s.short == 0) && s.short == b0)) = none) := Lib.hid (HST.out.1 hq)
        cases hl : (xl == [])
        · have hl2 : xl.isEmpty = false := by cases xl <;> simp at hl ⊢
          cases he : (xs == b0)
          · have h1 : (t == d) = false := by rw [HX.out]; exact he
            clear hq hl he
            go_wp2_with fail
            go_roundg g
            case measure => omega
            case rel => exact ⟨k + 1, by omega, by go_num, hnx, rfl⟩
          · have h1 : (t == d) = true := by rw [HX.out]; exact he
            have h2 : (d == 0) = true := by
              rw [hl, he] at hq
              have e : xs = b0 := by simpa using he
              subst e
              rw [HU0.out]
              simpa using hq
            have h3 : (d != 0) = false := by rw [bne, h2]; rfl
            clear hq hl he
            go_wp2_with fail
            go_roundg g
            case measure => omega
            case rel => exact ⟨k + 1, by omega, by go_num, hnx, rfl⟩
        · have hl2 : xl.isEmpty = true := by cases xl <;> simp at hl ⊢
          clear hq hl
          go_wp2_with fail
          go_roundg g
          case measure => omega
          case rel => exact ⟨k + 1, by omega, by go_num, hnx, rfl⟩
      · have hr : Hid (r = some ⟨xl, xs, xn⟩) := Lib.hid (by rw [← HF.out]; exact HST.out.2 hq)
        obtain rfl := hr.out
        simp only [Bool.and_eq_true, Bool.not_eq_true'] at hq
        obtain ⟨hl, h0, he⟩ := hq
        have hl2 : xl.isEmpty = false := by cases xl <;> simp at hl ⊢
        have h1 : (t == d) = true := by rw [HX.out]; exact he
        have h2 : (d == 0) = false := by
          have e : xs = b0 := by simpa using he
          subst e
          rw [HU0.out]
          exact h0
        have h3 : (d != 0) = true := by rw [bne, h2]; rfl
        have HV : Hid (specV ⟨xl, xs, xn⟩ = .agg #[.string (mk xl), .int .u8 t, .int .i64 xn]) := Lib.hid (by unfold specV specC; simp only; rw [HTT.out])
        clear hl h0 he
        go_wp2_with fail
        refine bodyPost_ret (v := .tuple #[specV ⟨xl, xs, xn⟩, .bool true]) ?_ rfl ⟨rfl, ?_⟩
        · rw [results_cell_tmp rfl, HV.out]
          go_simp
        · exact (Below.refl _ _).alloc (Nat.le_refl _) _


/-- Texts that lie in a block from base on that is not this row. -/
def InAt (W : World) (base : Nat) (row : Option Nat) (A : Option Addr) (xs : List Tx) : Prop :=
  xs = [] ∨ ∃ b off, A = some ⟨b, off, none⟩ ∧ b < W.heap.size ∧ (base ≤ b ∧ some b ≠ row) ∧ ∀ (j : Nat) (h : j < xs.length), W.cell? ⟨b, off + j, none⟩ = some (.string (mk xs[j]))
theorem InAt.strs {W : World} {base : Nat} {row : Option Nat} {A : Option Addr} {xs : List Tx} (h : InAt W base row A xs) : StrsAt W A xs := by
  rcases h with h | ⟨b, off, h1, h2, _, h5⟩
  · exact .inl h
  · exact .inr ⟨b, off, h1, h2, h5⟩
theorem InAt.grown {W W' : World} {base : Nat} {row row' : Option Nat} {A : Option Addr} {xs : List Tx} (h : InAt W base row A xs) (g : W.grownBy W' row) (hr : row' = row ∨ ∃ k, row' = some k ∧ W.heap.size ≤ k) : InAt W' base row' A xs := by
  rcases h with h | ⟨b, off, h1, h2, ⟨h0, h4⟩, h5⟩
  · exact .inl h
  · refine .inr ⟨b, off, h1, Nat.lt_of_lt_of_le h2 g.size, ⟨h0, ?_⟩, fun j hj => ?_⟩
    · rcases hr with rfl | ⟨k, rfl, hk⟩
      · exact h4
      · intro e; cases e; omega
    · rw [← h5 j hj]
      exact World.cell?_of_block (a := ⟨b, off + j, none⟩) (g.block b h2 h4)
theorem InAt.below {W W' : World} {base : Nat} {row : Option Nat} {A : Option Addr} {xs : List Tx} (h : InAt W base row A xs) (hb : Below W.heap.size W W') : InAt W' base row A xs := by
  rcases h with h | ⟨b, off, h1, h2, h4, h5⟩
  · exact .inl h
  · exact .inr ⟨b, off, h1, Nat.lt_of_lt_of_le h2 hb.size, h4, fun j hj => (hb.cell (p := ⟨b, off + j, none⟩) h2).trans (h5 j hj)⟩
/-- A row of the reference's items, of the call's own. -/
def RowI (W : World) (base : Nat) (v : Value) (items : List ItemT) : Prop :=
  ∃ raws : List RawI, raws.map (·.it) = items ∧ W.ownsRow base 105 2 v items.length (raws.flatMap rawC) ∧ ∀ x ∈ raws, InAt W base v.ownBlock x.A x.it.vals
theorem RowI.nil (W : World) (base : Nat) : RowI W base (.slice none 0 0) [] := ⟨[], rfl, World.ownsRow_nil _ _ _ _, by simp⟩
theorem RowI.below {W W' : World} {base : Nat} {v : Value} {items : List ItemT} (h : RowI W base v items) (hb : Below W.heap.size W W') : RowI W' base v items := by
  obtain ⟨raws, h1, h2, h4⟩ := h
  exact ⟨raws, h1, own_below h2 hb, fun x hx => (h4 x hx).below hb⟩
theorem InAt.mono {W : World} {base base' : Nat} {row : Option Nat} {A : Option Addr} {xs : List Tx} (h : InAt W base row A xs) (hb : base' ≤ base) : InAt W base' row A xs := by
  rcases h with h | ⟨b, off, h1, h2, ⟨h0, h4⟩, h5⟩
  · exact .inl h
  · exact .inr ⟨b, off, h1, h2, ⟨Nat.le_trans hb h0, h4⟩, h5⟩
theorem RowI.mono {W : World} {base base' : Nat} {v : Value} {items : List ItemT} (h : RowI W base v items) (hb : base' ≤ base) : RowI W base' v items := by
  obtain ⟨raws, h1, h2, h4⟩ := h
  exact ⟨raws, h1, row_mono h2 hb, fun x hx => (h4 x hx).mono hb⟩
theorem RowI.own {W : World} {base : Nat} {v : Value} {items : List ItemT} (h : RowI W base v items) : ∀ g, v.ownBlock = some g → base ≤ g ∧ g < W.heap.size := by
  obtain ⟨raws, _, h2, _⟩ := h
  exact h2.lt
theorem RowI.slice {W : World} {base : Nat} {v : Value} {items : List ItemT} (h : RowI W base v items) : ∃ A c, v = .slice A items.length c ∧ items.length ≤ c := by
  obtain ⟨raws, _, h2, _⟩ := h
  rcases h2.2 with ⟨rfl, h0⟩ | ⟨g, cap, cur, rfl, _, _, hn, _⟩
  · exact ⟨none, 0, by rw [h0], by omega⟩
  · exact ⟨_, cap, rfl, hn⟩
/-- A row of one item that lies in a block of its own. -/
theorem RowI.one {W : World} {base : Nat} {b : Nat} (it : ItemT) (A : Option Addr) (c : Nat) (hi : InAt W base (some b) A it.vals) (ho : W.ownsRow base 105 2 (.slice (some ⟨b, 0, none⟩) 1 1) 1 [.string (mk it.long), .slice A it.vals.length c]) : RowI W base (.slice (some ⟨b, 0, none⟩) 1 1) [it] :=
  ⟨[⟨it, A, c⟩], rfl, ho, fun x hx => by rw [List.mem_singleton.1 hx]; exact hi⟩
theorem info105 : (Try.prog.info? 105).map (fun i => (i.zero, i.size, i.bytes)) = some (some (.agg #[.string ⟨#[]⟩, .slice none 0 0]), 2, 40) := by kernel_rfl

section
variable {ops : Array Oper}
/-- append(l, item): the item lies in a block of its own. -/
theorem wp_put_item {W0 W : World} {o : Oper} {a : Act} {K : Act → World → Prop} {Q : Exit → Act → World → Prop} (s x : Operand)
    (ho : o.op = .call { callee := .builtin .append, args := #[s, x], argTypes := #[101, 101] }) (base : Nat) (v : Value) (items : List ItemT) (hs : a.eval s = v)
    (H0 : RowI W0 base v items) (hbl : Below W0.heap.size W0 W) (hbase : base ≤ W0.heap.size) (hl : (items.length + 1) * 40 ≤ 140737488355328)
    (B : Nat) (hx : a.eval x = .slice (some ⟨B, 0, none⟩) 1 1) (it : ItemT) (A : Option Addr) (c : Nat) (fr : Nat × Nat) (hB : W.heap[B]? = some (.cells #[.string (mk it.long), .slice A it.vals.length c] 105 fr))
    (hsafe : InAt W base v.ownBlock A it.vals)
    (h : ∀ v1 w1, RowI w1 base v1 (items ++ [it]) → W.grownBy w1 v.ownBlock → (v1.ownBlock = v.ownBlock ∨ ∃ g', v1.ownBlock = some g' ∧ W.heap.size ≤ g') → K (a.put o.dst v1) w1) : o.wp Try.prog a W K Q := by
  obtain ⟨raws, h1, h2, h4⟩ := H0
  obtain ⟨i0, hi, hzz⟩ := Option.map_eq_some_iff.1 info105
  simp only [Prod.mk.injEq] at hzz
  obtain ⟨hz0, hz1, hz2⟩ := hzz
  have hown := own_below h2 hbl
  have hm1 : items.length + 1 ≤ maxLen := by simp only [maxLen]; omega
  refine wp_append_lies W s x 101 ho base 105 i0 _ 2 40 Try.underlying101 hi hz0 hz1 hz2 rfl (by decide) v items.length _ hs hown ⟨B, 0, none⟩ 1 1 [.string (mk it.long), .slice A it.vals.length c] hx rfl
    (World.news_of_block (cs := #[.string (mk it.long), .slice A it.vals.length c]) hB) (by simp [Value.oneCell']) (by decide) hm1 hl (Nat.le_trans hbase hbl.size) _ rfl ?_
  intro g cap w1 o1 g1 e1 l1
  have hrow : (Value.slice (some ⟨g, 0, none⟩) (items.length + 1) cap).ownBlock = v.ownBlock ∨ ∃ g', (Value.slice (some ⟨g, 0, none⟩) (items.length + 1) cap).ownBlock = some g' ∧ W.heap.size ≤ g' := by
    rcases e1 with e1 | e1
    · exact .inl e1.symm
    · exact .inr ⟨g, rfl, by omega⟩
  refine h _ w1 ⟨raws ++ [⟨it, A, c⟩], by simp [h1], ?_, ?_⟩ g1 hrow
  · rw [List.length_append, List.flatMap_append]
    exact o1
  · intro y hy
    rcases List.mem_append.1 hy with hy | hy
    · exact ((h4 y hy).below hbl).grown g1 hrow
    · rw [List.mem_singleton.1 hy]
      exact hsafe.grown g1 hrow
theorem wpList_put_item {W0 W : World} {rest : List Oper} {o : Oper} {a : Act} {Q : Exit → Act → World → Prop} (hg : o.guard = none) (s x : Operand)
    (ho : o.op = .call { callee := .builtin .append, args := #[s, x], argTypes := #[101, 101] }) (base : Nat) (v : Value) (items : List ItemT) (hs : a.eval s = v)
    (H0 : RowI W0 base v items) (hbl : Below W0.heap.size W0 W) (hbase : base ≤ W0.heap.size) (hl : (items.length + 1) * 40 ≤ 140737488355328)
    (B : Nat) (hx : a.eval x = .slice (some ⟨B, 0, none⟩) 1 1) (it : ItemT) (A : Option Addr) (c : Nat) (fr : Nat × Nat) (hB : W.heap[B]? = some (.cells #[.string (mk it.long), .slice A it.vals.length c] 105 fr))
    (hsafe : InAt W base v.ownBlock A it.vals)
    (h : ∀ v1 w1, RowI w1 base v1 (items ++ [it]) → Below base W w1 → W.grownBy w1 v.ownBlock → (v1.ownBlock = v.ownBlock ∨ ∃ g', v1.ownBlock = some g' ∧ W.heap.size ≤ g') → wpList Try.prog ops Q rest (a.put o.dst v1) w1) : wpList Try.prog ops Q (o :: rest) a W := by
  refine wpList_plain hg fun K hK => ?_
  refine wp_put_item s x ho base v items hs H0 hbl hbase hl B hx it A c fr hB hsafe fun v1 w1 r1 g1 e1 => hK _ _ (h v1 w1 r1 ?_ g1 e1)
  exact (Below.refl base W).grown g1 (Nat.le_trans hbase hbl.size) (fun k hk => (H0.own k hk).1)
end


/-- What a word is, as it is handed back. -/
def GotTo (base : Nat) (items : List ItemT) (res : Option (List ItemT × Nat)) (W : World) (e : Ending) (W' : World) : Prop :=
  match res with
  | none => e = .returned (.agg #[.slice none 0 0, .int .i64 0]) ∧ Below base W W'
  | some (is, n) => (∃ v, e = .returned (.agg #[v, .int .i64 ((n : Int) + 1)]) ∧ RowI W' base v (items ++ is)) ∧ Below base W W'
theorem take_succ_get {α : Type} (l : List α) (i j : Nat) (h : i + j < l.length) : (l.drop i).take (j + 1) = (l.drop i).take j ++ [l[i + j]] := by
  rw [List.take_succ_eq_append_getElem (by rw [List.length_drop]; omega), List.getElem_drop]

theorem own_in {w : World} {base n : Nat} {v : Value} {xs : List Tx} {row : Option Nat} (h : w.ownsRow base 9 1 v n (xs.map fun x => .string (mk x))) (hrow : ∀ g, row = some g → g < base) : ∃ A c, v = .slice A xs.length c ∧ InAt w base row A xs := by
  obtain ⟨A, c, rfl, h1, _, rfl⟩ := StrsAt.own h
  refine ⟨A, c, rfl, ?_⟩
  rcases h1 with h1 | ⟨b, off, rfl, h2, h3⟩
  · exact .inl h1
  · exact .inr ⟨b, off, rfl, h2, ⟨(h.lt b rfl).1, fun e => by have := hrow b e.symm; have := (h.lt b rfl).1; omega⟩, h3⟩
theorem blk_cell {W : World} {z : Nat} {cs : Array Value} {t : TypeId} {fr : Nat × Nat} (h : W.heap[z]? = some (.cells cs t fr)) (i : Nat) : W.cell? ⟨z, i, none⟩ = cs[i]? := by
  unfold World.cell?
  rw [h]
  simp
theorem blk_frozen {W : World} {z : Nat} {cs : Array Value} {t : TypeId} (h : W.heap[z]? = some (.cells cs t)) (i : Nat) : W.frozen? ⟨z, i, none⟩ = false := by
  unfold World.frozen?
  rw [h]
  simp
/-- A row stays what it is where a block is written that holds no text and is not the row. -/
theorem InAt.keep {W W' : World} {z base : Nat} {row : Option Nat} {A : Option Addr} {xs : List Tx} (h : InAt W base row A xs) (k : Keep z none W W') (hz : ∀ i s, W.cell? ⟨z, i, none⟩ ≠ some (.string s)) : InAt W' base row A xs := by
  rcases h with h | ⟨b, off, h1, h2, h4, h5⟩
  · exact .inl h
  · cases xs with
    | nil => exact .inl rfl
    | cons x xs =>
      have hb : b ≠ z := by
        rintro rfl
        exact hz _ _ (h5 0 (by simp))
      exact .inr ⟨b, off, h1, Nat.lt_of_lt_of_le h2 k.size, h4, fun j hj => (k.cell h2 hb (by simp)).trans (h5 j hj)⟩
theorem RowI.keep {W W' : World} {z base : Nat} {v : Value} {items : List ItemT} (h : RowI W base v items) (k : Keep z none W W') (hz : ∀ i s, W.cell? ⟨z, i, none⟩ ≠ some (.string s)) (hv : v.ownBlock ≠ some z) : RowI W' base v items := by
  obtain ⟨raws, h1, h2, h4⟩ := h
  refine ⟨raws, h1, ⟨h2.1, ?_⟩, fun x hx => (h4 x hx).keep k hz⟩
  rcases h2.2 with h0 | ⟨g, cap, cur, hv2, hb, hg, r⟩
  · exact .inl h0
  · refine .inr ⟨g, cap, cur, hv2, hb, ?_, r⟩
    rw [k.block g (Array.getElem?_eq_some_iff.1 hg).1 (by rintro rfl; rw [hv2] at hv; exact hv rfl) (by simp)]
    exact hg
theorem ne_own {v1 v : Value} {z n : Nat} (hv : ∀ g, v.ownBlock = some g → g < z) (e1 : v1.ownBlock = v.ownBlock ∨ ∃ g', v1.ownBlock = some g' ∧ n ≤ g') (hz : z < n) : v1.ownBlock ≠ some z := by
  intro e
  rcases e1 with e1 | ⟨g', e1, e2⟩
  · rw [e] at e1
    have := hv _ e1.symm
    omega
  · rw [e] at e1
    have := Option.some.inj e1
    omega
theorem got_nostr {W : World} {z : Nat} (h : W.heap[z]? = some (.cells #[.slice none 0 0, .int .i64 0] 134)) : ∀ i s, W.cell? ⟨z, i, none⟩ ≠ some (.string s) := by
  intro i s e
  rw [blk_cell h] at e
  match i, e with
  | 0, e => simp at e
  | 1, e => simp at e
  | i + 2, e => simp at e
set_option maxRecDepth 100000 in
set_option maxHeartbeats 4000000 in
theorem ref_with (s : SpecT) (wa : Option Addr) (wc : Nat) (ws : List Tx) (k : Nat) (v : Value) (items : List ItemT) (base : Nat) (W : World) (hw : StrsAt W wa ws) (hk : k < ws.length) (H : RowI W base v items) (hbase : base ≤ W.heap.size) (hws : ws.length ≤ 100000000000) (hl : items.length ≤ 100000000000) :
    Calls Try.prog 153 #[specV s, .slice wa ws.length wc, .int .i64 k, v] W (GotTo base items (putS s (ws.drop (k + 1))) W) := by
  obtain ⟨m, hm⟩ : ∃ m, ws.length = m := ⟨_, rfl⟩
  obtain ⟨n, hn⟩ : ∃ n, nOf s = n := ⟨_, rfl⟩
  have HM := Lib.hid hm
  have HW := Lib.hid hw
  have HR := Lib.hid H
  have HP : Hid (putS s (ws.drop (k + 1)) = if n ≤ m - (k + 1) then some ([⟨s.long, (ws.drop (k + 1)).take n⟩], n) else none) := Lib.hid (by unfold putS; rw [List.length_drop, hm, hn])
  obtain ⟨r, hr⟩ : ∃ r, putS s (ws.drop (k + 1)) = r := ⟨_, rfl⟩
  rw [hr] at HP ⊢
  rw [hm] at hk hws ⊢
  obtain ⟨l, sh, nd⟩ := s
  have HND : Hid ((0 < nd → nd = (n : Int)) ∧ (¬ 0 < nd → n = 0)) := Lib.hid (by unfold nOf at hn; simp only at hn; omega)
  obtain ⟨A0, c0, hv, hc0⟩ := H.slice
  have HV := Lib.hid hv
  unfold specV specC
  simp only at HP ⊢
  clear hm hn hr hw H hv
  have hkI : (k : Int) < (m : Int) := by omega
  have hk0 : (0 : Int) ≤ (k : Int) := by omega
  go_enter Try.func153, Try.ntmps153
  go_upto_if 14 with (fail)
  go_cut [9] (fun s9 wx => s9 = .int .i64 n ∧ wx = (W.alloc (.cells #[.string (mk l), .int .u8 sh.toNat, .int .i64 nd] 67)).alloc (.cells #[.slice none 0 0, .int .i64 0] 134))
  case first =>
    by_cases hnd : 0 < nd
    · have e := HND.out.1 hnd
      subst e
      go_wp2_with (fail)
      all_goals go_meet
      all_goals exact ⟨rfl, rfl⟩
    · have e := HND.out.2 hnd
      subst e
      go_wp2_with (fail)
      all_goals go_meet
      all_goals exact ⟨rfl, rfl⟩
  case rest =>
    obtain ⟨rfl, rfl⟩ := hcut
    by_cases hroom : n ≤ m - (k + 1)
    · obtain ⟨S, hS⟩ : ∃ S, W.heap.size = S := ⟨_, rfl⟩
      obtain ⟨w2, hw2⟩ : ∃ w2, (W.alloc (.cells #[.string (mk l), .int .u8 sh.toNat, .int .i64 nd] 67)).alloc (.cells #[.slice none 0 0, .int .i64 0] 134) = w2 := ⟨_, rfl⟩
      have HB2 : Hid (Below W.heap.size W w2) := Lib.hid (by rw [← hw2]; exact ((Below.refl _ _).alloc (Nat.le_refl _) _).alloc (by simp) _)
      have HC2 : Hid (w2.cell? ⟨S, 0, none⟩ = some (.string (mk l)) ∧ w2.heap[S + 1]? = some (.cells #[.slice none 0 0, .int .i64 0] 134) ∧ S + 1 < w2.heap.size) := Lib.hid (by
        rw [← hw2, ← hS]
        refine ⟨?_, ?_, by simp⟩
        · rw [World.cell?_alloc_lt _ _ _ (by simp), cellA_new]; rfl
        · have := heap_alloc_new (W.alloc (.cells #[.string (mk l), .int .u8 sh.toNat, .int .i64 nd] 67)) (.cells #[.slice none 0 0, .int .i64 0] 134)
          rw [World.size_alloc] at this
          exact this)
      have HS := Lib.hid hS
      rw [hw2, hS]
      clear hw2 hS
      have hr : Hid (r = some ([⟨l, (ws.drop (k + 1)).take n⟩], n)) := Lib.hid (by rw [HP.out, if_pos hroom])
      obtain rfl := hr.out
      have hroomI : ¬ ((m : Int) - (k : Int) - 1 < (n : Int)) := by omega
      have hnm : (n : Int) ≤ (m : Int) := by omega
      have hn0 : (0 : Int) ≤ (n : Int) := by omega
      go_wp2_with fail
      go_loopg [10, 11] n (fun g ov iv wx => ∃ j : Nat, j + g = n ∧ iv = .int .i64 j ∧ Hid (wx.ownsRow w2.heap.size 9 1 ov j (((ws.drop (k + 1)).take j).map fun x => .string (mk x))) ∧ Hid (Below w2.heap.size w2 wx))
      case atStart => exact ⟨0, by omega, rfl, Lib.hid (by simp; exact World.ownsRow_nil _ _ _ _), Lib.hid (Below.refl _ _)⟩
      case round =>
        obtain ⟨j, hj, rfl, ho, hb⟩ := hrel
        cases gk with
        | zero =>
          obtain rfl : j = n := by omega
          have fl : wr.cell? ⟨S, 0, none⟩ = some (.string (mk l)) := by rw [hb.out.cell (p := ⟨S, 0, none⟩) (by have := HC2.out.2.2; show S < _; omega)]; exact HC2.out.1
          obtain ⟨A', c', rfl, hin⟩ := own_in (row := v.ownBlock) ho.out (fun g hg => by have := (HR.out.own g hg).2; have := HB2.out.size; omega)
          obtain ⟨xs, hxs⟩ : ∃ xs, (ws.drop (k + 1)).take j = xs := ⟨_, rfl⟩
          rw [hxs] at hin ⊢
          have HBW : Hid (Below W.heap.size W (wr.alloc (.cells #[.string (mk l), .slice A' xs.length c'] 105))) := Lib.hid (by
            have h1 := below_then HB2.out HB2.out.size hb.out
            exact h1.alloc h1.size _)
          have HIN : Hid (InAt (wr.alloc (.cells #[.string (mk l), .slice A' xs.length c'] 105)) base v.ownBlock A' xs) := Lib.hid ((hin.mono (Nat.le_trans hbase HB2.out.size)).below ((Below.refl _ _).alloc (Nat.le_refl _) _))
          have HZ : Hid ((wr.alloc (.cells #[.string (mk l), .slice A' xs.length c'] 105)).heap[S + 1]? = some (.cells #[.slice none 0 0, .int .i64 0] 134)) := Lib.hid (by
            rw [((Below.refl wr.heap.size wr).alloc (Nat.le_refl _) _).block _ (by have := HC2.out.2.2; have := hb.out.size; omega), hb.out.block _ HC2.out.2.2]
            exact HC2.out.2.1)
          have HXS := Lib.hid hxs
          clear hxs hin ho hroom HP HND
          go_wp2_with (at_builtin; refine wpList_put_item (W0 := W) (W := wr.alloc (.cells #[.string (mk l), .slice A' xs.length c'] 105)) rfl _ _ rfl base v items rfl HR.out HBW.out hbase (by omega) wr.heap.size rfl ⟨l, xs⟩ A' c' (0, 0) (heap_alloc_new _ _) HIN.out ?_; intro v1 w5 r1 b1 g1 e1; have HNE := Lib.hid (ne_own (fun g hg => by have := (HR.out.own _ hg).2; have := HS.out; omega) e1 (Array.getElem?_eq_some_iff.1 HZ.out).1 : v1.ownBlock ≠ some (S + 1)); obtain ⟨A1, d1, rfl, _⟩ := RowI.slice r1; have R1 := Lib.hid r1; have HZ5 := Lib.hid ((g1.block (S + 1) (Array.getElem?_eq_some_iff.1 HZ.out).1 (fun e => by have := (HR.out.own _ e.symm).2; have := HS.out; omega)).trans HZ.out); have B5 := Lib.hid (HBW.out.mono hbase |>.trans b1); clear r1 b1 g1 e1; have c0 := blk_cell HZ5.out 0; have c1 := blk_cell HZ5.out 1; have q0 := blk_frozen HZ5.out 0; have q1 := blk_frozen HZ5.out 1; simp only [List.getElem?_toArray, List.getElem?_cons_zero, List.getElem?_cons_succ] at c0 c1)
          refine bodyPost_ret (v := .agg #[.slice A1 (items ++ [ItemT.mk l xs]).length d1, .int .i64 ((j : Int) + 1)]) ?_ rfl ⟨⟨_, rfl, ?_⟩, ?_⟩
          · rw [results_cell1 rfl]
            go_simp
          · rw [HXS.out]
            exact R1.out.keep (((Keep.refl (S + 1) none w5).trans (Keep.setR _ _ _) (.inl rfl)).trans (Keep.setR _ _ _) (.inl rfl)) (got_nostr HZ5.out) HNE.out
          · have hB : base ≤ S + 1 := by have := HS.out; omega
            exact (B5.out.setCell (p := ⟨S + 1, 0, none⟩) hB _).setCell (p := ⟨S + 1, 1, none⟩) hB _
        | succ g =>
          have hjw : k + 1 + j < ws.length := by have := HM.out; omega
          obtain ⟨b, off, rfl, l1, e1⟩ := ((HW.out.below HB2.out).below hb.out).cells hjw
          have f1 := e1 (k + 1 + j) hjw
          have HT := Lib.hid (take_succ_get ws (k + 1) j hjw)
          obtain ⟨x, hx⟩ : ∃ x, ws[k + 1 + j] = x := ⟨_, rfl⟩
          rw [hx] at f1 HT
          have hj0 : (0 : Int) ≤ (j : Int) := by omega
          have hjn : (j : Int) < (n : Int) := by omega
          have hkj : (k : Int) + 1 + (j : Int) < (m : Int) := by have := HM.out; omega
          have hbs := hb.out.size
          have hbd : (j + 1) * 16 ≤ 140737488355328 := by omega
          clear hx e1 l1
          go_wp2_with (at_builtin; refine put_one (W := wr) w2.heap.size rfl _ _ 29 9 _ 1 16 rfl Try.underlying29 info9 rfl (by decide) (by decide) u10 j _ [.string (mk x)] rfl rfl rfl (by simp [Value.oneCell']) ho.out hb.out hbs hbd ?_; intro v1 w4 hown1 hb1 hg1; have HO1 := Lib.hid hown1; have HB1 := Lib.hid hb1; clear hown1 hb1 hg1)
          go_roundg g
          case measure => omega
          case rel => exact ⟨j + 1, by omega, by go_num, Lib.hid (by rw [HT.out, List.map_append]; exact HO1.out), HB1⟩
    · have hr : Hid (r = none) := Lib.hid (by rw [HP.out, if_neg hroom])
      obtain rfl := hr.out
      have hroomI : (m : Int) - (k : Int) - 1 < (n : Int) := by omega
      go_wp2_with fail
      refine bodyPost_ret (v := .agg #[.slice none 0 0, .int .i64 0]) ?_ rfl ⟨rfl, ?_⟩
      · rw [results_cell1 rfl]
        go_simp
      · exact ((Below.refl _ _).alloc hbase _).alloc (by simp; omega) _


theorem word_op {y : Tx} (h : y.length < 2 ∨ y.head? ≠ some 45) (ss : List SpecT) (rest : List Tx) : wordS ss y rest = some ([opdT y], 0) := by
  match y, h with
  | [], _ => rfl
  | [x], _ => 
    unfold wordS Lib.hasPrefix
    simp
  | x :: c :: t, h =>
    have hx : ¬ x = 45 := by
      rcases h with h | h
      · simp only [List.length_cons] at h; omega
      · simpa using h
    unfold wordS Lib.hasPrefix
    simp [hx, Ne.symm hx]
theorem word_long (t : Tx) (ss : List SpecT) (rest : List Tx) : wordS ss (45 :: 45 :: t) rest = longS ss t rest := by
  unfold wordS Lib.hasPrefix
  simp
theorem word_short (c : UInt8) (t : Tx) (hc : c ≠ 45) (ss : List SpecT) (rest : List Tx) : wordS ss (45 :: c :: t) rest = shortS ss (c :: t) rest := by
  unfold wordS Lib.hasPrefix
  simp [Ne.symm hc]
theorem head_at (y : Tx) (h : 0 < (mk y).size) (b : Int) (hb : (((mk y)[0]'h).toNat : Int) = b) : (y.head? = some 45) ↔ b = 45 := by
  cases y with
  | nil => simp [mk_size] at h
  | cons x t =>
    have hb2 : ((x.toNat : Nat) : Int) = b := hb
    rw [List.head?_cons, Option.some.injEq]
    constructor
    · rintro rfl; rw [← hb2]; rfl
    · intro e; rw [e] at hb2; exact UInt8.toNat_inj.1 (by simp; omega)

theorem one_item {W : World} {base : Nat} (it : ItemT) (A : Option Addr) (c : Nat) (hb : base ≤ W.heap.size) (hi : InAt W base none A it.vals) : RowI (W.alloc (.cells #[.string (mk it.long), .slice A it.vals.length c] 105)) base (.slice (some ⟨W.heap.size, 0, none⟩) 1 1) [it] := by
  refine RowI.one it A c ?_ (World.ownsRow_lit W #[.string (mk it.long), .slice A it.vals.length c] 1 hb (by decide) rfl)
  rcases hi with h | ⟨b, off, h1, h2, ⟨h0, _⟩, h5⟩
  · exact .inl h
  · exact .inr ⟨b, off, h1, by simp; omega, ⟨h0, fun e => by have := Option.some.inj e; omega⟩, fun j hj => by rw [World.cell?_alloc_lt _ _ _ h2]; exact h5 j hj⟩
theorem in_new (W : World) (x : Tx) : InAt (W.alloc (.cells #[.string (mk x)] 9)) W.heap.size none (some ⟨W.heap.size, 0, none⟩) [x] :=
  .inr ⟨W.heap.size, 0, rfl, by simp, ⟨Nat.le_refl _, by simp⟩, fun j hj => by
    obtain rfl : j = 0 := by simpa using hj
    rw [Nat.zero_add, cellA_new]; rfl⟩

set_option maxRecDepth 100000 in
set_option maxHeartbeats 2000000 in
theorem ref_One_op (sa : Option Addr) (sc : Nat) (ss : List SpecT) (wa : Option Addr) (wc : Nat) (ws : List Tx) (k : Nat) (W : World) (hw : StrsAt W wa ws) (hk : k < ws.length) (hop : ws[k].length < 2 ∨ ws[k].head? ≠ some 45) (hy : ws[k].length ≤ 100000000000) :
    Calls Try.prog 126 #[.slice sa ss.length sc, .slice wa ws.length wc, .int .i64 k] W (GotTo W.heap.size [] (wordS ss ws[k] (ws.drop (k + 1))) W) := by
  obtain ⟨b, off, rfl, l1, e1⟩ := hw.cells hk
  have f1 := e1 k hk
  rw [word_op hop]
  obtain ⟨y, hyy⟩ : ∃ y, ws[k] = y := ⟨_, rfl⟩
  rw [hyy] at hop hy f1 ⊢
  obtain ⟨n, hn⟩ : ∃ n, ws.length = n := ⟨_, rfl⟩
  rw [hn] at hk ⊢
  have hkI : (k : Int) < (n : Int) := by omega
  have hk0 : (0 : Int) ≤ (k : Int) := by omega
  obtain ⟨m, hm⟩ : ∃ m, y.length = m := ⟨_, rfl⟩
  have hs : (mk y).size = m := by rw [mk_size]; exact hm
  rw [hm] at hy
  have e0 : (⟨#[]⟩ : ByteArray) = mk [] := rfl
  have HE : Hid (RowI (((W.alloc (.cells #[.slice (some ⟨W.heap.size + 1 + 1, 0, none⟩) 1 1, .int .i64 1] 134)).alloc (.cells #[.string (mk y)] 9)).alloc (.cells #[.string (mk []), .slice (some ⟨W.heap.size + 1, 0, none⟩) 1 1] 105)) W.heap.size (.slice (some ⟨W.heap.size + 1 + 1, 0, none⟩) 1 1) [opdT y]) := Lib.hid (by
    have := one_item (W := (W.alloc (.cells #[.slice (some ⟨W.heap.size + 1 + 1, 0, none⟩) 1 1, .int .i64 1] 134)).alloc (.cells #[.string (mk y)] 9)) (base := W.heap.size) (opdT y) (some ⟨W.heap.size + 1, 0, none⟩) 1 (by simp; omega) (by have := in_new (W.alloc (.cells #[.slice (some ⟨W.heap.size + 1 + 1, 0, none⟩) 1 1, .int .i64 1] 134)) y; rw [World.size_alloc] at this; exact this.mono (by omega))
    rw [World.size_alloc, World.size_alloc] at this
    exact this)
  clear e1 hyy hn hw hm
  by_cases h2 : (m : Int) < 2
  · clear hop
    go_enter Try.func126, Try.ntmps126
    simp only [e0]
    clear e0
    go_wp2_with fail
    refine bodyPost_ret (v := .agg #[.slice (some ⟨W.heap.size + 1 + 1, 0, none⟩) 1 1, .int .i64 1]) ?_ rfl ⟨⟨_, rfl, ?_⟩, ?_⟩
    · rw [results_cell1 rfl]
      go_simp
    · exact HE.out
    · exact (((Below.refl _ _).alloc (Nat.le_refl _) _).alloc (by simp) _).alloc (by simp; omega) _
  · have hpos : 0 < (mk y).size := by rw [hs]; omega
    obtain ⟨b0, hb0⟩ : ∃ b0 : Int, (((mk y)[0]'hpos).toNat : Int) = b0 := ⟨_, rfl⟩
    have hb : (b0 == 45) = false := by
      have h3 := head_at y hpos b0 hb0
      have h4 : y.length = m := by rw [← hs, mk_size]
      have : ¬ b0 = 45 := fun e => by
        rcases hop with h | h
        · omega
        · exact h (h3.2 e)
      simpa using this
    have hb2 : (b0 != 45) = true := by rw [bne, hb]; rfl
    have hpos2 : 0 < m := by omega
    clear hop
    go_enter Try.func126, Try.ntmps126
    simp only [e0]
    clear e0
    go_wp2_with fail
    refine bodyPost_ret (v := .agg #[.slice (some ⟨W.heap.size + 1 + 1, 0, none⟩) 1 1, .int .i64 1]) ?_ rfl ⟨⟨_, rfl, ?_⟩, ?_⟩
    · rw [results_cell1 rfl]
      go_simp
    · exact HE.out
    · exact (((Below.refl _ _).alloc (Nat.le_refl _) _).alloc (by simp) _).alloc (by simp; omega) _
end Go.Proofs.Ytmjggjccmbiheaa
