/- The law's short, step by step; what an act leaves. -/
import Derived.Test.YtmjggjccmbiheabTreeLawE
import Derived.Test.YtmjggjccmbiheabRowActs2
namespace Go.Proofs.Ytmjggjccmbiheab
open Go Go.RowKit Go.Proofs Go.Sort
attribute [local go_sem] mk_list mk_size mk_data

theorem ActsAt.below {W W' : World} {A : Option Addr} {L : List ActT} (h : ActsAt W A L) (hb : Below W.heap.size W W') : ActsAt W' A L := by
  rcases h with h | ⟨b, off, e, hlt, hc⟩
  · exact .inl h
  · exact .inr ⟨b, off, e, Nat.lt_of_lt_of_le hlt hb.size, fun j hj i v hv => (hb.cell (p := ⟨b, off + j * 7 + i, none⟩) hlt).trans (hc j hj i v hv)⟩
theorem ActsAt.cells {W : World} {A : Option Addr} {L : List ActT} (h : ActsAt W A L) {k : Nat} (hk : k < L.length) : ∃ b off, A = some ⟨b, off, none⟩ ∧ b < W.heap.size ∧ W.cell? ⟨b, off + k * 7, none⟩ = some (.int .i64 L[k].dO) ∧ W.cell? ⟨b, off + k * 7 + 1, none⟩ = some (.int .i64 L[k].dir) ∧ W.cell? ⟨b, off + k * 7 + 2, none⟩ = some (.int .i64 L[k].to_) ∧ W.cell? ⟨b, off + k * 7 + 3, none⟩ = some (.string (mk L[k].name)) ∧ W.cell? ⟨b, off + k * 7 + 4, none⟩ = some (.string (mk L[k].as_)) ∧ W.cell? ⟨b, off + k * 7 + 5, none⟩ = some (.int .i64 L[k].kind) ∧ W.cell? ⟨b, off + k * 7 + 6, none⟩ = some (.string (mk L[k].data)) := by
  rcases h with rfl | ⟨b, off, h1, h2, h3⟩
  · simp at hk
  · exact ⟨b, off, h1, h2, h3 k hk 0 _ rfl, h3 k hk 1 _ rfl, h3 k hk 2 _ rfl, h3 k hk 3 _ rfl, h3 k hk 4 _ rfl, h3 k hk 5 _ rfl, h3 k hk 6 _ rfl⟩
/-- Few acts, few bytes. -/
def ShortT (L : List ActT) : Prop := (∀ x ∈ L, x.data.length ≤ 70000) ∧ L.length ≤ 60
set_option maxRecDepth 100000 in
set_option maxHeartbeats 2000000 in
theorem law_short (A : Option Addr) (c : Nat) (L : List ActT) (W : World) (h : ActsAt W A L) (hl : L.length ≤ 9223372036854775807) (ho : ∀ x ∈ L, ActOk x) :
    Calls Try.prog 6 #[.slice A L.length c] W fun e w' => (e = .returned (.bool false) ∨ (e = .returned (.bool true) ∧ ShortT L)) ∧ W = w' := by
  obtain ⟨m, hm⟩ : ∃ m, L.length = m := ⟨_, rfl⟩
  have HM := Lib.hid hm
  have HN := Lib.hid h
  have HO := Lib.hid ho
  rw [hm] at hl ⊢
  clear hm h ho
  go_enter Try.func6, Try.ntmps6
  go_wp2_with fail
  go_loopg [3] m (fun g iv wx => ∃ k : Nat, k + g = m ∧ iv = .int .i64 k ∧ Hid (∀ x ∈ L.take k, x.data.length ≤ 70000) ∧ wx = W)
  case atStart => exact ⟨0, by omega, rfl, Lib.hid (by simp), rfl⟩
  case round =>
    obtain ⟨k, hk, rfl, hp, rfl⟩ := hrel
    cases gk with
    | zero =>
      obtain rfl : k = m := by omega
      have HP : Hid (∀ x ∈ L, x.data.length ≤ 70000) := Lib.hid (by
        have := hp.out
        rwa [List.take_of_length_le (by have := HM.out; omega)] at this)
      by_cases h60 : (k : Int) ≤ 60
      · go_wp2_with fail
        go_ret
        exact ⟨.inr ⟨by first | rfl | simp [h60], HP.out, by have := HM.out; omega⟩, rfl⟩
      · go_wp2_with fail
        go_ret
        exact ⟨.inl (by first | rfl | simp [h60]), rfl⟩
    | succ g =>
      have hkl : k < L.length := by have := HM.out; omega
      obtain ⟨b, off, rfl, hb, _, _, _, _, _, _, f6⟩ := HN.out.cells hkl
      have HX : Hid (L[k].data.length ≤ 70000 → ∀ x ∈ L.take (k + 1), x.data.length ≤ 70000) := Lib.hid (by
        intro hx x hm
        rw [List.take_succ_eq_append_getElem hkl] at hm
        rcases List.mem_append.1 hm with hm | hm
        · exact hp.out x hm
        · rw [List.mem_singleton] at hm; subst hm; exact hx)
      have hdl : L[k].data.length ≤ 140737488351300 := (HO.out _ (List.getElem_mem hkl)).data
      obtain ⟨x, hx⟩ : ∃ x, L[k].data = x := ⟨_, rfl⟩
      rw [hx] at f6 hdl
      rw [hx] at HX
      have hkI : (k : Int) < (m : Int) := by omega
      have hk0 : (0 : Int) ≤ (k : Int) := by omega
      clear hx
      by_cases hd : x.length ≤ 70000
      · have hd1 : ¬ (x.length : Int) > 70000 := by omega
        have HY := Lib.hid (HX.out hd)
        clear HX hd
        go_wp2_with fail
        go_roundg g
        case measure => omega
        case rel => exact ⟨k + 1, by omega, by go_num, HY, rfl⟩
      · have hd1 : (x.length : Int) > 70000 := by omega
        clear HX hd
        go_wp2_with fail
        go_ret
        exact ⟨.inl rfl, rfl⟩

theorem NodesAt.turn {W W' : World} {t b : Nat} {S : TreeSt} {A : Option Addr} {L : List NodeT} (h : NodesAt W A L) (ht : TreeAt W t b S) (k : Keep t b W W') : NodesAt W' A L := by
  rcases h with h | ⟨g, off, e, hlt, hc⟩
  · exact .inl h
  · cases L with
    | nil => exact .inl rfl
    | cons x xs =>
      obtain ⟨f, h1, h2, _⟩ := ht
      have c0 := hc 0 (by simp) 2 (.string (mk x.name)) rfl
      have hb : g ≠ b := by rintro rfl; exact h2.noCell _ _ c0
      have htn : g ≠ t := by
        rintro rfl
        rw [blk_cell h1] at c0
        simp at c0
      exact .inr ⟨g, off, e, Nat.lt_of_lt_of_le hlt k.size, fun j hj i v hv => (k.cell hlt htn hb).trans (hc j hj i v hv)⟩
/-- A tree stays when another one turns. -/
theorem TreeAt.other {W W' : World} {t b t' b' : Nat} {S S' : TreeSt} (h : TreeAt W t' b' S') (ht : TreeAt W t b S) (hne : t' ≠ t ∧ t' ≠ b ∧ b' ≠ t ∧ b' ≠ b) (k : Keep t b W W') : TreeAt W' t' b' S' := by
  obtain ⟨f, h1, h2, h3, h4⟩ := h
  exact ⟨f, (k.block _ (blk_lt h1) hne.1 hne.2.1).trans h1, h2.of_block (k.block _ h2.lt hne.2.2.1 hne.2.2.2), h3, fun n r hr => (h4 n r hr).turn ht k⟩
theorem three_new (W : World) (a b c : Obj) : Below W.heap.size W (((W.alloc a).alloc b).alloc c) ∧ (((W.alloc a).alloc b).alloc c).heap[W.heap.size]? = some a ∧ (((W.alloc a).alloc b).alloc c).heap[W.heap.size + 1]? = some b ∧ (((W.alloc a).alloc b).alloc c).heap[W.heap.size + 1 + 1]? = some c := by
  have h := two_new W a b
  have h2 := heap_alloc_new ((W.alloc a).alloc b) c
  rw [World.size_alloc, World.size_alloc] at h2
  exact ⟨h.1.alloc h.1.size _, heap_stay h.2.1 _, heap_stay h.2.2 _, h2⟩
theorem EntsAt.far {W W' : World} {A : Option Addr} {xs : List En} {R : Nat} {s : Option Addr} {n c : Nat} {ik : IntKind} {i : Int} {ty : TypeId} {fr : Nat × Nat} (h : EntsAt W A xs) (hR : W.heap[R]? = some (.cells #[.slice s n c, .int ik i] ty fr)) (k : Keep R R W W') : EntsAt W' A xs := by
  rcases h with h | ⟨g, off, e, hlt, hc⟩
  · exact .inl h
  · cases xs with
    | nil => exact .inl rfl
    | cons x xs =>
      have c0 := (hc 0 (by simp)).1
      have hb : g ≠ R := by
        rintro rfl
        rw [blk_cell hR] at c0
        match off, c0 with
        | 0, c0 => simp at c0
        | 1, c0 => simp at c0
        | off + 2, c0 => simp at c0
      exact .inr ⟨g, off, e, Nat.lt_of_lt_of_le hlt k.size, fun j hj => ⟨(k.cell hlt hb hb).trans (hc j hj).1, (k.cell hlt hb hb).trans (hc j hj).2⟩⟩
theorem TreeAt.far {W W' : World} {t b : Nat} {S : TreeSt} {R : Nat} {s : Option Addr} {n c : Nat} {ik : IntKind} {i : Int} {ty : TypeId} {fr : Nat × Nat} (h : TreeAt W t b S) (hR : W.heap[R]? = some (.cells #[.slice s n c, .int ik i] ty fr)) (hne : t ≠ R ∧ b ≠ R) (k : Keep R R W W') : TreeAt W' t b S := by
  obtain ⟨f, h1, h2, h3, h4⟩ := h
  exact ⟨f, (k.block _ (blk_lt h1) hne.1 hne.1).trans h1, h2.of_block (k.block _ h2.lt hne.2 hne.2), h3, fun n r hr => (h4 n r hr).far hR k⟩
theorem Keep.own {R B C : Nat} {W w w' : World} (h : Keep R B W w) (hC : W.heap.size ≤ C) (k : Keep C C w w') : Keep R B W w' :=
  ⟨k.os.trans h.os, k.tape.trans h.tape, k.output.trans h.output, Nat.le_trans h.size k.size, fun j hj h1 h2 => (k.block j (Nat.lt_of_lt_of_le hj h.size) (by omega) (by omega)).trans (h.block j hj h1 h2)⟩
/-- What an act leaves, of the program's tree and of the document's. -/
def DoTo (t b : Nat) (L : List NodeT) (last : Int) (W : World) (e : Ending) (W' : World) : Prop :=
  (∃ L' last' A' c', e = .returned (.tuple #[.agg #[.slice A' L'.length c', .int .i64 last'], .bool true]) ∧ NodesAt W' A' L' ∧ TreeAt W' t b (relS L' last') ∧ WF L' last' ∧ L'.length ≤ L.length + 1 ∧ last' ≤ last + 1) ∧ Keep t b W W'
end Go.Proofs.Ytmjggjccmbiheab
