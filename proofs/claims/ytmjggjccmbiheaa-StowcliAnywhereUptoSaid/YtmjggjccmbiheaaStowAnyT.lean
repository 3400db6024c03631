/- append of texts onto a row of the call's own, as one step of a region that draws; what lies beside. -/
import Derived.Test.YtmjggjccmbiheaaArgsRest
namespace Go.Proofs.Ytmjggjccmbiheaa
open Go Go.RowKit Go.Proofs Go.Sort

/-- Block b holds o, and v lies elsewhere. -/
def Safe (b : Nat) (o : Obj) (W : World) (v : Value) : Prop := W.heap[b]? = some o ∧ v.ownBlock ≠ some b
theorem heap_keep {W : World} {b : Nat} {o : Obj} (h : W.heap[b]? = some o) (o' : Obj) : (W.alloc o').heap[b]? = some o := by
  have hb : b < W.heap.size := (Array.getElem?_eq_some_iff.1 h).1
  rw [((Below.refl W.heap.size W).alloc (Nat.le_refl _) o').block b hb]; exact h
theorem Safe.alloc {b : Nat} {o : Obj} {W : World} {v : Value} (h : Safe b o W v) (o' : Obj) : Safe b o (W.alloc o') v := ⟨heap_keep h.1 o', h.2⟩
theorem Safe.new {base n : Nat} {xs : List Value} {W : World} {v : Value} (o : Obj) (h : W.ownsRow base 9 1 v n xs) : Safe W.heap.size o (W.alloc o) v :=
  ⟨heap_alloc_new W o, fun e => by have := (h.lt _ e).2; omega⟩
theorem Safe.pre {b g c : Nat} {o : Obj} {W : World} (h : W.heap[b]? = some o) (hg : b ≠ g) : Safe b o W (.slice (some ⟨g, 0, none⟩) 0 c) := ⟨h, fun e => by
  simp only [Value.ownBlock, Option.some.injEq] at e; exact hg e.symm⟩
theorem Safe.strs {b : Nat} {xs : List Tx} {t : TypeId} {W : World} {v : Value} (h : Safe b (.cells (xs.map fun x => Value.string (mk x)).toArray t) W v) : StrsAt W (some ⟨b, 0, none⟩) xs :=
  .inr ⟨b, 0, rfl, (Array.getElem?_eq_some_iff.1 h.1).1, fun j hj => by
    rw [Nat.zero_add]
    unfold World.cell?
    rw [h.1]
    simp [hj]⟩

theorem step_append_strs {ops : Array Oper} {o : Oper} {a : Act} {K : Act → World → Prop} {Q : Exit → Act → World → Prop} {E : Prop} {w0 W : World} (base : Nat) (hg : o.guard = none) (s x : Operand)
    (ho : o.op = .call { callee := .builtin .append, args := #[s, x], argTypes := #[29, 29] })
    (v : Value) (n m : Nat) (xs ys : List Tx) (hs : a.eval s = v) (A : Option Addr) (c : Nat) (hx : a.eval x = .slice A m c) (hm : ys.length = m) (HY : StrsAt W A ys)
    (HO : W.ownsRow base 9 1 v n (xs.map fun x => .string (mk x))) (HB : Below base w0 W) (hbase : base ≤ W.heap.size) (hl : (n + m) * 16 ≤ 140737488355328)
    (h : ∀ v1 w1, w1.ownsRow base 9 1 v1 (n + m) ((xs ++ ys).map fun x => .string (mk x)) → Below base w0 w1 → (∀ b o, Safe b o W v → Safe b o w1 v1) → K (a.put o.dst v1) w1) :
    if Region.wanted o (yielded ops a.tmps) = true then Oper.wp Try.prog o a W K Q else E := by
  have hwd : Region.wanted o (yielded ops a.tmps) = true := by simp [Region.wanted, hg]
  rw [if_pos hwd]
  subst hm
  obtain ⟨i0, hi, hzz⟩ := Option.map_eq_some_iff.1 info9
  simp only [Prod.mk.injEq] at hzz
  obtain ⟨hz0, hz1, hz2⟩ := hzz
  cases ys with
  | nil =>
    have hv : ∃ b cap, v = .slice b n cap ∧ n ≤ cap := by
      rcases HO.2 with ⟨rfl, h0⟩ | ⟨g, cap, cur, rfl, _, _, hn, _⟩
      · exact ⟨none, 0, by rw [h0], by omega⟩
      · exact ⟨_, cap, rfl, hn⟩
    obtain ⟨b, cap, rfl, hn⟩ := hv
    have hr := run_append_zero W 29 o.type 9 i0 Try.underlying29 hi b n cap hn A c
    unfold Oper.wp execOp
    simp only [List.length_nil] at hx
    simp only [ho, resolve, invoke, builtin, Sem.run_bind, Sem.run_pure, Result.andThen_ok, List.map_toArray, List.map_cons, List.map_nil, hs, hx, hr]
    exact h _ _ (by simpa using HO) HB (fun _ _ h => h)
  | cons y ys =>
    rcases HY with h0 | ⟨b, off, rfl, hlt, hc⟩
    · cases h0
    obtain ⟨v1, w1, hr, hown, hgr, _, hfr⟩ := run_append_own_at (w := W) base 29 o.type 9 i0 (.string ByteArray.empty) 1 16 Try.underlying29 hi hz0 hz1 hz2 rfl (by decide) v n _ HO ⟨b, off, none⟩ (y :: ys).length c ((y :: ys).map fun x => .string (mk x)) (by simp)
      (fun j u hj => by
        rw [List.getElem?_map] at hj
        obtain ⟨z, hz, rfl⟩ := Option.map_eq_some_iff.1 hj
        obtain ⟨hjl, rfl⟩ := List.getElem?_eq_some_iff.1 hz
        rw [show (⟨b, off, none⟩ : Addr).add j = ⟨b, off + j, none⟩ from by unfold Addr.add; split <;> simp_all]
        exact hc j hjl) (fun u hu => by obtain ⟨_, _, rfl⟩ := List.mem_map.1 hu; rfl) (by simp only [maxLen]; omega) hl hbase
    unfold Oper.wp execOp
    simp only [ho, resolve, invoke, builtin, Sem.run_bind, Sem.run_pure, Result.andThen_ok, List.map_toArray, List.map_cons, List.map_nil, hs, hx, hr]
    refine h v1 w1 (by rw [List.map_append]; exact hown) (HB.grown hgr hbase (fun k hk => own_base HO k hk.symm)) (fun b o hS => ?_)
    have hb : b < W.heap.size := (Array.getElem?_eq_some_iff.1 hS.1).1
    refine ⟨(hgr.block b hb (fun e => hS.2 e.symm)).trans hS.1, ?_⟩
    rcases hfr with e | e
    · rw [e]; exact hS.2
    · rw [e]; intro e2; have := Option.some.inj e2; omega
end Go.Proofs.Ytmjggjccmbiheaa
