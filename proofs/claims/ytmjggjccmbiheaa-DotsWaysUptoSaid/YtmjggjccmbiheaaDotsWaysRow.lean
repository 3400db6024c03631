/- DotsWays, for inputs of bulk at most 1048576: the law's call answers true: the program's Way and Any are the reference's. -/
import Derived.Test.YtmjggjccmbiheaaRows
import Derived.Test.YtmjggjccmbiheaaBulk
import Derived.Test.YtmjggjccmbiheaaDotsWays
import Derived.Test.YtmjggjccmbiheaaRowStrs
import Derived.WalkKit
import Derived.ProofKit
import Derived.OpenShut
import Derived.ShutString
import Derived.ChangeOld
import Derived.Below
import Derived.JoinedCond
namespace Go.Proofs.Ytmjggjccmbiheaa
open Go.RowKit Go.Proofs Go.ChangeShapes Go.WideShapes
theorem open_strs_up {H : Type} {enc : TypeId × Value → H} {W : World} {a : Option Addr} {len cap : Nat} {d : DataW H} {ps : List MemPlace}
    (h : DataW.Trod enc Try.prog W 0 (fun _ => true) true 29 (.slice a len cap) d ps) :
    ∃ l : List (List UInt8), l.length = len ∧ StrsAt W a l ∧ len ≤ Rows.uptoBulk d ∧ (∀ x ∈ l, x.length ≤ Rows.uptoBulk d) := by
  obtain ⟨fuel, hf⟩ := h
  rcases open_strings Try.underlying29 Try.underlying9 (by kernel_rfl) hf with ⟨hcs, _⟩ | ⟨x, n, c, ss, hcs, _, hl, hm, hlen, hx, hcell, _⟩
  · simp [Value.cells] at hcs
    obtain ⟨rfl, rfl, rfl⟩ := hcs
    exact ⟨[], rfl, .inl rfl, Nat.zero_le _, by simp⟩
  · simp [Value.cells] at hcs
    obtain ⟨rfl, rfl, rfl⟩ := hcs
    simp only [if_true] at hlen
    simp only [Prod.mk.injEq] at hx
    obtain ⟨rfl, _⟩ := hx
    have hb1 := bulks.slice_elems (H := H) (strs (ss.take len)) (strs (ss.drop len))
    have hb2 := bulks.length_le (H := H) (strs (ss.take len))
    refine ⟨(ss.take len).map (·.data.toList), by simp; omega, ?_, ?_, ?_⟩
    · by_cases h0 : len = 0
      · subst h0; exact .inl (by simp)
      · obtain ⟨b, off, spot⟩ := x
        have hspot : spot = none := by simpa [Addr.add] using World.cell?_spot (hcell 0 (by omega))
        subst hspot
        refine .inr ⟨b, off, rfl, ?_, fun j hj => ?_⟩
        · exact World.block_lt_of_cell? _ _ (hcell 0 (by omega))
        · have hj' : j < len := by simp at hj; omega
          have := hcell j (by omega)
          rw [← Go.WideShapes.add_plain, this]
          simp [List.getD_eq_getElem?_getD, List.getElem?_eq_getElem (show j < ss.length by omega), mk_of]
    · have hb3 : (strs (H := H) (ss.take len)).length = len := by simp [strs]; omega
      omega
    · intro y hy
      obtain ⟨z, hz, rfl⟩ := List.mem_map.1 hy
      have hm2 : (DataW.lit (.string z.data.toList) : DataW H) ∈ strs (ss.take len) := List.mem_map.2 ⟨z, hz, rfl⟩
      have h3 := bulks.part_le hm2
      rw [bulks.string_eq] at h3
      omega
end Go.Proofs.Ytmjggjccmbiheaa
namespace Go.Proofs.Ytmjggjccmbiheaa.dotsWays
open Go.ChangeShapes Go.WideShapes Go.ChangeAt Go.RowKit
open Go.ChangeMaps (open_string shut_string)
theorem own : ownKnob Try.prog.godebug = none := by kernel_rfl
theorem laidOut : laidOutB Try.prog = true := by kernel_rfl
set_option maxRecDepth 100000 in
theorem contract (H : Type) (enc : TypeId × Value → H) (W : World) (base : Nat) (args : Array Value) (ds gs : List (DataW H)) (before : List MemPlace)
    (hval : ∀ (j : Nat) t v, Try.f9.params[j]? = some t → args[j]? = some v → Value.okWide Try.prog W .any base t v)
    (hW : DataW.Whole enc Try.prog Try.f9.params.toList Rows.dotsWaysSpec.vars false W args.toList ds gs before) (hk : Rows.uptoSmall H (ds ++ gs) = true) :
    Calls Try.prog 9 args W fun e W' => ∃ v, e = .returned v ∧ Rows.dotsWaysSpec.post enc Try.prog Try.f9 false true false false W args v W' := by
  have hW' := hW
  obtain ⟨p, q, hA0, hV, rfl, hfz, hnd⟩ := hW
  have hA : DataW.TrodAll enc Try.prog W 0 (fun _ => true) true Try.f9.params.toList args.toList ds p := hA0
  rw [Try.params9] at hA hval
  obtain ⟨v0, vs0, d0, ds0, p0, q0, hargs, rfl, rfl, h0, r0⟩ := trodAll_cons hA
  obtain ⟨v1, vs1, d1, ds1, p1, q1, rfl, rfl, rfl, h1, r1⟩ := trodAll_cons r0
  obtain ⟨v2, vs2, d2, ds2, p2, q2, rfl, rfl, rfl, h2, r2⟩ := trodAll_cons r1
  obtain ⟨rfl, rfl, rfl⟩ := trodAll_nil r2
  obtain rfl : args = #[v0, v1, v2] := by cases args; simp_all
  obtain ⟨rfl, rfl⟩ := trodVars_none hV
  obtain ⟨a0, rfl, rfl, rfl, y0⟩ := open_string Try.underlying9 (hval 0 9 v0 rfl rfl) h0
  obtain ⟨a1, rfl, rfl, rfl⟩ := open_bool Try.underlying4 (hval 1 4 v1 rfl rfl) h1
  obtain ⟨a2, len2, cap2, rfl⟩ := okWide_slice Try.underlying29 (hval 2 29 v2 rfl rfl)
  have lt2 : ∀ x ∈ p2, x.block < W.heap.size := by obtain ⟨m, hm⟩ := h2; exact DataW.trod_lt m _ _ _ hm
  obtain ⟨l2, rfl, y2, w2, u2⟩ := open_strs_up h2
  have hb := bulks.bound hk
  have hb0 := bulks.part_le (d := DataW.lit (.string a0.data.toList)) (l := [DataW.lit (.string a0.data.toList), DataW.lit (.bool a1), d2] ++ []) (H := H) (by simp)
  have hb2 := bulks.part_le (d := d2) (l := [DataW.lit (.string a0.data.toList), DataW.lit (.bool a1), d2] ++ []) (H := H) (by simp)
  rw [bulks.string_eq] at hb0
  clear hA0
  obtain ⟨l0, rfl⟩ := ex_mk a0
  have e0 : (mk l0).data.toList.length = l0.length := rfl
  refine (ways l0 a1 a2 cap2 l2 W (by omega) y2 (by omega) (fun x hx => by have := u2 x hx; omega)).mono fun e W' ⟨he, bel⟩ => ?_
  subst he
  exact ⟨_, rfl, _, _, _, [], _, [], hW', trodAll_mk1 (shut_bool Try.underlying4 _), (trodAll_cons_mk (shut_string Try.underlying9 y0) (trodAll_cons_mk (shut_bool Try.underlying4 _) (trodAll_cons_mk (Below.trod laidOut (by kernel_rfl) (of_decide_eq_true (by kernel_rfl)) h2 bel lt2) trodAll_mk0))), rfl, bel.frame _, fun h => by cases h⟩
set_option maxRecDepth 100000 in
theorem lifted (os : Os) (started : os.Started) (H : Type) (enc : TypeId × Value → H) (F : Stop.Interp) :
    ReturnsInHanded {} Try.checked os 9 .any ((Rows.OpenSpec.upto Rows.dotsWaysSpec).pre6 enc Try.prog Try.f9 Rows.dotsWaysUptoRow.domain false) (((Rows.OpenSpec.upto Rows.dotsWaysSpec).at F).post enc Try.prog Try.f9 false true false false) := by
  refine returnsInHanded_of_cond (C := Try.checked) (s := Rows.OpenSpec.upto Rows.dotsWaysSpec) (k := Rows.uptoSmall) rfl own started (by kernel_rfl) Try.func9
    (OpenSpec.witness (enc := enc) (C := Try.checked) (s := Rows.OpenSpec.upto Rows.dotsWaysSpec) (k := Rows.uptoSmall) rfl false ⟨#[], #[.string .empty, .bool false, .slice none 0 0], []⟩ 8 (by kernel_rfl) (by kernel_rfl) (by kernel_rfl)
      (x := ([.lit (.string []), .lit (.bool false), .nil], [], [])) (by kernel_rfl) rfl (by kernel_rfl)) ?_
  intro W base args ds gs before hval hW _ hk _
  exact contract H enc W base args ds gs before hval hW hk
theorem proved : Rows.DotsWaysUptoSaid :=
  OpenClaim.holds_of_cond 9 Try.f9 rfl rfl rfl rfl rfl rfl rfl ⟨rfl, rfl, rfl, rfl, rfl⟩ rfl rfl rfl rfl rfl (by kernel_rfl) Try.func9 (by kernel_rfl)
    (of_decide_eq_true (by kernel_rfl)) (by unfold Func.isWrapper; first | (rw [if_pos (by decide +kernel)]; kernel_rfl) | (rw [if_neg (by decide +kernel)]; exact ⟨rfl, rfl⟩))
    (fun os started H enc _ F => lifted os started H enc F)
end Go.Proofs.Ytmjggjccmbiheaa.dotsWays
namespace Go.Proofs.Ytmjggjccmbiheaa
/-- The row, under a short name, for the claim. -/
theorem dotsWays_holds : Rows.DotsWaysUptoSaid := dotsWays.proved
end Go.Proofs.Ytmjggjccmbiheaa
