/- RelTells, for inputs of bulk at most 1048576: the law's call answers true: the ways told and where they end are the reference's. -/
import Derived.Test.YtmjggjccmbiheaaRows
import Derived.Test.YtmjggjccmbiheaaBulk
import Derived.Test.YtmjggjccmbiheaaRelLaws
import Derived.WalkKit
import Derived.ProofKit
import Derived.OpenShut
import Derived.ShutString
import Derived.ChangeOld
import Derived.Below
import Derived.JoinedCond
namespace Go.Proofs.Ytmjggjccmbiheaa.relTells
open Go.ChangeShapes Go.WideShapes Go.ChangeAt Go.RowKit
open Go.ChangeMaps (open_string shut_string)
theorem own : ownKnob Try.prog.godebug = none := by kernel_rfl
set_option maxRecDepth 100000 in
theorem contract (H : Type) (enc : TypeId × Value → H) (W : World) (base : Nat) (args : Array Value) (ds gs : List (DataW H)) (before : List MemPlace)
    (hval : ∀ (j : Nat) t v, Try.f11.params[j]? = some t → args[j]? = some v → Value.okWide Try.prog W .any base t v)
    (hW : DataW.Whole enc Try.prog Try.f11.params.toList Rows.relTellsSpec.vars false W args.toList ds gs before) (hk : Rows.uptoSmall H (ds ++ gs) = true) :
    Calls Try.prog 11 args W fun e W' => ∃ v, e = .returned v ∧ Rows.relTellsSpec.post enc Try.prog Try.f11 false true false false W args v W' := by
  have hW' := hW
  obtain ⟨p, q, hA0, hV, rfl, hfz, hnd⟩ := hW
  have hA : DataW.TrodAll enc Try.prog W 0 (fun _ => true) true Try.f11.params.toList args.toList ds p := hA0
  rw [Try.params11] at hA hval
  obtain ⟨v0, vs0, d0, ds0, p0, q0, hargs, rfl, rfl, h0, r0⟩ := trodAll_cons hA
  obtain ⟨v1, vs1, d1, ds1, p1, q1, rfl, rfl, rfl, h1, r1⟩ := trodAll_cons r0
  obtain ⟨v2, vs2, d2, ds2, p2, q2, rfl, rfl, rfl, h2, r2⟩ := trodAll_cons r1
  obtain ⟨rfl, rfl, rfl⟩ := trodAll_nil r2
  obtain rfl : args = #[v0, v1, v2] := by cases args; simp_all
  obtain ⟨rfl, rfl⟩ := trodVars_none hV
  obtain ⟨a0, rfl, rfl, rfl, y0⟩ := open_string Try.underlying9 (hval 0 9 v0 rfl rfl) h0
  obtain ⟨a1, rfl, rfl, rfl, y1⟩ := open_string Try.underlying9 (hval 1 9 v1 rfl rfl) h1
  obtain ⟨a2, rfl, rfl, rfl, y2⟩ := open_string Try.underlying9 (hval 2 9 v2 rfl rfl) h2
  have hb := bulks.bound hk
  have hb0 := bulks.part_le (d := DataW.lit (.string a0.data.toList)) (l := [DataW.lit (.string a0.data.toList), DataW.lit (.string a1.data.toList), DataW.lit (.string a2.data.toList)] ++ []) (H := H) (by simp)
  rw [bulks.string_eq] at hb0
  have hb1 := bulks.part_le (d := DataW.lit (.string a1.data.toList)) (l := [DataW.lit (.string a0.data.toList), DataW.lit (.string a1.data.toList), DataW.lit (.string a2.data.toList)] ++ []) (H := H) (by simp)
  rw [bulks.string_eq] at hb1
  have hb2 := bulks.part_le (d := DataW.lit (.string a2.data.toList)) (l := [DataW.lit (.string a0.data.toList), DataW.lit (.string a1.data.toList), DataW.lit (.string a2.data.toList)] ++ []) (H := H) (by simp)
  rw [bulks.string_eq] at hb2
  clear hA0
  obtain ⟨l0, rfl⟩ := ex_mk a0
  have e0 : (mk l0).data.toList.length = l0.length := rfl
  obtain ⟨l1, rfl⟩ := ex_mk a1
  have e1 : (mk l1).data.toList.length = l1.length := rfl
  obtain ⟨l2, rfl⟩ := ex_mk a2
  have e2 : (mk l2).data.toList.length = l2.length := rfl
  refine (rel_tells l0 l1 l2 W (by omega) (by omega) (by omega)).mono fun e W' ⟨he, bel⟩ => ?_
  subst he
  exact ⟨_, rfl, _, _, _, [], _, [], hW', trodAll_mk1 (shut_bool Try.underlying4 _), (trodAll_cons_mk (shut_string Try.underlying9 y0) (trodAll_cons_mk (shut_string Try.underlying9 y1) (trodAll_cons_mk (shut_string Try.underlying9 y2) trodAll_mk0))), rfl, bel.frame _, fun h => by cases h⟩
set_option maxRecDepth 100000 in
theorem lifted (os : Os) (started : os.Started) (H : Type) (enc : TypeId × Value → H) (F : Stop.Interp) :
    ReturnsInHanded {} Try.checked os 11 .any ((Rows.OpenSpec.upto Rows.relTellsSpec).pre6 enc Try.prog Try.f11 Rows.relTellsUptoRow.domain false) (((Rows.OpenSpec.upto Rows.relTellsSpec).at F).post enc Try.prog Try.f11 false true false false) := by
  refine returnsInHanded_of_cond (C := Try.checked) (s := Rows.OpenSpec.upto Rows.relTellsSpec) (k := Rows.uptoSmall) rfl own started (by kernel_rfl) Try.func11
    (OpenSpec.witness (enc := enc) (C := Try.checked) (s := Rows.OpenSpec.upto Rows.relTellsSpec) (k := Rows.uptoSmall) rfl false ⟨#[], #[.string .empty, .string .empty, .string .empty], []⟩ 8 (by kernel_rfl) (by kernel_rfl) (by kernel_rfl)
      (x := ([.lit (.string []), .lit (.string []), .lit (.string [])], [], [])) (by kernel_rfl) rfl (by kernel_rfl)) ?_
  intro W base args ds gs before hval hW _ hk _
  exact contract H enc W base args ds gs before hval hW hk
theorem proved : Rows.RelTellsUptoSaid :=
  OpenClaim.holds_of_cond 11 Try.f11 rfl rfl rfl rfl rfl rfl rfl ⟨rfl, rfl, rfl, rfl, rfl⟩ rfl rfl rfl rfl rfl (by kernel_rfl) Try.func11 (by kernel_rfl)
    (of_decide_eq_true (by kernel_rfl)) (by unfold Func.isWrapper; first | (rw [if_pos (by decide +kernel)]; kernel_rfl) | (rw [if_neg (by decide +kernel)]; exact ⟨rfl, rfl⟩))
    (fun os started H enc _ F => lifted os started H enc F)
end Go.Proofs.Ytmjggjccmbiheaa.relTells
namespace Go.Proofs.Ytmjggjccmbiheaa
/-- The row, under a short name, for the claim. -/
theorem relTells_holds : Rows.RelTellsUptoSaid := relTells.proved
end Go.Proofs.Ytmjggjccmbiheaa
