/- path.Join, rel.End and the reference's, step by step: where a text leads from a directory. -/
import Derived.Test.YtmjggjccmbiheaaRefPath
namespace Go.Proofs.Ytmjggjccmbiheaa
open Go.RowKit Go.Proofs Go.Sort
attribute [local go_sem] mk_list mk_size mk_data

def cleanS (l : Tx) : Tx := 47 :: joinS (cleanP (partsL l))
def slashB (l : Tx) : Bool := Lib.hasPrefix l [47]
def joinD (dir s : Tx) : Tx := if slashB s then cleanS s else cleanS (dir ++ 47 :: s)

set_option maxHeartbeats 1000000 in
theorem path_Join (dir s : Tx) (w : World) (h1 : dir.length ≤ 1000000000) (h2 : s.length ≤ 1000000000) :
    Calls Try.prog 92 #[.string (mk dir), .string (mk s)] w fun e w' => e = .returned (.string (mk (joinD dir s))) ∧ Below w.heap.size w w' := by
  have hp := Try.strings_HasPrefix (mk s) (mk [47]) w
  rw [mk_data, mk_data] at hp
  have hk : (⟨#[47]⟩ : ByteArray) = mk [47] := rfl
  have hj : joinD dir s = if slashB s then cleanS s else cleanS (dir ++ 47 :: s) := rfl
  have HC1 := Lib.hid (fun W => path_Clean s W (by omega))
  have HC2 := Lib.hid (fun W => path_Clean (dir ++ 47 :: s) W (by simp; omega))
  have e1 : (47 : UInt8) :: joinS (cleanP (partsL s)) = cleanS s := rfl
  have e2 : (47 : UInt8) :: joinS (cleanP (partsL (dir ++ 47 :: s))) = cleanS (dir ++ 47 :: s) := rfl
  rw [e1] at HC1
  rw [e2] at HC2
  change Calls Try.prog 93 _ w fun e w' => e = .returned (.bool (slashB s)) ∧ w' = w at hp
  have HJ := Lib.hid hj
  clear hj e1 e2
  have a1 := mk_append dir [47]
  have a2 := mk_append (dir ++ [47]) s
  rw [List.append_assoc] at a2
  have s1 : ¬ (9223372036854775807 < dir.length + 1) := by omega
  have s2 : ¬ (9223372036854775807 < dir.length + 1 + s.length) := by omega
  cases hb : slashB s
  · rw [hb] at hp HJ
    go_enter Try.func92, Try.ntmps92
    simp only [hk]
    go_wp2_with (first | (go_at_call 93; refine hp.mono ?_; rintro e w' ⟨rfl, rfl⟩) | (go_at_call 121; refine (HC2.out _).mono ?_; rintro e w' ⟨rfl, hb⟩))
    go_ret
    exact ⟨ret_str (by rw [HJ.out]; rfl), hb⟩
  · rw [hb] at hp HJ
    go_enter Try.func92, Try.ntmps92
    simp only [hk]
    go_wp2_with (first | (go_at_call 93; refine hp.mono ?_; rintro e w' ⟨rfl, rfl⟩) | (go_at_call 121; refine (HC1.out _).mono ?_; rintro e w' ⟨rfl, hb⟩))
    go_ret
    exact ⟨ret_str (by rw [HJ.out]; rfl), hb⟩
end Go.Proofs.Ytmjggjccmbiheaa
