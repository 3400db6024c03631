/-
  No cell of these rows narrows 'for every input' (looked for: loops, veiled, ifaces, maps, wideKeys, modest, calm, conditions, laid).
  DERIVED. THE GIVEN ROWS OF THIS SEAT. 11 by the template 'for every input the law returns true; each argument reads behind the call as it read before'; 0 by the template 'total and deterministic' (their statements: YtmjggjccmbiheaaTotals.lean).
  GIVEN WITH THE SEED: the statements are not yours to turn. If you find one false, say at which input.
  Laid BY PROGRAM, IN A SANDBOX (cutbox-rows.mjs): the forced cells as the released guide's own fill.sh prints them over the translation a94edeffc9a67ee2… (all of the seat's roots in one cut). By AI agents, Wed Nov 11 2026. No macro, syntax, notation, axiom, sorry.
-/
import Derived.Test.YtmjggjccmbiheaaChecked
import GoSem.Claim
import GoSem.ClaimJoined
import GoSem.ClaimMapViews
import Derived.JoinedTies
import Derived.KernelRfl
namespace Go.Proofs.Ytmjggjccmbiheaa
/- THE CELL 'sum', in the pinned program and in every row, IS THE sha256 OF THE DUMP (.gsa) THAT YtmjggjccmbiheaaProg.lean LOADS. Nothing in Lean hashes anything: it is a label: what it is worth is what the hold of that sum in a sandbox is worth. -/
noncomputable def Try.pinned : Pinned := { name := "ytmjggjccmbiheaa", sum := "a94edeffc9a67ee2170bd0c0072bcae8a317cbe70f6be0a1137dc77172ddd440", checked := Try.checked }
namespace Rows
def none {H : Type} : Left H := { results := [], args := [] }

/-- 'linhaylaw18.DotsTell': WHATEVER THE INPUT: true; the input reads as it did. -/
def dotsTellSpec : ChangeSpec := { name := "dotsTell", fn := fun _ => fun
  | [d] => { results := [.lit (.bool true)], args := [d] }
  | _ => none }
def dotsTellRow : OpenClaim := { program := "ytmjggjccmbiheaa", sum := "a94edeffc9a67ee2170bd0c0072bcae8a317cbe70f6be0a1137dc77172ddd440", func := "linhay/linhaylaw18.DotsTell", spec := "dotsTell", apart := false }
def DotsTellSaid : Prop := dotsTellRow.holds Try.pinned (OpenSpec.ofChange dotsTellSpec)

/-- ITS FALSE NEIGHBOUR: 'it returns false'. Refute it at one input. -/
def dotsTellWrong : ChangeSpec := { name := "dotsTell", fn := fun _ => fun
  | [d] => { results := [.lit (.bool false)], args := [d] }
  | _ => none }
def DotsTellWrongFalsely : Prop := dotsTellRow.holds Try.pinned (OpenSpec.ofChange dotsTellWrong)

/-- 'linhaylaw03.NameChecks': WHATEVER THE INPUT: true; the input reads as it did. -/
def nameChecksSpec : ChangeSpec := { name := "nameChecks", fn := fun _ => fun
  | [d] => { results := [.lit (.bool true)], args := [d] }
  | _ => none }
def nameChecksRow : OpenClaim := { program := "ytmjggjccmbiheaa", sum := "a94edeffc9a67ee2170bd0c0072bcae8a317cbe70f6be0a1137dc77172ddd440", func := "linhay/linhaylaw03.NameChecks", spec := "nameChecks", inPlace := ["internal/bytealg.IndexByteString", "internal/bytealg.IndexString"], named := ["internal/bytealg.MaxLen"], apart := false }
def NameChecksSaid : Prop := nameChecksRow.holds Try.pinned (OpenSpec.ofChange nameChecksSpec)

/-- ITS FALSE NEIGHBOUR: 'it returns false'. Refute it at one input. -/
def nameChecksWrong : ChangeSpec := { name := "nameChecks", fn := fun _ => fun
  | [d] => { results := [.lit (.bool false)], args := [d] }
  | _ => none }
def NameChecksWrongFalsely : Prop := nameChecksRow.holds Try.pinned (OpenSpec.ofChange nameChecksWrong)

/-- 'linhaylaw37.ArgsRest': WHATEVER THE INPUT: true; the input reads as it did. -/
def argsRestSpec : ChangeSpec := { name := "argsRest", fn := fun _ => fun
  | [d1, d2, d3] => { results := [.lit (.bool true)], args := [d1, d2, d3] }
  | _ => none }
def argsRestRow : OpenClaim := { program := "ytmjggjccmbiheaa", sum := "a94edeffc9a67ee2170bd0c0072bcae8a317cbe70f6be0a1137dc77172ddd440", func := "linhay/linhaylaw37.ArgsRest", spec := "argsRest", inPlace := ["internal/bytealg.IndexByteString", "internal/bytealg.IndexString"], unfollowed := true, recurses := true, named := ["internal/bytealg.MaxLen"], apart := false }
def ArgsRestSaid : Prop := argsRestRow.holds Try.pinned (OpenSpec.ofChange argsRestSpec)

/-- ITS FALSE NEIGHBOUR: 'it returns false'. Refute it at one input. -/
def argsRestWrong : ChangeSpec := { name := "argsRest", fn := fun _ => fun
  | [d1, d2, d3] => { results := [.lit (.bool false)], args := [d1, d2, d3] }
  | _ => none }
def ArgsRestWrongFalsely : Prop := argsRestRow.holds Try.pinned (OpenSpec.ofChange argsRestWrong)

/-- 'linhaylaw06.EntsKeep': WHATEVER THE INPUT: true; the input reads as it did. -/
def entsKeepSpec : ChangeSpec := { name := "entsKeep", fn := fun _ => fun
  | [d1, d2, d3] => { results := [.lit (.bool true)], args := [d1, d2, d3] }
  | _ => none }
def entsKeepRow : OpenClaim := { program := "ytmjggjccmbiheaa", sum := "a94edeffc9a67ee2170bd0c0072bcae8a317cbe70f6be0a1137dc77172ddd440", func := "linhay/linhaylaw06.EntsKeep", spec := "entsKeep", inPlace := ["slices.overlaps[linhay/api.Ent]"], unfollowed := true, recurses := true, apart := false }
def EntsKeepSaid : Prop := entsKeepRow.holds Try.pinned (OpenSpec.ofChange entsKeepSpec)

/-- ITS FALSE NEIGHBOUR: 'it returns false'. Refute it at one input. -/
def entsKeepWrong : ChangeSpec := { name := "entsKeep", fn := fun _ => fun
  | [d1, d2, d3] => { results := [.lit (.bool false)], args := [d1, d2, d3] }
  | _ => none }
def EntsKeepWrongFalsely : Prop := entsKeepRow.holds Try.pinned (OpenSpec.ofChange entsKeepWrong)

/-- 'linhaylaw03.NameSorts': WHATEVER THE INPUT: true; the input reads as it did. -/
def nameSortsSpec : ChangeSpec := { name := "nameSorts", fn := fun _ => fun
  | [d1, d2] => { results := [.lit (.bool true)], args := [d1, d2] }
  | _ => none }
def nameSortsRow : OpenClaim := { program := "ytmjggjccmbiheaa", sum := "a94edeffc9a67ee2170bd0c0072bcae8a317cbe70f6be0a1137dc77172ddd440", func := "linhay/linhaylaw03.NameSorts", spec := "nameSorts", inPlace := ["internal/bytealg.IndexByteString", "internal/bytealg.IndexString"], recurses := true, named := ["internal/bytealg.MaxLen"], apart := false }
def NameSortsSaid : Prop := nameSortsRow.holds Try.pinned (OpenSpec.ofChange nameSortsSpec)

/-- ITS FALSE NEIGHBOUR: 'it returns false'. Refute it at one input. -/
def nameSortsWrong : ChangeSpec := { name := "nameSorts", fn := fun _ => fun
  | [d1, d2] => { results := [.lit (.bool false)], args := [d1, d2] }
  | _ => none }
def NameSortsWrongFalsely : Prop := nameSortsRow.holds Try.pinned (OpenSpec.ofChange nameSortsWrong)

/-- 'linhaylaw06.EntsTell': WHATEVER THE INPUT: true; the input reads as it did. -/
def entsTellSpec : ChangeSpec := { name := "entsTell", fn := fun _ => fun
  | [d1, d2, d3] => { results := [.lit (.bool true)], args := [d1, d2, d3] }
  | _ => none }
def entsTellRow : OpenClaim := { program := "ytmjggjccmbiheaa", sum := "a94edeffc9a67ee2170bd0c0072bcae8a317cbe70f6be0a1137dc77172ddd440", func := "linhay/linhaylaw06.EntsTell", spec := "entsTell", inPlace := ["slices.overlaps[linhay/api.Ent]"], unfollowed := true, recurses := true, apart := false }
def EntsTellSaid : Prop := entsTellRow.holds Try.pinned (OpenSpec.ofChange entsTellSpec)

/-- ITS FALSE NEIGHBOUR: 'it returns false'. Refute it at one input. -/
def entsTellWrong : ChangeSpec := { name := "entsTell", fn := fun _ => fun
  | [d1, d2, d3] => { results := [.lit (.bool false)], args := [d1, d2, d3] }
  | _ => none }
def EntsTellWrongFalsely : Prop := entsTellRow.holds Try.pinned (OpenSpec.ofChange entsTellWrong)

/-- 'linhaylaw18.DotsWays': WHATEVER THE INPUT: true; the input reads as it did. -/
def dotsWaysSpec : ChangeSpec := { name := "dotsWays", fn := fun _ => fun
  | [d1, d2, d3] => { results := [.lit (.bool true)], args := [d1, d2, d3] }
  | _ => none }
def dotsWaysRow : OpenClaim := { program := "ytmjggjccmbiheaa", sum := "a94edeffc9a67ee2170bd0c0072bcae8a317cbe70f6be0a1137dc77172ddd440", func := "linhay/linhaylaw18.DotsWays", spec := "dotsWays", inPlace := ["internal/bytealg.IndexByteString", "internal/bytealg.IndexString", "internal/abi.NoEscape", "internal/bytealg.MakeNoZero"], unfollowed := true, recurses := true, named := ["internal/bytealg.MaxLen"], apart := false }
def DotsWaysSaid : Prop := dotsWaysRow.holds Try.pinned (OpenSpec.ofChange dotsWaysSpec)

/-- ITS FALSE NEIGHBOUR: 'it returns false'. Refute it at one input. -/
def dotsWaysWrong : ChangeSpec := { name := "dotsWays", fn := fun _ => fun
  | [d1, d2, d3] => { results := [.lit (.bool false)], args := [d1, d2, d3] }
  | _ => none }
def DotsWaysWrongFalsely : Prop := dotsWaysRow.holds Try.pinned (OpenSpec.ofChange dotsWaysWrong)

/-- 'linhaylaw05.RelBack': WHATEVER THE INPUT: true; the input reads as it did. -/
def relBackSpec : ChangeSpec := { name := "relBack", fn := fun _ => fun
  | [d1, d2, d3] => { results := [.lit (.bool true)], args := [d1, d2, d3] }
  | _ => none }
def relBackRow : OpenClaim := { program := "ytmjggjccmbiheaa", sum := "a94edeffc9a67ee2170bd0c0072bcae8a317cbe70f6be0a1137dc77172ddd440", func := "linhay/linhaylaw05.RelBack", spec := "relBack", inPlace := ["internal/bytealg.IndexByteString", "internal/bytealg.IndexString", "internal/abi.NoEscape", "internal/bytealg.MakeNoZero"], unfollowed := true, recurses := true, named := ["internal/bytealg.MaxLen"], apart := false }
def RelBackSaid : Prop := relBackRow.holds Try.pinned (OpenSpec.ofChange relBackSpec)

/-- ITS FALSE NEIGHBOUR: 'it returns false'. Refute it at one input. -/
def relBackWrong : ChangeSpec := { name := "relBack", fn := fun _ => fun
  | [d1, d2, d3] => { results := [.lit (.bool false)], args := [d1, d2, d3] }
  | _ => none }
def RelBackWrongFalsely : Prop := relBackRow.holds Try.pinned (OpenSpec.ofChange relBackWrong)

/-- 'linhaylaw05.RelTells': WHATEVER THE INPUT: true; the input reads as it did. -/
def relTellsSpec : ChangeSpec := { name := "relTells", fn := fun _ => fun
  | [d1, d2, d3] => { results := [.lit (.bool true)], args := [d1, d2, d3] }
  | _ => none }
def relTellsRow : OpenClaim := { program := "ytmjggjccmbiheaa", sum := "a94edeffc9a67ee2170bd0c0072bcae8a317cbe70f6be0a1137dc77172ddd440", func := "linhay/linhaylaw05.RelTells", spec := "relTells", inPlace := ["internal/bytealg.IndexByteString", "internal/bytealg.IndexString", "internal/abi.NoEscape", "internal/bytealg.MakeNoZero"], unfollowed := true, recurses := true, named := ["internal/bytealg.MaxLen"], apart := false }
def RelTellsSaid : Prop := relTellsRow.holds Try.pinned (OpenSpec.ofChange relTellsSpec)

/-- ITS FALSE NEIGHBOUR: 'it returns false'. Refute it at one input. -/
def relTellsWrong : ChangeSpec := { name := "relTells", fn := fun _ => fun
  | [d1, d2, d3] => { results := [.lit (.bool false)], args := [d1, d2, d3] }
  | _ => none }
def RelTellsWrongFalsely : Prop := relTellsRow.holds Try.pinned (OpenSpec.ofChange relTellsWrong)

/-- 'linhaylaw38.StowcliParse': WHATEVER THE INPUT: true; the input reads as it did. -/
def stowcliParseSpec : ChangeSpec := { name := "stowcliParse", fn := fun _ => fun
  | [d] => { results := [.lit (.bool true)], args := [d] }
  | _ => none }
def stowcliParseRow : OpenClaim := { program := "ytmjggjccmbiheaa", sum := "a94edeffc9a67ee2170bd0c0072bcae8a317cbe70f6be0a1137dc77172ddd440", func := "linhay/linhaylaw38.StowcliParse", spec := "stowcliParse", inPlace := ["internal/bytealg.IndexByteString", "internal/bytealg.IndexString", "internal/abi.NoEscape", "internal/bytealg.MakeNoZero"], unfollowed := true, recurses := true, named := ["internal/bytealg.MaxLen"], apart := false }
def StowcliParseSaid : Prop := stowcliParseRow.holds Try.pinned (OpenSpec.ofChange stowcliParseSpec)

/-- ITS FALSE NEIGHBOUR: 'it returns false'. Refute it at one input. -/
def stowcliParseWrong : ChangeSpec := { name := "stowcliParse", fn := fun _ => fun
  | [d] => { results := [.lit (.bool false)], args := [d] }
  | _ => none }
def StowcliParseWrongFalsely : Prop := stowcliParseRow.holds Try.pinned (OpenSpec.ofChange stowcliParseWrong)

/-- 'linhaylaw38.StowcliAnywhere': WHATEVER THE INPUT: true; the input reads as it did. -/
def stowcliAnywhereSpec : ChangeSpec := { name := "stowcliAnywhere", fn := fun _ => fun
  | [d1, d2, d3] => { results := [.lit (.bool true)], args := [d1, d2, d3] }
  | _ => none }
def stowcliAnywhereRow : OpenClaim := { program := "ytmjggjccmbiheaa", sum := "a94edeffc9a67ee2170bd0c0072bcae8a317cbe70f6be0a1137dc77172ddd440", func := "linhay/linhaylaw38.StowcliAnywhere", spec := "stowcliAnywhere", inPlace := ["internal/bytealg.IndexByteString", "internal/bytealg.IndexString", "internal/abi.NoEscape", "internal/bytealg.MakeNoZero"], unfollowed := true, recurses := true, named := ["internal/bytealg.MaxLen"], apart := false }
def StowcliAnywhereSaid : Prop := stowcliAnywhereRow.holds Try.pinned (OpenSpec.ofChange stowcliAnywhereSpec)

/-- ITS FALSE NEIGHBOUR: 'it returns false'. Refute it at one input. -/
def stowcliAnywhereWrong : ChangeSpec := { name := "stowcliAnywhere", fn := fun _ => fun
  | [d1, d2, d3] => { results := [.lit (.bool false)], args := [d1, d2, d3] }
  | _ => none }
def StowcliAnywhereWrongFalsely : Prop := stowcliAnywhereRow.holds Try.pinned (OpenSpec.ofChange stowcliAnywhereWrong)

/- THE SECOND FORM. 'bulk': how many values and letters a reading holds, each counted each time it is reached (what is shared counts as often as it is met; a slice's spare places count too). A statement '..UptoSaid' is the law's where the arguments, and the package variables that the reading takes, are together of bulk at most 1048576: NARROWER than '..Said'. Prove '..Said' where nothing that the law and all that it calls make is longer than what came in: it says more and counts as full. Else prove '..UptoSaid'. A law counts once. -/
mutual
def uptoBulk {H : Type} : DataW H → Nat
  | .lit (.string bytes) => bytes.length + 1
  | .lit _ => 1
  | .nil => 1
  | .ptr d => uptoBulk d + 1
  | .slice elems spare => uptoBulkAll elems + uptoBulkAll spare + 1
  | .agg parts => uptoBulkAll parts + 1
  | .iface _ d => uptoBulk d + 1
  | .map entries => uptoBulkEntries entries + 1
  | .held _ => 1
def uptoBulkAll {H : Type} : List (DataW H) → Nat
  | [] => 0
  | d :: r => uptoBulk d + uptoBulkAll r
def uptoBulkEntries {H : Type} : List (Lit × DataW H) → Nat
  | [] => 0
  | x :: r => uptoBulkEntry x + uptoBulkEntries r
def uptoBulkEntry {H : Type} : Lit × DataW H → Nat
  | (.string bytes, d) => bytes.length + uptoBulk d + 1
  | (_, d) => uptoBulk d + 1
 end
def uptoSmall : (H : Type) → List (DataW H) → Bool := fun _ ds => decide (uptoBulkAll ds ≤ 1048576)
def OpenSpec.upto (s : _root_.Go.ChangeSpec) : _root_.Go.OpenSpec := { _root_.Go.OpenSpec.ofChange s with cond := some uptoSmall }

/-- 'linhaylaw18.DotsTell', WHERE WHAT IT READS IS OF BULK AT MOST 1048576: true; the input reads as it did. -/
def dotsTellUptoRow : OpenClaim := { program := "ytmjggjccmbiheaa", sum := "a94edeffc9a67ee2170bd0c0072bcae8a317cbe70f6be0a1137dc77172ddd440", func := "linhay/linhaylaw18.DotsTell", spec := "dotsTell", apart := false, narrowed := true }
def DotsTellUptoSaid : Prop := dotsTellUptoRow.holds Try.pinned (OpenSpec.upto dotsTellSpec)

/-- 'linhaylaw03.NameChecks', WHERE WHAT IT READS IS OF BULK AT MOST 1048576: true; the input reads as it did. -/
def nameChecksUptoRow : OpenClaim := { program := "ytmjggjccmbiheaa", sum := "a94edeffc9a67ee2170bd0c0072bcae8a317cbe70f6be0a1137dc77172ddd440", func := "linhay/linhaylaw03.NameChecks", spec := "nameChecks", inPlace := ["internal/bytealg.IndexByteString", "internal/bytealg.IndexString"], named := ["internal/bytealg.MaxLen"], apart := false, narrowed := true }
def NameChecksUptoSaid : Prop := nameChecksUptoRow.holds Try.pinned (OpenSpec.upto nameChecksSpec)

/-- 'linhaylaw37.ArgsRest', WHERE WHAT IT READS IS OF BULK AT MOST 1048576: true; the input reads as it did. -/
def argsRestUptoRow : OpenClaim := { program := "ytmjggjccmbiheaa", sum := "a94edeffc9a67ee2170bd0c0072bcae8a317cbe70f6be0a1137dc77172ddd440", func := "linhay/linhaylaw37.ArgsRest", spec := "argsRest", inPlace := ["internal/bytealg.IndexByteString", "internal/bytealg.IndexString"], unfollowed := true, recurses := true, named := ["internal/bytealg.MaxLen"], apart := false, narrowed := true }
def ArgsRestUptoSaid : Prop := argsRestUptoRow.holds Try.pinned (OpenSpec.upto argsRestSpec)

/-- 'linhaylaw06.EntsKeep', WHERE WHAT IT READS IS OF BULK AT MOST 1048576: true; the input reads as it did. -/
def entsKeepUptoRow : OpenClaim := { program := "ytmjggjccmbiheaa", sum := "a94edeffc9a67ee2170bd0c0072bcae8a317cbe70f6be0a1137dc77172ddd440", func := "linhay/linhaylaw06.EntsKeep", spec := "entsKeep", inPlace := ["slices.overlaps[linhay/api.Ent]"], unfollowed := true, recurses := true, apart := false, narrowed := true }
def EntsKeepUptoSaid : Prop := entsKeepUptoRow.holds Try.pinned (OpenSpec.upto entsKeepSpec)

/-- 'linhaylaw03.NameSorts', WHERE WHAT IT READS IS OF BULK AT MOST 1048576: true; the input reads as it did. -/
def nameSortsUptoRow : OpenClaim := { program := "ytmjggjccmbiheaa", sum := "a94edeffc9a67ee2170bd0c0072bcae8a317cbe70f6be0a1137dc77172ddd440", func := "linhay/linhaylaw03.NameSorts", spec := "nameSorts", inPlace := ["internal/bytealg.IndexByteString", "internal/bytealg.IndexString"], recurses := true, named := ["internal/bytealg.MaxLen"], apart := false, narrowed := true }
def NameSortsUptoSaid : Prop := nameSortsUptoRow.holds Try.pinned (OpenSpec.upto nameSortsSpec)

/-- 'linhaylaw06.EntsTell', WHERE WHAT IT READS IS OF BULK AT MOST 1048576: true; the input reads as it did. -/
def entsTellUptoRow : OpenClaim := { program := "ytmjggjccmbiheaa", sum := "a94edeffc9a67ee2170bd0c0072bcae8a317cbe70f6be0a1137dc77172ddd440", func := "linhay/linhaylaw06.EntsTell", spec := "entsTell", inPlace := ["slices.overlaps[linhay/api.Ent]"], unfollowed := true, recurses := true, apart := false, narrowed := true }
def EntsTellUptoSaid : Prop := entsTellUptoRow.holds Try.pinned (OpenSpec.upto entsTellSpec)

/-- 'linhaylaw18.DotsWays', WHERE WHAT IT READS IS OF BULK AT MOST 1048576: true; the input reads as it did. -/
def dotsWaysUptoRow : OpenClaim := { program := "ytmjggjccmbiheaa", sum := "a94edeffc9a67ee2170bd0c0072bcae8a317cbe70f6be0a1137dc77172ddd440", func := "linhay/linhaylaw18.DotsWays", spec := "dotsWays", inPlace := ["internal/bytealg.IndexByteString", "internal/bytealg.IndexString", "internal/abi.NoEscape", "internal/bytealg.MakeNoZero"], unfollowed := true, recurses := true, named := ["internal/bytealg.MaxLen"], apart := false, narrowed := true }
def DotsWaysUptoSaid : Prop := dotsWaysUptoRow.holds Try.pinned (OpenSpec.upto dotsWaysSpec)

/-- 'linhaylaw05.RelBack', WHERE WHAT IT READS IS OF BULK AT MOST 1048576: true; the input reads as it did. -/
def relBackUptoRow : OpenClaim := { program := "ytmjggjccmbiheaa", sum := "a94edeffc9a67ee2170bd0c0072bcae8a317cbe70f6be0a1137dc77172ddd440", func := "linhay/linhaylaw05.RelBack", spec := "relBack", inPlace := ["internal/bytealg.IndexByteString", "internal/bytealg.IndexString", "internal/abi.NoEscape", "internal/bytealg.MakeNoZero"], unfollowed := true, recurses := true, named := ["internal/bytealg.MaxLen"], apart := false, narrowed := true }
def RelBackUptoSaid : Prop := relBackUptoRow.holds Try.pinned (OpenSpec.upto relBackSpec)

/-- 'linhaylaw05.RelTells', WHERE WHAT IT READS IS OF BULK AT MOST 1048576: true; the input reads as it did. -/
def relTellsUptoRow : OpenClaim := { program := "ytmjggjccmbiheaa", sum := "a94edeffc9a67ee2170bd0c0072bcae8a317cbe70f6be0a1137dc77172ddd440", func := "linhay/linhaylaw05.RelTells", spec := "relTells", inPlace := ["internal/bytealg.IndexByteString", "internal/bytealg.IndexString", "internal/abi.NoEscape", "internal/bytealg.MakeNoZero"], unfollowed := true, recurses := true, named := ["internal/bytealg.MaxLen"], apart := false, narrowed := true }
def RelTellsUptoSaid : Prop := relTellsUptoRow.holds Try.pinned (OpenSpec.upto relTellsSpec)

/-- 'linhaylaw38.StowcliParse', WHERE WHAT IT READS IS OF BULK AT MOST 1048576: true; the input reads as it did. -/
def stowcliParseUptoRow : OpenClaim := { program := "ytmjggjccmbiheaa", sum := "a94edeffc9a67ee2170bd0c0072bcae8a317cbe70f6be0a1137dc77172ddd440", func := "linhay/linhaylaw38.StowcliParse", spec := "stowcliParse", inPlace := ["internal/bytealg.IndexByteString", "internal/bytealg.IndexString", "internal/abi.NoEscape", "internal/bytealg.MakeNoZero"], unfollowed := true, recurses := true, named := ["internal/bytealg.MaxLen"], apart := false, narrowed := true }
def StowcliParseUptoSaid : Prop := stowcliParseUptoRow.holds Try.pinned (OpenSpec.upto stowcliParseSpec)

/-- 'linhaylaw38.StowcliAnywhere', WHERE WHAT IT READS IS OF BULK AT MOST 1048576: true; the input reads as it did. -/
def stowcliAnywhereUptoRow : OpenClaim := { program := "ytmjggjccmbiheaa", sum := "a94edeffc9a67ee2170bd0c0072bcae8a317cbe70f6be0a1137dc77172ddd440", func := "linhay/linhaylaw38.StowcliAnywhere", spec := "stowcliAnywhere", inPlace := ["internal/bytealg.IndexByteString", "internal/bytealg.IndexString", "internal/abi.NoEscape", "internal/bytealg.MakeNoZero"], unfollowed := true, recurses := true, named := ["internal/bytealg.MaxLen"], apart := false, narrowed := true }
def StowcliAnywhereUptoSaid : Prop := stowcliAnywhereUptoRow.holds Try.pinned (OpenSpec.upto stowcliAnywhereSpec)

end Rows
end Go.Proofs.Ytmjggjccmbiheaa
