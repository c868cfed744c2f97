/-
  No cell of these rows narrows 'for every input' (looked for: loops, veiled, ifaces, maps, wideKeys, modest, calm, conditions, laid).
  DERIVED. THE GIVEN ROWS OF THIS SEAT. 22 by the template 'for every input the law returns true; each argument reads behind the call as it read before'; 0 by the template 'total and deterministic' (their statements: YthpeadoidpimmaaTotals.lean).
  GIVEN WITH THE SEED: the statements are not yours to turn. If you find one false, say at which input.
  Laid BY PROGRAM, IN A SANDBOX (cutbox-rows.mjs): the forced cells as the released guide's own fill.sh prints them over the translation 7595e03041e1120c… (all of the seat's roots in one cut). By AI agents, Wed Nov 11 2026. No macro, syntax, notation, axiom, sorry.
-/
import Derived.Test.YthpeadoidpimmaaChecked
import GoSem.Claim
import GoSem.ClaimJoined
import GoSem.ClaimMapViews
import Derived.JoinedTies
import Derived.KernelRfl
namespace Go.Proofs.Ythpeadoidpimmaa
/- THE CELL 'sum', in the pinned program and in every row, IS THE sha256 OF THE DUMP (.gsa) THAT YthpeadoidpimmaaProg.lean LOADS. Nothing in Lean hashes anything: it is a label: what it is worth is what the hold of that sum in a sandbox is worth. -/
noncomputable def Try.pinned : Pinned := { name := "ythpeadoidpimmaa", sum := "7595e03041e1120cc6b78d50e5a37a0be02f7030d73d1b614789150aa2a755ed", checked := Try.checked }
namespace Rows
def none {H : Type} : Left H := { results := [], args := [] }

/-- 'trellislaw3.WalNeeds': WHATEVER THE INPUT: true; the input reads as it did. -/
def walNeedsSpec : ChangeSpec := { name := "walNeeds", fn := fun _ => fun
  | [d] => { results := [.lit (.bool true)], args := [d] }
  | _ => none }
def walNeedsRow : OpenClaim := { program := "ythpeadoidpimmaa", sum := "7595e03041e1120cc6b78d50e5a37a0be02f7030d73d1b614789150aa2a755ed", func := "trellis/trellislaw3.WalNeeds", spec := "walNeeds", apart := false }
def WalNeedsSaid : Prop := walNeedsRow.holds Try.pinned (OpenSpec.ofChange walNeedsSpec)

/-- ITS FALSE NEIGHBOUR: 'it returns false'. Refute it at one input. -/
def walNeedsWrong : ChangeSpec := { name := "walNeeds", fn := fun _ => fun
  | [d] => { results := [.lit (.bool false)], args := [d] }
  | _ => none }
def WalNeedsWrongFalsely : Prop := walNeedsRow.holds Try.pinned (OpenSpec.ofChange walNeedsWrong)

/-- 'trellislaw3.WalSums': WHATEVER THE INPUT: true; the input reads as it did. -/
def walSumsSpec : ChangeSpec := { name := "walSums", fn := fun _ => fun
  | [d] => { results := [.lit (.bool true)], args := [d] }
  | _ => none }
def walSumsRow : OpenClaim := { program := "ythpeadoidpimmaa", sum := "7595e03041e1120cc6b78d50e5a37a0be02f7030d73d1b614789150aa2a755ed", func := "trellis/trellislaw3.WalSums", spec := "walSums", apart := false }
def WalSumsSaid : Prop := walSumsRow.holds Try.pinned (OpenSpec.ofChange walSumsSpec)

/-- ITS FALSE NEIGHBOUR: 'it returns false'. Refute it at one input. -/
def walSumsWrong : ChangeSpec := { name := "walSums", fn := fun _ => fun
  | [d] => { results := [.lit (.bool false)], args := [d] }
  | _ => none }
def WalSumsWrongFalsely : Prop := walSumsRow.holds Try.pinned (OpenSpec.ofChange walSumsWrong)

/-- 'trellislaw2.DiskCrash': WHATEVER THE INPUT: true; the input reads as it did. -/
def diskCrashSpec : ChangeSpec := { name := "diskCrash", fn := fun _ => fun
  | [d1, d2, d3] => { results := [.lit (.bool true)], args := [d1, d2, d3] }
  | _ => none }
def diskCrashRow : OpenClaim := { program := "ythpeadoidpimmaa", sum := "7595e03041e1120cc6b78d50e5a37a0be02f7030d73d1b614789150aa2a755ed", func := "trellis/trellislaw2.DiskCrash", spec := "diskCrash", apart := false }
def DiskCrashSaid : Prop := diskCrashRow.holds Try.pinned (OpenSpec.ofChange diskCrashSpec)

/-- ITS FALSE NEIGHBOUR: 'it returns false'. Refute it at one input. -/
def diskCrashWrong : ChangeSpec := { name := "diskCrash", fn := fun _ => fun
  | [d1, d2, d3] => { results := [.lit (.bool false)], args := [d1, d2, d3] }
  | _ => none }
def DiskCrashWrongFalsely : Prop := diskCrashRow.holds Try.pinned (OpenSpec.ofChange diskCrashWrong)

/-- 'trellislaw2.DiskFuse': WHATEVER THE INPUT: true; the input reads as it did. -/
def diskFuseSpec : ChangeSpec := { name := "diskFuse", fn := fun _ => fun
  | [d1, d2, d3] => { results := [.lit (.bool true)], args := [d1, d2, d3] }
  | _ => none }
def diskFuseRow : OpenClaim := { program := "ythpeadoidpimmaa", sum := "7595e03041e1120cc6b78d50e5a37a0be02f7030d73d1b614789150aa2a755ed", func := "trellis/trellislaw2.DiskFuse", spec := "diskFuse", apart := false }
def DiskFuseSaid : Prop := diskFuseRow.holds Try.pinned (OpenSpec.ofChange diskFuseSpec)

/-- ITS FALSE NEIGHBOUR: 'it returns false'. Refute it at one input. -/
def diskFuseWrong : ChangeSpec := { name := "diskFuse", fn := fun _ => fun
  | [d1, d2, d3] => { results := [.lit (.bool false)], args := [d1, d2, d3] }
  | _ => none }
def DiskFuseWrongFalsely : Prop := diskFuseRow.holds Try.pinned (OpenSpec.ofChange diskFuseWrong)

/-- 'trellislaw2.DiskImage': WHATEVER THE INPUT: true; the input reads as it did. -/
def diskImageSpec : ChangeSpec := { name := "diskImage", fn := fun _ => fun
  | [d1, d2, d3] => { results := [.lit (.bool true)], args := [d1, d2, d3] }
  | _ => none }
def diskImageRow : OpenClaim := { program := "ythpeadoidpimmaa", sum := "7595e03041e1120cc6b78d50e5a37a0be02f7030d73d1b614789150aa2a755ed", func := "trellis/trellislaw2.DiskImage", spec := "diskImage", apart := false }
def DiskImageSaid : Prop := diskImageRow.holds Try.pinned (OpenSpec.ofChange diskImageSpec)

/-- ITS FALSE NEIGHBOUR: 'it returns false'. Refute it at one input. -/
def diskImageWrong : ChangeSpec := { name := "diskImage", fn := fun _ => fun
  | [d1, d2, d3] => { results := [.lit (.bool false)], args := [d1, d2, d3] }
  | _ => none }
def DiskImageWrongFalsely : Prop := diskImageRow.holds Try.pinned (OpenSpec.ofChange diskImageWrong)

/-- 'trellislaw2.DiskMakes': WHATEVER THE INPUT: true; the input reads as it did. -/
def diskMakesSpec : ChangeSpec := { name := "diskMakes", fn := fun _ => fun
  | [d] => { results := [.lit (.bool true)], args := [d] }
  | _ => none }
def diskMakesRow : OpenClaim := { program := "ythpeadoidpimmaa", sum := "7595e03041e1120cc6b78d50e5a37a0be02f7030d73d1b614789150aa2a755ed", func := "trellis/trellislaw2.DiskMakes", spec := "diskMakes", apart := false }
def DiskMakesSaid : Prop := diskMakesRow.holds Try.pinned (OpenSpec.ofChange diskMakesSpec)

/-- ITS FALSE NEIGHBOUR: 'it returns false'. Refute it at one input. -/
def diskMakesWrong : ChangeSpec := { name := "diskMakes", fn := fun _ => fun
  | [d] => { results := [.lit (.bool false)], args := [d] }
  | _ => none }
def DiskMakesWrongFalsely : Prop := diskMakesRow.holds Try.pinned (OpenSpec.ofChange diskMakesWrong)

/-- 'trellislaw2.DiskReads': WHATEVER THE INPUT: true; the input reads as it did. -/
def diskReadsSpec : ChangeSpec := { name := "diskReads", fn := fun _ => fun
  | [d] => { results := [.lit (.bool true)], args := [d] }
  | _ => none }
def diskReadsRow : OpenClaim := { program := "ythpeadoidpimmaa", sum := "7595e03041e1120cc6b78d50e5a37a0be02f7030d73d1b614789150aa2a755ed", func := "trellis/trellislaw2.DiskReads", spec := "diskReads", apart := false }
def DiskReadsSaid : Prop := diskReadsRow.holds Try.pinned (OpenSpec.ofChange diskReadsSpec)

/-- ITS FALSE NEIGHBOUR: 'it returns false'. Refute it at one input. -/
def diskReadsWrong : ChangeSpec := { name := "diskReads", fn := fun _ => fun
  | [d] => { results := [.lit (.bool false)], args := [d] }
  | _ => none }
def DiskReadsWrongFalsely : Prop := diskReadsRow.holds Try.pinned (OpenSpec.ofChange diskReadsWrong)

/-- 'trellislaw2.DiskWrites': WHATEVER THE INPUT: true; the input reads as it did. -/
def diskWritesSpec : ChangeSpec := { name := "diskWrites", fn := fun _ => fun
  | [d] => { results := [.lit (.bool true)], args := [d] }
  | _ => none }
def diskWritesRow : OpenClaim := { program := "ythpeadoidpimmaa", sum := "7595e03041e1120cc6b78d50e5a37a0be02f7030d73d1b614789150aa2a755ed", func := "trellis/trellislaw2.DiskWrites", spec := "diskWrites", apart := false }
def DiskWritesSaid : Prop := diskWritesRow.holds Try.pinned (OpenSpec.ofChange diskWritesSpec)

/-- ITS FALSE NEIGHBOUR: 'it returns false'. Refute it at one input. -/
def diskWritesWrong : ChangeSpec := { name := "diskWrites", fn := fun _ => fun
  | [d] => { results := [.lit (.bool false)], args := [d] }
  | _ => none }
def DiskWritesWrongFalsely : Prop := diskWritesRow.holds Try.pinned (OpenSpec.ofChange diskWritesWrong)

/-- 'trellislaw2.DiskCuts': WHATEVER THE INPUT: true; the input reads as it did. -/
def diskCutsSpec : ChangeSpec := { name := "diskCuts", fn := fun _ => fun
  | [d] => { results := [.lit (.bool true)], args := [d] }
  | _ => none }
def diskCutsRow : OpenClaim := { program := "ythpeadoidpimmaa", sum := "7595e03041e1120cc6b78d50e5a37a0be02f7030d73d1b614789150aa2a755ed", func := "trellis/trellislaw2.DiskCuts", spec := "diskCuts", apart := false }
def DiskCutsSaid : Prop := diskCutsRow.holds Try.pinned (OpenSpec.ofChange diskCutsSpec)

/-- ITS FALSE NEIGHBOUR: 'it returns false'. Refute it at one input. -/
def diskCutsWrong : ChangeSpec := { name := "diskCuts", fn := fun _ => fun
  | [d] => { results := [.lit (.bool false)], args := [d] }
  | _ => none }
def DiskCutsWrongFalsely : Prop := diskCutsRow.holds Try.pinned (OpenSpec.ofChange diskCutsWrong)

/-- 'trellislaw2.DiskCrashes': WHATEVER THE INPUT: true; the input reads as it did. -/
def diskCrashesSpec : ChangeSpec := { name := "diskCrashes", fn := fun _ => fun
  | [d] => { results := [.lit (.bool true)], args := [d] }
  | _ => none }
def diskCrashesRow : OpenClaim := { program := "ythpeadoidpimmaa", sum := "7595e03041e1120cc6b78d50e5a37a0be02f7030d73d1b614789150aa2a755ed", func := "trellis/trellislaw2.DiskCrashes", spec := "diskCrashes", apart := false }
def DiskCrashesSaid : Prop := diskCrashesRow.holds Try.pinned (OpenSpec.ofChange diskCrashesSpec)

/-- ITS FALSE NEIGHBOUR: 'it returns false'. Refute it at one input. -/
def diskCrashesWrong : ChangeSpec := { name := "diskCrashes", fn := fun _ => fun
  | [d] => { results := [.lit (.bool false)], args := [d] }
  | _ => none }
def DiskCrashesWrongFalsely : Prop := diskCrashesRow.holds Try.pinned (OpenSpec.ofChange diskCrashesWrong)

/-- 'trellislaw2.DiskTells': WHATEVER THE INPUT: true; the input reads as it did. -/
def diskTellsSpec : ChangeSpec := { name := "diskTells", fn := fun _ => fun
  | [d] => { results := [.lit (.bool true)], args := [d] }
  | _ => none }
def diskTellsRow : OpenClaim := { program := "ythpeadoidpimmaa", sum := "7595e03041e1120cc6b78d50e5a37a0be02f7030d73d1b614789150aa2a755ed", func := "trellis/trellislaw2.DiskTells", spec := "diskTells", apart := false }
def DiskTellsSaid : Prop := diskTellsRow.holds Try.pinned (OpenSpec.ofChange diskTellsSpec)

/-- ITS FALSE NEIGHBOUR: 'it returns false'. Refute it at one input. -/
def diskTellsWrong : ChangeSpec := { name := "diskTells", fn := fun _ => fun
  | [d] => { results := [.lit (.bool false)], args := [d] }
  | _ => none }
def DiskTellsWrongFalsely : Prop := diskTellsRow.holds Try.pinned (OpenSpec.ofChange diskTellsWrong)

/-- 'trellislaw2.DiskAll': WHATEVER THE INPUT: true; the input reads as it did. -/
def diskAllSpec : ChangeSpec := { name := "diskAll", fn := fun _ => fun
  | [d] => { results := [.lit (.bool true)], args := [d] }
  | _ => none }
def diskAllRow : OpenClaim := { program := "ythpeadoidpimmaa", sum := "7595e03041e1120cc6b78d50e5a37a0be02f7030d73d1b614789150aa2a755ed", func := "trellis/trellislaw2.DiskAll", spec := "diskAll", apart := false }
def DiskAllSaid : Prop := diskAllRow.holds Try.pinned (OpenSpec.ofChange diskAllSpec)

/-- ITS FALSE NEIGHBOUR: 'it returns false'. Refute it at one input. -/
def diskAllWrong : ChangeSpec := { name := "diskAll", fn := fun _ => fun
  | [d] => { results := [.lit (.bool false)], args := [d] }
  | _ => none }
def DiskAllWrongFalsely : Prop := diskAllRow.holds Try.pinned (OpenSpec.ofChange diskAllWrong)

/-- 'trellislaw2.DiskOwn': WHATEVER THE INPUT: true; the input reads as it did. -/
def diskOwnSpec : ChangeSpec := { name := "diskOwn", fn := fun _ => fun
  | [d] => { results := [.lit (.bool true)], args := [d] }
  | _ => none }
def diskOwnRow : OpenClaim := { program := "ythpeadoidpimmaa", sum := "7595e03041e1120cc6b78d50e5a37a0be02f7030d73d1b614789150aa2a755ed", func := "trellis/trellislaw2.DiskOwn", spec := "diskOwn", apart := false }
def DiskOwnSaid : Prop := diskOwnRow.holds Try.pinned (OpenSpec.ofChange diskOwnSpec)

/-- ITS FALSE NEIGHBOUR: 'it returns false'. Refute it at one input. -/
def diskOwnWrong : ChangeSpec := { name := "diskOwn", fn := fun _ => fun
  | [d] => { results := [.lit (.bool false)], args := [d] }
  | _ => none }
def DiskOwnWrongFalsely : Prop := diskOwnRow.holds Try.pinned (OpenSpec.ofChange diskOwnWrong)

/-- 'trellislaw3.WalOpens': WHATEVER THE INPUT: true; the input reads as it did. -/
def walOpensSpec : ChangeSpec := { name := "walOpens", fn := fun _ => fun
  | [d1, d2, d3, d4, d5] => { results := [.lit (.bool true)], args := [d1, d2, d3, d4, d5] }
  | _ => none }
def walOpensRow : OpenClaim := { program := "ythpeadoidpimmaa", sum := "7595e03041e1120cc6b78d50e5a37a0be02f7030d73d1b614789150aa2a755ed", func := "trellis/trellislaw3.WalOpens", spec := "walOpens", apart := false }
def WalOpensSaid : Prop := walOpensRow.holds Try.pinned (OpenSpec.ofChange walOpensSpec)

/-- ITS FALSE NEIGHBOUR: 'it returns false'. Refute it at one input. -/
def walOpensWrong : ChangeSpec := { name := "walOpens", fn := fun _ => fun
  | [d1, d2, d3, d4, d5] => { results := [.lit (.bool false)], args := [d1, d2, d3, d4, d5] }
  | _ => none }
def WalOpensWrongFalsely : Prop := walOpensRow.holds Try.pinned (OpenSpec.ofChange walOpensWrong)

/-- 'trellislaw3.WalFormats': WHATEVER THE INPUT: true; the input reads as it did. -/
def walFormatsSpec : ChangeSpec := { name := "walFormats", fn := fun _ => fun
  | [d1, d2, d3, d4, d5] => { results := [.lit (.bool true)], args := [d1, d2, d3, d4, d5] }
  | _ => none }
def walFormatsRow : OpenClaim := { program := "ythpeadoidpimmaa", sum := "7595e03041e1120cc6b78d50e5a37a0be02f7030d73d1b614789150aa2a755ed", func := "trellis/trellislaw3.WalFormats", spec := "walFormats", apart := false }
def WalFormatsSaid : Prop := walFormatsRow.holds Try.pinned (OpenSpec.ofChange walFormatsSpec)

/-- ITS FALSE NEIGHBOUR: 'it returns false'. Refute it at one input. -/
def walFormatsWrong : ChangeSpec := { name := "walFormats", fn := fun _ => fun
  | [d1, d2, d3, d4, d5] => { results := [.lit (.bool false)], args := [d1, d2, d3, d4, d5] }
  | _ => none }
def WalFormatsWrongFalsely : Prop := walFormatsRow.holds Try.pinned (OpenSpec.ofChange walFormatsWrong)

/-- 'trellislaw3.WalBit': WHATEVER THE INPUT: true; the input reads as it did. -/
def walBitSpec : ChangeSpec := { name := "walBit", fn := fun _ => fun
  | [d1, d2, d3, d4, d5] => { results := [.lit (.bool true)], args := [d1, d2, d3, d4, d5] }
  | _ => none }
def walBitRow : OpenClaim := { program := "ythpeadoidpimmaa", sum := "7595e03041e1120cc6b78d50e5a37a0be02f7030d73d1b614789150aa2a755ed", func := "trellis/trellislaw3.WalBit", spec := "walBit", apart := false }
def WalBitSaid : Prop := walBitRow.holds Try.pinned (OpenSpec.ofChange walBitSpec)

/-- ITS FALSE NEIGHBOUR: 'it returns false'. Refute it at one input. -/
def walBitWrong : ChangeSpec := { name := "walBit", fn := fun _ => fun
  | [d1, d2, d3, d4, d5] => { results := [.lit (.bool false)], args := [d1, d2, d3, d4, d5] }
  | _ => none }
def WalBitWrongFalsely : Prop := walBitRow.holds Try.pinned (OpenSpec.ofChange walBitWrong)

/-- 'trellislaw3.WalOwn': WHATEVER THE INPUT: true; the input reads as it did. -/
def walOwnSpec : ChangeSpec := { name := "walOwn", fn := fun _ => fun
  | [d1, d2, d3] => { results := [.lit (.bool true)], args := [d1, d2, d3] }
  | _ => none }
def walOwnRow : OpenClaim := { program := "ythpeadoidpimmaa", sum := "7595e03041e1120cc6b78d50e5a37a0be02f7030d73d1b614789150aa2a755ed", func := "trellis/trellislaw3.WalOwn", spec := "walOwn", apart := false }
def WalOwnSaid : Prop := walOwnRow.holds Try.pinned (OpenSpec.ofChange walOwnSpec)

/-- ITS FALSE NEIGHBOUR: 'it returns false'. Refute it at one input. -/
def walOwnWrong : ChangeSpec := { name := "walOwn", fn := fun _ => fun
  | [d1, d2, d3] => { results := [.lit (.bool false)], args := [d1, d2, d3] }
  | _ => none }
def WalOwnWrongFalsely : Prop := walOwnRow.holds Try.pinned (OpenSpec.ofChange walOwnWrong)

/-- 'trellislaw3.WalTwice': WHATEVER THE INPUT: true; the input reads as it did. -/
def walTwiceSpec : ChangeSpec := { name := "walTwice", fn := fun _ => fun
  | [d1, d2, d3, d4, d5] => { results := [.lit (.bool true)], args := [d1, d2, d3, d4, d5] }
  | _ => none }
def walTwiceRow : OpenClaim := { program := "ythpeadoidpimmaa", sum := "7595e03041e1120cc6b78d50e5a37a0be02f7030d73d1b614789150aa2a755ed", func := "trellis/trellislaw3.WalTwice", spec := "walTwice", apart := false }
def WalTwiceSaid : Prop := walTwiceRow.holds Try.pinned (OpenSpec.ofChange walTwiceSpec)

/-- ITS FALSE NEIGHBOUR: 'it returns false'. Refute it at one input. -/
def walTwiceWrong : ChangeSpec := { name := "walTwice", fn := fun _ => fun
  | [d1, d2, d3, d4, d5] => { results := [.lit (.bool false)], args := [d1, d2, d3, d4, d5] }
  | _ => none }
def WalTwiceWrongFalsely : Prop := walTwiceRow.holds Try.pinned (OpenSpec.ofChange walTwiceWrong)

/-- 'trellislaw3.WalElsewhere': WHATEVER THE INPUT: true; the input reads as it did. -/
def walElsewhereSpec : ChangeSpec := { name := "walElsewhere", fn := fun _ => fun
  | [d1, d2, d3, d4, d5] => { results := [.lit (.bool true)], args := [d1, d2, d3, d4, d5] }
  | _ => none }
def walElsewhereRow : OpenClaim := { program := "ythpeadoidpimmaa", sum := "7595e03041e1120cc6b78d50e5a37a0be02f7030d73d1b614789150aa2a755ed", func := "trellis/trellislaw3.WalElsewhere", spec := "walElsewhere", apart := false }
def WalElsewhereSaid : Prop := walElsewhereRow.holds Try.pinned (OpenSpec.ofChange walElsewhereSpec)

/-- ITS FALSE NEIGHBOUR: 'it returns false'. Refute it at one input. -/
def walElsewhereWrong : ChangeSpec := { name := "walElsewhere", fn := fun _ => fun
  | [d1, d2, d3, d4, d5] => { results := [.lit (.bool false)], args := [d1, d2, d3, d4, d5] }
  | _ => none }
def WalElsewhereWrongFalsely : Prop := walElsewhereRow.holds Try.pinned (OpenSpec.ofChange walElsewhereWrong)

/-- 'trellislaw3.WalRound': WHATEVER THE INPUT: true; the input reads as it did. -/
def walRoundSpec : ChangeSpec := { name := "walRound", fn := fun _ => fun
  | [d1, d2, d3] => { results := [.lit (.bool true)], args := [d1, d2, d3] }
  | _ => none }
def walRoundRow : OpenClaim := { program := "ythpeadoidpimmaa", sum := "7595e03041e1120cc6b78d50e5a37a0be02f7030d73d1b614789150aa2a755ed", func := "trellis/trellislaw3.WalRound", spec := "walRound", apart := false }
def WalRoundSaid : Prop := walRoundRow.holds Try.pinned (OpenSpec.ofChange walRoundSpec)

/-- ITS FALSE NEIGHBOUR: 'it returns false'. Refute it at one input. -/
def walRoundWrong : ChangeSpec := { name := "walRound", fn := fun _ => fun
  | [d1, d2, d3] => { results := [.lit (.bool false)], args := [d1, d2, d3] }
  | _ => none }
def WalRoundWrongFalsely : Prop := walRoundRow.holds Try.pinned (OpenSpec.ofChange walRoundWrong)

/-- 'trellislaw3.WalRoom': WHATEVER THE INPUT: true; the input reads as it did. -/
def walRoomSpec : ChangeSpec := { name := "walRoom", fn := fun _ => fun
  | [d1, d2, d3] => { results := [.lit (.bool true)], args := [d1, d2, d3] }
  | _ => none }
def walRoomRow : OpenClaim := { program := "ythpeadoidpimmaa", sum := "7595e03041e1120cc6b78d50e5a37a0be02f7030d73d1b614789150aa2a755ed", func := "trellis/trellislaw3.WalRoom", spec := "walRoom", apart := false }
def WalRoomSaid : Prop := walRoomRow.holds Try.pinned (OpenSpec.ofChange walRoomSpec)

/-- ITS FALSE NEIGHBOUR: 'it returns false'. Refute it at one input. -/
def walRoomWrong : ChangeSpec := { name := "walRoom", fn := fun _ => fun
  | [d1, d2, d3] => { results := [.lit (.bool false)], args := [d1, d2, d3] }
  | _ => none }
def WalRoomWrongFalsely : Prop := walRoomRow.holds Try.pinned (OpenSpec.ofChange walRoomWrong)

/-- 'trellislaw3.WalPrefix': WHATEVER THE INPUT: true; the input reads as it did. -/
def walPrefixSpec : ChangeSpec := { name := "walPrefix", fn := fun _ => fun
  | [d1, d2, d3] => { results := [.lit (.bool true)], args := [d1, d2, d3] }
  | _ => none }
def walPrefixRow : OpenClaim := { program := "ythpeadoidpimmaa", sum := "7595e03041e1120cc6b78d50e5a37a0be02f7030d73d1b614789150aa2a755ed", func := "trellis/trellislaw3.WalPrefix", spec := "walPrefix", apart := false }
def WalPrefixSaid : Prop := walPrefixRow.holds Try.pinned (OpenSpec.ofChange walPrefixSpec)

/-- ITS FALSE NEIGHBOUR: 'it returns false'. Refute it at one input. -/
def walPrefixWrong : ChangeSpec := { name := "walPrefix", fn := fun _ => fun
  | [d1, d2, d3] => { results := [.lit (.bool false)], args := [d1, d2, d3] }
  | _ => none }
def WalPrefixWrongFalsely : Prop := walPrefixRow.holds Try.pinned (OpenSpec.ofChange walPrefixWrong)

/- THE SECOND FORM. 'bulk': how many values and letters a reading holds, each counted each time it is reached (what is shared counts as often as it is met; a slice's spare places count too). A statement '..UptoSaid' is the law's where the arguments, and the package variables that the reading takes, are together of bulk at most 1048576: NARROWER than '..Said'. Prove '..Said' where nothing that the law and all that it calls make is longer than what came in: it says more and counts as full. Else prove '..UptoSaid'. A law counts once. -/
mutual
def uptoBulk {H : Type} : DataW H → Nat
  | .lit (.string bytes) => bytes.length + 1
  | .lit _ => 1
  | .nil => 1
  | .ptr d => uptoBulk d + 1
  | .slice elems spare => uptoBulkAll elems + uptoBulkAll spare + 1
  | .agg parts => uptoBulkAll parts + 1
  | .iface _ d => uptoBulk d + 1
  | .map entries => uptoBulkEntries entries + 1
  | .held _ => 1
def uptoBulkAll {H : Type} : List (DataW H) → Nat
  | [] => 0
  | d :: r => uptoBulk d + uptoBulkAll r
def uptoBulkEntries {H : Type} : List (Lit × DataW H) → Nat
  | [] => 0
  | x :: r => uptoBulkEntry x + uptoBulkEntries r
def uptoBulkEntry {H : Type} : Lit × DataW H → Nat
  | (.string bytes, d) => bytes.length + uptoBulk d + 1
  | (_, d) => uptoBulk d + 1
 end
def uptoSmall : (H : Type) → List (DataW H) → Bool := fun _ ds => decide (uptoBulkAll ds ≤ 1048576)
def OpenSpec.upto (s : _root_.Go.ChangeSpec) : _root_.Go.OpenSpec := { _root_.Go.OpenSpec.ofChange s with cond := some uptoSmall }

/-- 'trellislaw3.WalNeeds', WHERE WHAT IT READS IS OF BULK AT MOST 1048576: true; the input reads as it did. -/
def walNeedsUptoRow : OpenClaim := { program := "ythpeadoidpimmaa", sum := "7595e03041e1120cc6b78d50e5a37a0be02f7030d73d1b614789150aa2a755ed", func := "trellis/trellislaw3.WalNeeds", spec := "walNeeds", apart := false, narrowed := true }
def WalNeedsUptoSaid : Prop := walNeedsUptoRow.holds Try.pinned (OpenSpec.upto walNeedsSpec)

/-- 'trellislaw3.WalSums', WHERE WHAT IT READS IS OF BULK AT MOST 1048576: true; the input reads as it did. -/
def walSumsUptoRow : OpenClaim := { program := "ythpeadoidpimmaa", sum := "7595e03041e1120cc6b78d50e5a37a0be02f7030d73d1b614789150aa2a755ed", func := "trellis/trellislaw3.WalSums", spec := "walSums", apart := false, narrowed := true }
def WalSumsUptoSaid : Prop := walSumsUptoRow.holds Try.pinned (OpenSpec.upto walSumsSpec)

/-- 'trellislaw2.DiskCrash', WHERE WHAT IT READS IS OF BULK AT MOST 1048576: true; the input reads as it did. -/
def diskCrashUptoRow : OpenClaim := { program := "ythpeadoidpimmaa", sum := "7595e03041e1120cc6b78d50e5a37a0be02f7030d73d1b614789150aa2a755ed", func := "trellis/trellislaw2.DiskCrash", spec := "diskCrash", apart := false, narrowed := true }
def DiskCrashUptoSaid : Prop := diskCrashUptoRow.holds Try.pinned (OpenSpec.upto diskCrashSpec)

/-- 'trellislaw2.DiskFuse', WHERE WHAT IT READS IS OF BULK AT MOST 1048576: true; the input reads as it did. -/
def diskFuseUptoRow : OpenClaim := { program := "ythpeadoidpimmaa", sum := "7595e03041e1120cc6b78d50e5a37a0be02f7030d73d1b614789150aa2a755ed", func := "trellis/trellislaw2.DiskFuse", spec := "diskFuse", apart := false, narrowed := true }
def DiskFuseUptoSaid : Prop := diskFuseUptoRow.holds Try.pinned (OpenSpec.upto diskFuseSpec)

/-- 'trellislaw2.DiskImage', WHERE WHAT IT READS IS OF BULK AT MOST 1048576: true; the input reads as it did. -/
def diskImageUptoRow : OpenClaim := { program := "ythpeadoidpimmaa", sum := "7595e03041e1120cc6b78d50e5a37a0be02f7030d73d1b614789150aa2a755ed", func := "trellis/trellislaw2.DiskImage", spec := "diskImage", apart := false, narrowed := true }
def DiskImageUptoSaid : Prop := diskImageUptoRow.holds Try.pinned (OpenSpec.upto diskImageSpec)

/-- 'trellislaw2.DiskMakes', WHERE WHAT IT READS IS OF BULK AT MOST 1048576: true; the input reads as it did. -/
def diskMakesUptoRow : OpenClaim := { program := "ythpeadoidpimmaa", sum := "7595e03041e1120cc6b78d50e5a37a0be02f7030d73d1b614789150aa2a755ed", func := "trellis/trellislaw2.DiskMakes", spec := "diskMakes", apart := false, narrowed := true }
def DiskMakesUptoSaid : Prop := diskMakesUptoRow.holds Try.pinned (OpenSpec.upto diskMakesSpec)

/-- 'trellislaw2.DiskReads', WHERE WHAT IT READS IS OF BULK AT MOST 1048576: true; the input reads as it did. -/
def diskReadsUptoRow : OpenClaim := { program := "ythpeadoidpimmaa", sum := "7595e03041e1120cc6b78d50e5a37a0be02f7030d73d1b614789150aa2a755ed", func := "trellis/trellislaw2.DiskReads", spec := "diskReads", apart := false, narrowed := true }
def DiskReadsUptoSaid : Prop := diskReadsUptoRow.holds Try.pinned (OpenSpec.upto diskReadsSpec)

/-- 'trellislaw2.DiskWrites', WHERE WHAT IT READS IS OF BULK AT MOST 1048576: true; the input reads as it did. -/
def diskWritesUptoRow : OpenClaim := { program := "ythpeadoidpimmaa", sum := "7595e03041e1120cc6b78d50e5a37a0be02f7030d73d1b614789150aa2a755ed", func := "trellis/trellislaw2.DiskWrites", spec := "diskWrites", apart := false, narrowed := true }
def DiskWritesUptoSaid : Prop := diskWritesUptoRow.holds Try.pinned (OpenSpec.upto diskWritesSpec)

/-- 'trellislaw2.DiskCuts', WHERE WHAT IT READS IS OF BULK AT MOST 1048576: true; the input reads as it did. -/
def diskCutsUptoRow : OpenClaim := { program := "ythpeadoidpimmaa", sum := "7595e03041e1120cc6b78d50e5a37a0be02f7030d73d1b614789150aa2a755ed", func := "trellis/trellislaw2.DiskCuts", spec := "diskCuts", apart := false, narrowed := true }
def DiskCutsUptoSaid : Prop := diskCutsUptoRow.holds Try.pinned (OpenSpec.upto diskCutsSpec)

/-- 'trellislaw2.DiskCrashes', WHERE WHAT IT READS IS OF BULK AT MOST 1048576: true; the input reads as it did. -/
def diskCrashesUptoRow : OpenClaim := { program := "ythpeadoidpimmaa", sum := "7595e03041e1120cc6b78d50e5a37a0be02f7030d73d1b614789150aa2a755ed", func := "trellis/trellislaw2.DiskCrashes", spec := "diskCrashes", apart := false, narrowed := true }
def DiskCrashesUptoSaid : Prop := diskCrashesUptoRow.holds Try.pinned (OpenSpec.upto diskCrashesSpec)

/-- 'trellislaw2.DiskTells', WHERE WHAT IT READS IS OF BULK AT MOST 1048576: true; the input reads as it did. -/
def diskTellsUptoRow : OpenClaim := { program := "ythpeadoidpimmaa", sum := "7595e03041e1120cc6b78d50e5a37a0be02f7030d73d1b614789150aa2a755ed", func := "trellis/trellislaw2.DiskTells", spec := "diskTells", apart := false, narrowed := true }
def DiskTellsUptoSaid : Prop := diskTellsUptoRow.holds Try.pinned (OpenSpec.upto diskTellsSpec)

/-- 'trellislaw2.DiskAll', WHERE WHAT IT READS IS OF BULK AT MOST 1048576: true; the input reads as it did. -/
def diskAllUptoRow : OpenClaim := { program := "ythpeadoidpimmaa", sum := "7595e03041e1120cc6b78d50e5a37a0be02f7030d73d1b614789150aa2a755ed", func := "trellis/trellislaw2.DiskAll", spec := "diskAll", apart := false, narrowed := true }
def DiskAllUptoSaid : Prop := diskAllUptoRow.holds Try.pinned (OpenSpec.upto diskAllSpec)

/-- 'trellislaw2.DiskOwn', WHERE WHAT IT READS IS OF BULK AT MOST 1048576: true; the input reads as it did. -/
def diskOwnUptoRow : OpenClaim := { program := "ythpeadoidpimmaa", sum := "7595e03041e1120cc6b78d50e5a37a0be02f7030d73d1b614789150aa2a755ed", func := "trellis/trellislaw2.DiskOwn", spec := "diskOwn", apart := false, narrowed := true }
def DiskOwnUptoSaid : Prop := diskOwnUptoRow.holds Try.pinned (OpenSpec.upto diskOwnSpec)

/-- 'trellislaw3.WalOpens', WHERE WHAT IT READS IS OF BULK AT MOST 1048576: true; the input reads as it did. -/
def walOpensUptoRow : OpenClaim := { program := "ythpeadoidpimmaa", sum := "7595e03041e1120cc6b78d50e5a37a0be02f7030d73d1b614789150aa2a755ed", func := "trellis/trellislaw3.WalOpens", spec := "walOpens", apart := false, narrowed := true }
def WalOpensUptoSaid : Prop := walOpensUptoRow.holds Try.pinned (OpenSpec.upto walOpensSpec)

/-- 'trellislaw3.WalFormats', WHERE WHAT IT READS IS OF BULK AT MOST 1048576: true; the input reads as it did. -/
def walFormatsUptoRow : OpenClaim := { program := "ythpeadoidpimmaa", sum := "7595e03041e1120cc6b78d50e5a37a0be02f7030d73d1b614789150aa2a755ed", func := "trellis/trellislaw3.WalFormats", spec := "walFormats", apart := false, narrowed := true }
def WalFormatsUptoSaid : Prop := walFormatsUptoRow.holds Try.pinned (OpenSpec.upto walFormatsSpec)

/-- 'trellislaw3.WalBit', WHERE WHAT IT READS IS OF BULK AT MOST 1048576: true; the input reads as it did. -/
def walBitUptoRow : OpenClaim := { program := "ythpeadoidpimmaa", sum := "7595e03041e1120cc6b78d50e5a37a0be02f7030d73d1b614789150aa2a755ed", func := "trellis/trellislaw3.WalBit", spec := "walBit", apart := false, narrowed := true }
def WalBitUptoSaid : Prop := walBitUptoRow.holds Try.pinned (OpenSpec.upto walBitSpec)

/-- 'trellislaw3.WalOwn', WHERE WHAT IT READS IS OF BULK AT MOST 1048576: true; the input reads as it did. -/
def walOwnUptoRow : OpenClaim := { program := "ythpeadoidpimmaa", sum := "7595e03041e1120cc6b78d50e5a37a0be02f7030d73d1b614789150aa2a755ed", func := "trellis/trellislaw3.WalOwn", spec := "walOwn", apart := false, narrowed := true }
def WalOwnUptoSaid : Prop := walOwnUptoRow.holds Try.pinned (OpenSpec.upto walOwnSpec)

/-- 'trellislaw3.WalTwice', WHERE WHAT IT READS IS OF BULK AT MOST 1048576: true; the input reads as it did. -/
def walTwiceUptoRow : OpenClaim := { program := "ythpeadoidpimmaa", sum := "7595e03041e1120cc6b78d50e5a37a0be02f7030d73d1b614789150aa2a755ed", func := "trellis/trellislaw3.WalTwice", spec := "walTwice", apart := false, narrowed := true }
def WalTwiceUptoSaid : Prop := walTwiceUptoRow.holds Try.pinned (OpenSpec.upto walTwiceSpec)

/-- 'trellislaw3.WalElsewhere', WHERE WHAT IT READS IS OF BULK AT MOST 1048576: true; the input reads as it did. -/
def walElsewhereUptoRow : OpenClaim := { program := "ythpeadoidpimmaa", sum := "7595e03041e1120cc6b78d50e5a37a0be02f7030d73d1b614789150aa2a755ed", func := "trellis/trellislaw3.WalElsewhere", spec := "walElsewhere", apart := false, narrowed := true }
def WalElsewhereUptoSaid : Prop := walElsewhereUptoRow.holds Try.pinned (OpenSpec.upto walElsewhereSpec)

/-- 'trellislaw3.WalRound', WHERE WHAT IT READS IS OF BULK AT MOST 1048576: true; the input reads as it did. -/
def walRoundUptoRow : OpenClaim := { program := "ythpeadoidpimmaa", sum := "7595e03041e1120cc6b78d50e5a37a0be02f7030d73d1b614789150aa2a755ed", func := "trellis/trellislaw3.WalRound", spec := "walRound", apart := false, narrowed := true }
def WalRoundUptoSaid : Prop := walRoundUptoRow.holds Try.pinned (OpenSpec.upto walRoundSpec)

/-- 'trellislaw3.WalRoom', WHERE WHAT IT READS IS OF BULK AT MOST 1048576: true; the input reads as it did. -/
def walRoomUptoRow : OpenClaim := { program := "ythpeadoidpimmaa", sum := "7595e03041e1120cc6b78d50e5a37a0be02f7030d73d1b614789150aa2a755ed", func := "trellis/trellislaw3.WalRoom", spec := "walRoom", apart := false, narrowed := true }
def WalRoomUptoSaid : Prop := walRoomUptoRow.holds Try.pinned (OpenSpec.upto walRoomSpec)

/-- 'trellislaw3.WalPrefix', WHERE WHAT IT READS IS OF BULK AT MOST 1048576: true; the input reads as it did. -/
def walPrefixUptoRow : OpenClaim := { program := "ythpeadoidpimmaa", sum := "7595e03041e1120cc6b78d50e5a37a0be02f7030d73d1b614789150aa2a755ed", func := "trellis/trellislaw3.WalPrefix", spec := "walPrefix", apart := false, narrowed := true }
def WalPrefixUptoSaid : Prop := walPrefixUptoRow.holds Try.pinned (OpenSpec.upto walPrefixSpec)

end Rows
end Go.Proofs.Ythpeadoidpimmaa
