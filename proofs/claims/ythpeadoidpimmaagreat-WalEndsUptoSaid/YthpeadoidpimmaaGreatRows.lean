/-
  No cell of these rows narrows 'for every input' (looked for: loops, veiled, ifaces, maps, wideKeys, modest, calm, conditions, laid).
  DERIVED. THE GIVEN ROWS OF THIS SEAT. 7 by the template 'for every input the law returns true; each argument reads behind the call as it read before'; 0 by the template 'total and deterministic' (their statements: YthpeadoidpimmaaGreatTotals.lean).
  GIVEN WITH THE SEED: the statements are not yours to turn. If you find one false, say at which input.
  Laid BY PROGRAM, IN A SANDBOX (cutbox-rows.mjs): the forced cells as the released guide's own fill.sh prints them over the translation e2456e380f84ec93… (all of the seat's roots in one cut). By AI agents, Wed Nov 11 2026. No macro, syntax, notation, axiom, sorry.
-/
import Derived.Test.YthpeadoidpimmaaGreatChecked
import GoSem.Claim
import GoSem.ClaimJoined
import GoSem.ClaimMapViews
import Derived.JoinedTies
import Derived.KernelRfl
namespace Go.Proofs.YthpeadoidpimmaaGreat
/- THE CELL 'sum', in the pinned program and in every row, IS THE sha256 OF THE DUMP (.gsa) THAT YthpeadoidpimmaaGreatProg.lean LOADS. Nothing in Lean hashes anything: it is a label: what it is worth is what the hold of that sum in a sandbox is worth. -/
noncomputable def Tryz.pinned : Pinned := { name := "ythpeadoidpimmaagreat", sum := "e2456e380f84ec9361bad167834318e944ad69d4f77df8160f717ff147f299a7", checked := Tryz.checked }
namespace Rows
def none {H : Type} : Left H := { results := [], args := [] }

/-- 'trellislaw3.WalAll': WHATEVER THE INPUT: true; the input reads as it did. -/
def walAllSpec : ChangeSpec := { name := "walAll", fn := fun _ => fun
  | [d1, d2] => { results := [.lit (.bool true)], args := [d1, d2] }
  | _ => none }
def walAllRow : OpenClaim := { program := "ythpeadoidpimmaagreat", sum := "e2456e380f84ec9361bad167834318e944ad69d4f77df8160f717ff147f299a7", func := "trellis/trellislaw3.WalAll", spec := "walAll", apart := false }
def WalAllSaid : Prop := walAllRow.holds Tryz.pinned (OpenSpec.ofChange walAllSpec)

/-- ITS FALSE NEIGHBOUR: 'it returns false'. Refute it at one input. -/
def walAllWrong : ChangeSpec := { name := "walAll", fn := fun _ => fun
  | [d1, d2] => { results := [.lit (.bool false)], args := [d1, d2] }
  | _ => none }
def WalAllWrongFalsely : Prop := walAllRow.holds Tryz.pinned (OpenSpec.ofChange walAllWrong)

/-- 'trellislaw3.WalEnds': WHATEVER THE INPUT: true; the input reads as it did. -/
def walEndsSpec : ChangeSpec := { name := "walEnds", fn := fun _ => fun
  | [d1, d2, d3] => { results := [.lit (.bool true)], args := [d1, d2, d3] }
  | _ => none }
def walEndsRow : OpenClaim := { program := "ythpeadoidpimmaagreat", sum := "e2456e380f84ec9361bad167834318e944ad69d4f77df8160f717ff147f299a7", func := "trellis/trellislaw3.WalEnds", spec := "walEnds", apart := false }
def WalEndsSaid : Prop := walEndsRow.holds Tryz.pinned (OpenSpec.ofChange walEndsSpec)

/-- ITS FALSE NEIGHBOUR: 'it returns false'. Refute it at one input. -/
def walEndsWrong : ChangeSpec := { name := "walEnds", fn := fun _ => fun
  | [d1, d2, d3] => { results := [.lit (.bool false)], args := [d1, d2, d3] }
  | _ => none }
def WalEndsWrongFalsely : Prop := walEndsRow.holds Tryz.pinned (OpenSpec.ofChange walEndsWrong)

/-- 'trellislaw3.WalMakes': WHATEVER THE INPUT: true; the input reads as it did. -/
def walMakesSpec : ChangeSpec := { name := "walMakes", fn := fun _ => fun
  | [d1, d2] => { results := [.lit (.bool true)], args := [d1, d2] }
  | _ => none }
def walMakesRow : OpenClaim := { program := "ythpeadoidpimmaagreat", sum := "e2456e380f84ec9361bad167834318e944ad69d4f77df8160f717ff147f299a7", func := "trellis/trellislaw3.WalMakes", spec := "walMakes", apart := false }
def WalMakesSaid : Prop := walMakesRow.holds Tryz.pinned (OpenSpec.ofChange walMakesSpec)

/-- ITS FALSE NEIGHBOUR: 'it returns false'. Refute it at one input. -/
def walMakesWrong : ChangeSpec := { name := "walMakes", fn := fun _ => fun
  | [d1, d2] => { results := [.lit (.bool false)], args := [d1, d2] }
  | _ => none }
def WalMakesWrongFalsely : Prop := walMakesRow.holds Tryz.pinned (OpenSpec.ofChange walMakesWrong)

/-- 'trellislaw3.WalAppends': WHATEVER THE INPUT: true; the input reads as it did. -/
def walAppendsSpec : ChangeSpec := { name := "walAppends", fn := fun _ => fun
  | [d1, d2] => { results := [.lit (.bool true)], args := [d1, d2] }
  | _ => none }
def walAppendsRow : OpenClaim := { program := "ythpeadoidpimmaagreat", sum := "e2456e380f84ec9361bad167834318e944ad69d4f77df8160f717ff147f299a7", func := "trellis/trellislaw3.WalAppends", spec := "walAppends", apart := false }
def WalAppendsSaid : Prop := walAppendsRow.holds Tryz.pinned (OpenSpec.ofChange walAppendsSpec)

/-- ITS FALSE NEIGHBOUR: 'it returns false'. Refute it at one input. -/
def walAppendsWrong : ChangeSpec := { name := "walAppends", fn := fun _ => fun
  | [d1, d2] => { results := [.lit (.bool false)], args := [d1, d2] }
  | _ => none }
def WalAppendsWrongFalsely : Prop := walAppendsRow.holds Tryz.pinned (OpenSpec.ofChange walAppendsWrong)

/-- 'trellislaw3.WalCuts': WHATEVER THE INPUT: true; the input reads as it did. -/
def walCutsSpec : ChangeSpec := { name := "walCuts", fn := fun _ => fun
  | [d1, d2] => { results := [.lit (.bool true)], args := [d1, d2] }
  | _ => none }
def walCutsRow : OpenClaim := { program := "ythpeadoidpimmaagreat", sum := "e2456e380f84ec9361bad167834318e944ad69d4f77df8160f717ff147f299a7", func := "trellis/trellislaw3.WalCuts", spec := "walCuts", apart := false }
def WalCutsSaid : Prop := walCutsRow.holds Tryz.pinned (OpenSpec.ofChange walCutsSpec)

/-- ITS FALSE NEIGHBOUR: 'it returns false'. Refute it at one input. -/
def walCutsWrong : ChangeSpec := { name := "walCuts", fn := fun _ => fun
  | [d1, d2] => { results := [.lit (.bool false)], args := [d1, d2] }
  | _ => none }
def WalCutsWrongFalsely : Prop := walCutsRow.holds Tryz.pinned (OpenSpec.ofChange walCutsWrong)

/-- 'trellislaw3.WalReserves': WHATEVER THE INPUT: true; the input reads as it did. -/
def walReservesSpec : ChangeSpec := { name := "walReserves", fn := fun _ => fun
  | [d1, d2] => { results := [.lit (.bool true)], args := [d1, d2] }
  | _ => none }
def walReservesRow : OpenClaim := { program := "ythpeadoidpimmaagreat", sum := "e2456e380f84ec9361bad167834318e944ad69d4f77df8160f717ff147f299a7", func := "trellis/trellislaw3.WalReserves", spec := "walReserves", apart := false }
def WalReservesSaid : Prop := walReservesRow.holds Tryz.pinned (OpenSpec.ofChange walReservesSpec)

/-- ITS FALSE NEIGHBOUR: 'it returns false'. Refute it at one input. -/
def walReservesWrong : ChangeSpec := { name := "walReserves", fn := fun _ => fun
  | [d1, d2] => { results := [.lit (.bool false)], args := [d1, d2] }
  | _ => none }
def WalReservesWrongFalsely : Prop := walReservesRow.holds Tryz.pinned (OpenSpec.ofChange walReservesWrong)

/-- 'trellislaw3.WalTells': WHATEVER THE INPUT: true; the input reads as it did. -/
def walTellsSpec : ChangeSpec := { name := "walTells", fn := fun _ => fun
  | [d1, d2] => { results := [.lit (.bool true)], args := [d1, d2] }
  | _ => none }
def walTellsRow : OpenClaim := { program := "ythpeadoidpimmaagreat", sum := "e2456e380f84ec9361bad167834318e944ad69d4f77df8160f717ff147f299a7", func := "trellis/trellislaw3.WalTells", spec := "walTells", apart := false }
def WalTellsSaid : Prop := walTellsRow.holds Tryz.pinned (OpenSpec.ofChange walTellsSpec)

/-- ITS FALSE NEIGHBOUR: 'it returns false'. Refute it at one input. -/
def walTellsWrong : ChangeSpec := { name := "walTells", fn := fun _ => fun
  | [d1, d2] => { results := [.lit (.bool false)], args := [d1, d2] }
  | _ => none }
def WalTellsWrongFalsely : Prop := walTellsRow.holds Tryz.pinned (OpenSpec.ofChange walTellsWrong)

/- THE SECOND FORM. 'bulk': how many values and letters a reading holds, each counted each time it is reached (what is shared counts as often as it is met; a slice's spare places count too). A statement '..UptoSaid' is the law's where the arguments, and the package variables that the reading takes, are together of bulk at most 1048576: NARROWER than '..Said'. Prove '..Said' where nothing that the law and all that it calls make is longer than what came in: it says more and counts as full. Else prove '..UptoSaid'. A law counts once. -/
mutual
def uptoBulk {H : Type} : DataW H → Nat
  | .lit (.string bytes) => bytes.length + 1
  | .lit _ => 1
  | .nil => 1
  | .ptr d => uptoBulk d + 1
  | .slice elems spare => uptoBulkAll elems + uptoBulkAll spare + 1
  | .agg parts => uptoBulkAll parts + 1
  | .iface _ d => uptoBulk d + 1
  | .map entries => uptoBulkEntries entries + 1
  | .held _ => 1
def uptoBulkAll {H : Type} : List (DataW H) → Nat
  | [] => 0
  | d :: r => uptoBulk d + uptoBulkAll r
def uptoBulkEntries {H : Type} : List (Lit × DataW H) → Nat
  | [] => 0
  | x :: r => uptoBulkEntry x + uptoBulkEntries r
def uptoBulkEntry {H : Type} : Lit × DataW H → Nat
  | (.string bytes, d) => bytes.length + uptoBulk d + 1
  | (_, d) => uptoBulk d + 1
 end
def uptoSmall : (H : Type) → List (DataW H) → Bool := fun _ ds => decide (uptoBulkAll ds ≤ 1048576)
def OpenSpec.upto (s : _root_.Go.ChangeSpec) : _root_.Go.OpenSpec := { _root_.Go.OpenSpec.ofChange s with cond := some uptoSmall }

/-- 'trellislaw3.WalAll', WHERE WHAT IT READS IS OF BULK AT MOST 1048576: true; the input reads as it did. -/
def walAllUptoRow : OpenClaim := { program := "ythpeadoidpimmaagreat", sum := "e2456e380f84ec9361bad167834318e944ad69d4f77df8160f717ff147f299a7", func := "trellis/trellislaw3.WalAll", spec := "walAll", apart := false, narrowed := true }
def WalAllUptoSaid : Prop := walAllUptoRow.holds Tryz.pinned (OpenSpec.upto walAllSpec)

/-- 'trellislaw3.WalEnds', WHERE WHAT IT READS IS OF BULK AT MOST 1048576: true; the input reads as it did. -/
def walEndsUptoRow : OpenClaim := { program := "ythpeadoidpimmaagreat", sum := "e2456e380f84ec9361bad167834318e944ad69d4f77df8160f717ff147f299a7", func := "trellis/trellislaw3.WalEnds", spec := "walEnds", apart := false, narrowed := true }
def WalEndsUptoSaid : Prop := walEndsUptoRow.holds Tryz.pinned (OpenSpec.upto walEndsSpec)

/-- 'trellislaw3.WalMakes', WHERE WHAT IT READS IS OF BULK AT MOST 1048576: true; the input reads as it did. -/
def walMakesUptoRow : OpenClaim := { program := "ythpeadoidpimmaagreat", sum := "e2456e380f84ec9361bad167834318e944ad69d4f77df8160f717ff147f299a7", func := "trellis/trellislaw3.WalMakes", spec := "walMakes", apart := false, narrowed := true }
def WalMakesUptoSaid : Prop := walMakesUptoRow.holds Tryz.pinned (OpenSpec.upto walMakesSpec)

/-- 'trellislaw3.WalAppends', WHERE WHAT IT READS IS OF BULK AT MOST 1048576: true; the input reads as it did. -/
def walAppendsUptoRow : OpenClaim := { program := "ythpeadoidpimmaagreat", sum := "e2456e380f84ec9361bad167834318e944ad69d4f77df8160f717ff147f299a7", func := "trellis/trellislaw3.WalAppends", spec := "walAppends", apart := false, narrowed := true }
def WalAppendsUptoSaid : Prop := walAppendsUptoRow.holds Tryz.pinned (OpenSpec.upto walAppendsSpec)

/-- 'trellislaw3.WalCuts', WHERE WHAT IT READS IS OF BULK AT MOST 1048576: true; the input reads as it did. -/
def walCutsUptoRow : OpenClaim := { program := "ythpeadoidpimmaagreat", sum := "e2456e380f84ec9361bad167834318e944ad69d4f77df8160f717ff147f299a7", func := "trellis/trellislaw3.WalCuts", spec := "walCuts", apart := false, narrowed := true }
def WalCutsUptoSaid : Prop := walCutsUptoRow.holds Tryz.pinned (OpenSpec.upto walCutsSpec)

/-- 'trellislaw3.WalReserves', WHERE WHAT IT READS IS OF BULK AT MOST 1048576: true; the input reads as it did. -/
def walReservesUptoRow : OpenClaim := { program := "ythpeadoidpimmaagreat", sum := "e2456e380f84ec9361bad167834318e944ad69d4f77df8160f717ff147f299a7", func := "trellis/trellislaw3.WalReserves", spec := "walReserves", apart := false, narrowed := true }
def WalReservesUptoSaid : Prop := walReservesUptoRow.holds Tryz.pinned (OpenSpec.upto walReservesSpec)

/-- 'trellislaw3.WalTells', WHERE WHAT IT READS IS OF BULK AT MOST 1048576: true; the input reads as it did. -/
def walTellsUptoRow : OpenClaim := { program := "ythpeadoidpimmaagreat", sum := "e2456e380f84ec9361bad167834318e944ad69d4f77df8160f717ff147f299a7", func := "trellis/trellislaw3.WalTells", spec := "walTells", apart := false, narrowed := true }
def WalTellsUptoSaid : Prop := walTellsUptoRow.holds Tryz.pinned (OpenSpec.upto walTellsSpec)

end Rows
end Go.Proofs.YthpeadoidpimmaaGreat
