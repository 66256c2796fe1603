/-
  No cell of these rows narrows 'for every input' (looked for: loops, veiled, ifaces, maps, wideKeys, modest, calm, conditions, laid).
  DERIVED. THE GIVEN ROWS OF THIS SEAT. 12 by the template 'for every input the law returns true; each argument reads behind the call as it read before'; 0 by the template 'total and deterministic' (their statements: YgctagTotals.lean).
  GIVEN WITH THE SEED: the statements are not yours to turn. If you find one false, say at which input.
  Laid BY PROGRAM, IN A SANDBOX (cutbox-rows.mjs): the forced cells as the released guide's own fill.sh prints them over the translation 1e0a742ce90d7905… (all of the seat's roots in one cut). By AI agents, Wed Nov 11 2026. No macro, syntax, notation, axiom, sorry.
-/
import Derived.Test.YgctagChecked
import GoSem.Claim
import GoSem.ClaimJoined
import GoSem.ClaimMapViews
import Derived.JoinedTies
import Derived.KernelRfl
namespace Go.Proofs.Ygctag
/- THE CELL 'sum', in the pinned program and in every row, IS THE sha256 OF THE DUMP (.gsa) THAT YgctagProg.lean LOADS. Nothing in Lean hashes anything: it is a label: what it is worth is what the hold of that sum in a sandbox is worth. -/
noncomputable def Tagg.pinned : Pinned := { name := "ygctag", sum := "1e0a742ce90d7905e32d26937250572baa55cf22b35bc674006138157a0863b6", checked := Tagg.checked }
namespace Rows
def none {H : Type} : Left H := { results := [], args := [] }

/-- 'law.ConvRightExact': WHATEVER THE INPUT: true; the input reads as it did. -/
def convRightExactSpec : ChangeSpec := { name := "convRightExact", fn := fun _ => fun
  | [d1, d2] => { results := [.lit (.bool true)], args := [d1, d2] }
  | _ => none }
def convRightExactRow : OpenClaim := { program := "ygctag", sum := "1e0a742ce90d7905e32d26937250572baa55cf22b35bc674006138157a0863b6", func := "fftlab/law.ConvRightExact", spec := "convRightExact", apart := false }
def ConvRightExactSaid : Prop := convRightExactRow.holds Tagg.pinned (OpenSpec.ofChange convRightExactSpec)

/-- ITS FALSE NEIGHBOUR: 'it returns false'. Refute it at one input. -/
def convRightExactWrong : ChangeSpec := { name := "convRightExact", fn := fun _ => fun
  | [d1, d2] => { results := [.lit (.bool false)], args := [d1, d2] }
  | _ => none }
def ConvRightExactWrongFalsely : Prop := convRightExactRow.holds Tagg.pinned (OpenSpec.ofChange convRightExactWrong)

/-- 'law.RightIsProduct': WHATEVER THE INPUT: true; the input reads as it did. -/
def rightIsProductSpec : ChangeSpec := { name := "rightIsProduct", fn := fun _ => fun
  | [d1, d2] => { results := [.lit (.bool true)], args := [d1, d2] }
  | _ => none }
def rightIsProductRow : OpenClaim := { program := "ygctag", sum := "1e0a742ce90d7905e32d26937250572baa55cf22b35bc674006138157a0863b6", func := "fftlab/law.RightIsProduct", spec := "rightIsProduct", apart := false }
def RightIsProductSaid : Prop := rightIsProductRow.holds Tagg.pinned (OpenSpec.ofChange rightIsProductSpec)

/-- ITS FALSE NEIGHBOUR: 'it returns false'. Refute it at one input. -/
def rightIsProductWrong : ChangeSpec := { name := "rightIsProduct", fn := fun _ => fun
  | [d1, d2] => { results := [.lit (.bool false)], args := [d1, d2] }
  | _ => none }
def RightIsProductWrongFalsely : Prop := rightIsProductRow.holds Tagg.pinned (OpenSpec.ofChange rightIsProductWrong)

/-- 'law.UnbalanceRight': WHATEVER THE INPUT: true; the input reads as it did. -/
def unbalanceRightSpec : ChangeSpec := { name := "unbalanceRight", fn := fun _ => fun
  | [d] => { results := [.lit (.bool true)], args := [d] }
  | _ => none }
def unbalanceRightRow : OpenClaim := { program := "ygctag", sum := "1e0a742ce90d7905e32d26937250572baa55cf22b35bc674006138157a0863b6", func := "fftlab/law.UnbalanceRight", spec := "unbalanceRight", inPlace := ["math.Float64bits", "math/bits.Sub64", "math/bits.Add64"], apart := false }
def UnbalanceRightSaid : Prop := unbalanceRightRow.holds Tagg.pinned (OpenSpec.ofChange unbalanceRightSpec)

/-- ITS FALSE NEIGHBOUR: 'it returns false'. Refute it at one input. -/
def unbalanceRightWrong : ChangeSpec := { name := "unbalanceRight", fn := fun _ => fun
  | [d] => { results := [.lit (.bool false)], args := [d] }
  | _ => none }
def UnbalanceRightWrongFalsely : Prop := unbalanceRightRow.holds Tagg.pinned (OpenSpec.ofChange unbalanceRightWrong)

/-- 'law.MoreNoChange': WHATEVER THE INPUT: true; the input reads as it did. -/
def moreNoChangeSpec : ChangeSpec := { name := "moreNoChange", fn := fun _ => fun
  | [d1, d2] => { results := [.lit (.bool true)], args := [d1, d2] }
  | _ => none }
def moreNoChangeRow : OpenClaim := { program := "ygctag", sum := "1e0a742ce90d7905e32d26937250572baa55cf22b35bc674006138157a0863b6", func := "fftlab/law.MoreNoChange", spec := "moreNoChange", inPlace := ["math.Float64frombits", "math.Float64bits"], apart := false }
def MoreNoChangeSaid : Prop := moreNoChangeRow.holds Tagg.pinned (OpenSpec.ofChange moreNoChangeSpec)

/-- ITS FALSE NEIGHBOUR: 'it returns false'. Refute it at one input. -/
def moreNoChangeWrong : ChangeSpec := { name := "moreNoChange", fn := fun _ => fun
  | [d1, d2] => { results := [.lit (.bool false)], args := [d1, d2] }
  | _ => none }
def MoreNoChangeWrongFalsely : Prop := moreNoChangeRow.holds Tagg.pinned (OpenSpec.ofChange moreNoChangeWrong)

/-- 'law.MatEntries': WHATEVER THE INPUT: true; the input reads as it did. -/
def matEntriesSpec : ChangeSpec := { name := "matEntries", fn := fun _ => fun
  | [d1, d2, d3, d4, d5, d6] => { results := [.lit (.bool true)], args := [d1, d2, d3, d4, d5, d6] }
  | _ => none }
def matEntriesRow : OpenClaim := { program := "ygctag", sum := "1e0a742ce90d7905e32d26937250572baa55cf22b35bc674006138157a0863b6", func := "fftlab/law.MatEntries", spec := "matEntries", inPlace := ["math.Float64frombits", "math.Float64bits"], apart := false }
def MatEntriesSaid : Prop := matEntriesRow.holds Tagg.pinned (OpenSpec.ofChange matEntriesSpec)

/-- ITS FALSE NEIGHBOUR: 'it returns false'. Refute it at one input. -/
def matEntriesWrong : ChangeSpec := { name := "matEntries", fn := fun _ => fun
  | [d1, d2, d3, d4, d5, d6] => { results := [.lit (.bool false)], args := [d1, d2, d3, d4, d5, d6] }
  | _ => none }
def MatEntriesWrongFalsely : Prop := matEntriesRow.holds Tagg.pinned (OpenSpec.ofChange matEntriesWrong)

/-- 'law.MatSame': WHATEVER THE INPUT: true; the input reads as it did. -/
def matSameSpec : ChangeSpec := { name := "matSame", fn := fun _ => fun
  | [d1, d2, d3, d4, d5, d6, d7] => { results := [.lit (.bool true)], args := [d1, d2, d3, d4, d5, d6, d7] }
  | _ => none }
def matSameRow : OpenClaim := { program := "ygctag", sum := "1e0a742ce90d7905e32d26937250572baa55cf22b35bc674006138157a0863b6", func := "fftlab/law.MatSame", spec := "matSame", inPlace := ["math.Float64frombits", "math.Float64bits"], apart := false }
def MatSameSaid : Prop := matSameRow.holds Tagg.pinned (OpenSpec.ofChange matSameSpec)

/-- ITS FALSE NEIGHBOUR: 'it returns false'. Refute it at one input. -/
def matSameWrong : ChangeSpec := { name := "matSame", fn := fun _ => fun
  | [d1, d2, d3, d4, d5, d6, d7] => { results := [.lit (.bool false)], args := [d1, d2, d3, d4, d5, d6, d7] }
  | _ => none }
def MatSameWrongFalsely : Prop := matSameRow.holds Tagg.pinned (OpenSpec.ofChange matSameWrong)

/-- 'law.MatExact': WHATEVER THE INPUT: true; the input reads as it did. -/
def matExactSpec : ChangeSpec := { name := "matExact", fn := fun _ => fun
  | [d1, d2, d3, d4, d5, d6] => { results := [.lit (.bool true)], args := [d1, d2, d3, d4, d5, d6] }
  | _ => none }
def matExactRow : OpenClaim := { program := "ygctag", sum := "1e0a742ce90d7905e32d26937250572baa55cf22b35bc674006138157a0863b6", func := "fftlab/law.MatExact", spec := "matExact", inPlace := ["math.Float64frombits"], apart := false }
def MatExactSaid : Prop := matExactRow.holds Tagg.pinned (OpenSpec.ofChange matExactSpec)

/-- ITS FALSE NEIGHBOUR: 'it returns false'. Refute it at one input. -/
def matExactWrong : ChangeSpec := { name := "matExact", fn := fun _ => fun
  | [d1, d2, d3, d4, d5, d6] => { results := [.lit (.bool false)], args := [d1, d2, d3, d4, d5, d6] }
  | _ => none }
def MatExactWrongFalsely : Prop := matExactRow.holds Tagg.pinned (OpenSpec.ofChange matExactWrong)

/-- 'law.MatRefuses': WHATEVER THE INPUT: true; the input reads as it did. -/
def matRefusesSpec : ChangeSpec := { name := "matRefuses", fn := fun _ => fun
  | [d1, d2, d3, d4, d5] => { results := [.lit (.bool true)], args := [d1, d2, d3, d4, d5] }
  | _ => none }
def matRefusesRow : OpenClaim := { program := "ygctag", sum := "1e0a742ce90d7905e32d26937250572baa55cf22b35bc674006138157a0863b6", func := "fftlab/law.MatRefuses", spec := "matRefuses", apart := false }
def MatRefusesSaid : Prop := matRefusesRow.holds Tagg.pinned (OpenSpec.ofChange matRefusesSpec)

/-- ITS FALSE NEIGHBOUR: 'it returns false'. Refute it at one input. -/
def matRefusesWrong : ChangeSpec := { name := "matRefuses", fn := fun _ => fun
  | [d1, d2, d3, d4, d5] => { results := [.lit (.bool false)], args := [d1, d2, d3, d4, d5] }
  | _ => none }
def MatRefusesWrongFalsely : Prop := matRefusesRow.holds Tagg.pinned (OpenSpec.ofChange matRefusesWrong)

/-- 'law.MulLongRight': WHATEVER THE INPUT: true; the input reads as it did. -/
def mulLongRightSpec : ChangeSpec := { name := "mulLongRight", fn := fun _ => fun
  | [d1, d2] => { results := [.lit (.bool true)], args := [d1, d2] }
  | _ => none }
def mulLongRightRow : OpenClaim := { program := "ygctag", sum := "1e0a742ce90d7905e32d26937250572baa55cf22b35bc674006138157a0863b6", func := "fftlab/law.MulLongRight", spec := "mulLongRight", apart := false }
def MulLongRightSaid : Prop := mulLongRightRow.holds Tagg.pinned (OpenSpec.ofChange mulLongRightSpec)

/-- ITS FALSE NEIGHBOUR: 'it returns false'. Refute it at one input. -/
def mulLongRightWrong : ChangeSpec := { name := "mulLongRight", fn := fun _ => fun
  | [d1, d2] => { results := [.lit (.bool false)], args := [d1, d2] }
  | _ => none }
def MulLongRightWrongFalsely : Prop := mulLongRightRow.holds Tagg.pinned (OpenSpec.ofChange mulLongRightWrong)

/-- 'law.MulLongSplits': WHATEVER THE INPUT: true; the input reads as it did. -/
def mulLongSplitsSpec : ChangeSpec := { name := "mulLongSplits", fn := fun _ => fun
  | [d1, d2, d3] => { results := [.lit (.bool true)], args := [d1, d2, d3] }
  | _ => none }
def mulLongSplitsRow : OpenClaim := { program := "ygctag", sum := "1e0a742ce90d7905e32d26937250572baa55cf22b35bc674006138157a0863b6", func := "fftlab/law.MulLongSplits", spec := "mulLongSplits", apart := false }
def MulLongSplitsSaid : Prop := mulLongSplitsRow.holds Tagg.pinned (OpenSpec.ofChange mulLongSplitsSpec)

/-- ITS FALSE NEIGHBOUR: 'it returns false'. Refute it at one input. -/
def mulLongSplitsWrong : ChangeSpec := { name := "mulLongSplits", fn := fun _ => fun
  | [d1, d2, d3] => { results := [.lit (.bool false)], args := [d1, d2, d3] }
  | _ => none }
def MulLongSplitsWrongFalsely : Prop := mulLongSplitsRow.holds Tagg.pinned (OpenSpec.ofChange mulLongSplitsWrong)

/-- 'law.MulLongSquare': WHATEVER THE INPUT: true; the input reads as it did. -/
def mulLongSquareSpec : ChangeSpec := { name := "mulLongSquare", fn := fun _ => fun
  | [d] => { results := [.lit (.bool true)], args := [d] }
  | _ => none }
def mulLongSquareRow : OpenClaim := { program := "ygctag", sum := "1e0a742ce90d7905e32d26937250572baa55cf22b35bc674006138157a0863b6", func := "fftlab/law.MulLongSquare", spec := "mulLongSquare", apart := false }
def MulLongSquareSaid : Prop := mulLongSquareRow.holds Tagg.pinned (OpenSpec.ofChange mulLongSquareSpec)

/-- ITS FALSE NEIGHBOUR: 'it returns false'. Refute it at one input. -/
def mulLongSquareWrong : ChangeSpec := { name := "mulLongSquare", fn := fun _ => fun
  | [d] => { results := [.lit (.bool false)], args := [d] }
  | _ => none }
def MulLongSquareWrongFalsely : Prop := mulLongSquareRow.holds Tagg.pinned (OpenSpec.ofChange mulLongSquareWrong)

/-- 'law.TakeRight': WHATEVER THE INPUT: true; the input reads as it did. -/
def takeRightSpec : ChangeSpec := { name := "takeRight", fn := fun _ => fun
  | [d] => { results := [.lit (.bool true)], args := [d] }
  | _ => none }
def takeRightRow : OpenClaim := { program := "ygctag", sum := "1e0a742ce90d7905e32d26937250572baa55cf22b35bc674006138157a0863b6", func := "fftlab/law.TakeRight", spec := "takeRight", apart := false }
def TakeRightSaid : Prop := takeRightRow.holds Tagg.pinned (OpenSpec.ofChange takeRightSpec)

/-- ITS FALSE NEIGHBOUR: 'it returns false'. Refute it at one input. -/
def takeRightWrong : ChangeSpec := { name := "takeRight", fn := fun _ => fun
  | [d] => { results := [.lit (.bool false)], args := [d] }
  | _ => none }
def TakeRightWrongFalsely : Prop := takeRightRow.holds Tagg.pinned (OpenSpec.ofChange takeRightWrong)

end Rows
end Go.Proofs.Ygctag
