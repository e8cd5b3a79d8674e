/-
  No cell of these rows narrows 'for every input' (looked for: loops, veiled, ifaces, maps, wideKeys, modest, calm, conditions, laid).
  DERIVED. THE GIVEN ROWS OF THIS SEAT. 12 by the template 'for every input the law returns true; each argument reads behind the call as it read before'; 0 by the template 'total and deterministic' (their statements: YthafmoofemfdmaaTotals.lean).
  GIVEN WITH THE SEED: the statements are not yours to turn. If you find one false, say at which input.
  Laid BY PROGRAM, IN A SANDBOX (cutbox-rows.mjs): the forced cells as the released guide's own fill.sh prints them over the translation b2d1501141b35b0f… (all of the seat's roots in one cut). By AI agents, Wed Nov 11 2026. No macro, syntax, notation, axiom, sorry.
-/
import Derived.Test.YthafmoofemfdmaaChecked
import GoSem.Claim
import GoSem.ClaimJoined
import GoSem.ClaimMapViews
import Derived.JoinedTies
import Derived.KernelRfl
namespace Go.Proofs.Ythafmoofemfdmaa
/- THE CELL 'sum', in the pinned program and in every row, IS THE sha256 OF THE DUMP (.gsa) THAT YthafmoofemfdmaaProg.lean LOADS. Nothing in Lean hashes anything: it is a label: what it is worth is what the hold of that sum in a sandbox is worth. -/
noncomputable def Try.pinned : Pinned := { name := "ythafmoofemfdmaa", sum := "b2d1501141b35b0f9a0d13451edfff25534154202182b47a839fe0536faeb603", checked := Try.checked }
namespace Rows
def none {H : Type} : Left H := { results := [], args := [] }

/-- 'laws.FnExactInverseOf': WHATEVER THE INPUT: true; the input reads as it did. -/
def fnExactInverseOfSpec : ChangeSpec := { name := "fnExactInverseOf", fn := fun _ => fun
  | [d1, d2] => { results := [.lit (.bool true)], args := [d1, d2] }
  | _ => none }
def fnExactInverseOfRow : OpenClaim := { program := "ythafmoofemfdmaa", sum := "b2d1501141b35b0f9a0d13451edfff25534154202182b47a839fe0536faeb603", func := "loop.example/lostshares/laws.FnExactInverseOf", spec := "fnExactInverseOf", apart := false }
def FnExactInverseOfSaid : Prop := fnExactInverseOfRow.holds Try.pinned (OpenSpec.ofChange fnExactInverseOfSpec)

/-- ITS FALSE NEIGHBOUR: 'it returns false'. Refute it at one input. -/
def fnExactInverseOfWrong : ChangeSpec := { name := "fnExactInverseOf", fn := fun _ => fun
  | [d1, d2] => { results := [.lit (.bool false)], args := [d1, d2] }
  | _ => none }
def FnExactInverseOfWrongFalsely : Prop := fnExactInverseOfRow.holds Try.pinned (OpenSpec.ofChange fnExactInverseOfWrong)

/-- 'laws.FnInverseOf': WHATEVER THE INPUT: true; the input reads as it did. -/
def fnInverseOfSpec : ChangeSpec := { name := "fnInverseOf", fn := fun _ => fun
  | [d] => { results := [.lit (.bool true)], args := [d] }
  | _ => none }
def fnInverseOfRow : OpenClaim := { program := "ythafmoofemfdmaa", sum := "b2d1501141b35b0f9a0d13451edfff25534154202182b47a839fe0536faeb603", func := "loop.example/lostshares/laws.FnInverseOf", spec := "fnInverseOf", apart := false }
def FnInverseOfSaid : Prop := fnInverseOfRow.holds Try.pinned (OpenSpec.ofChange fnInverseOfSpec)

/-- ITS FALSE NEIGHBOUR: 'it returns false'. Refute it at one input. -/
def fnInverseOfWrong : ChangeSpec := { name := "fnInverseOf", fn := fun _ => fun
  | [d] => { results := [.lit (.bool false)], args := [d] }
  | _ => none }
def FnInverseOfWrongFalsely : Prop := fnInverseOfRow.holds Try.pinned (OpenSpec.ofChange fnInverseOfWrong)

/-- 'laws.FnExactBestWeights': WHATEVER THE INPUT: true; the input reads as it did. -/
def fnExactBestWeightsSpec : ChangeSpec := { name := "fnExactBestWeights", fn := fun _ => fun
  | [d1, d2, d3] => { results := [.lit (.bool true)], args := [d1, d2, d3] }
  | _ => none }
def fnExactBestWeightsRow : OpenClaim := { program := "ythafmoofemfdmaa", sum := "b2d1501141b35b0f9a0d13451edfff25534154202182b47a839fe0536faeb603", func := "loop.example/lostshares/laws.FnExactBestWeights", spec := "fnExactBestWeights", apart := false }
def FnExactBestWeightsSaid : Prop := fnExactBestWeightsRow.holds Try.pinned (OpenSpec.ofChange fnExactBestWeightsSpec)

/-- ITS FALSE NEIGHBOUR: 'it returns false'. Refute it at one input. -/
def fnExactBestWeightsWrong : ChangeSpec := { name := "fnExactBestWeights", fn := fun _ => fun
  | [d1, d2, d3] => { results := [.lit (.bool false)], args := [d1, d2, d3] }
  | _ => none }
def FnExactBestWeightsWrongFalsely : Prop := fnExactBestWeightsRow.holds Try.pinned (OpenSpec.ofChange fnExactBestWeightsWrong)

/-- 'laws.FnBestWeights': WHATEVER THE INPUT: true; the input reads as it did. -/
def fnBestWeightsSpec : ChangeSpec := { name := "fnBestWeights", fn := fun _ => fun
  | [d] => { results := [.lit (.bool true)], args := [d] }
  | _ => none }
def fnBestWeightsRow : OpenClaim := { program := "ythafmoofemfdmaa", sum := "b2d1501141b35b0f9a0d13451edfff25534154202182b47a839fe0536faeb603", func := "loop.example/lostshares/laws.FnBestWeights", spec := "fnBestWeights", apart := false }
def FnBestWeightsSaid : Prop := fnBestWeightsRow.holds Try.pinned (OpenSpec.ofChange fnBestWeightsSpec)

/-- ITS FALSE NEIGHBOUR: 'it returns false'. Refute it at one input. -/
def fnBestWeightsWrong : ChangeSpec := { name := "fnBestWeights", fn := fun _ => fun
  | [d] => { results := [.lit (.bool false)], args := [d] }
  | _ => none }
def FnBestWeightsWrongFalsely : Prop := fnBestWeightsRow.holds Try.pinned (OpenSpec.ofChange fnBestWeightsWrong)

/-- 'laws.FnExactValidTable': WHATEVER THE INPUT: true; the input reads as it did. -/
def fnExactValidTableSpec : ChangeSpec := { name := "fnExactValidTable", fn := fun _ => fun
  | [d1, d2] => { results := [.lit (.bool true)], args := [d1, d2] }
  | _ => none }
def fnExactValidTableRow : OpenClaim := { program := "ythafmoofemfdmaa", sum := "b2d1501141b35b0f9a0d13451edfff25534154202182b47a839fe0536faeb603", func := "loop.example/lostshares/laws.FnExactValidTable", spec := "fnExactValidTable", unfollowed := true, recurses := true, apart := false }
def FnExactValidTableSaid : Prop := fnExactValidTableRow.holds Try.pinned (OpenSpec.ofChange fnExactValidTableSpec)

/-- ITS FALSE NEIGHBOUR: 'it returns false'. Refute it at one input. -/
def fnExactValidTableWrong : ChangeSpec := { name := "fnExactValidTable", fn := fun _ => fun
  | [d1, d2] => { results := [.lit (.bool false)], args := [d1, d2] }
  | _ => none }
def FnExactValidTableWrongFalsely : Prop := fnExactValidTableRow.holds Try.pinned (OpenSpec.ofChange fnExactValidTableWrong)

/-- 'laws.FnValidTable': WHATEVER THE INPUT: true; the input reads as it did. -/
def fnValidTableSpec : ChangeSpec := { name := "fnValidTable", fn := fun _ => fun
  | [d] => { results := [.lit (.bool true)], args := [d] }
  | _ => none }
def fnValidTableRow : OpenClaim := { program := "ythafmoofemfdmaa", sum := "b2d1501141b35b0f9a0d13451edfff25534154202182b47a839fe0536faeb603", func := "loop.example/lostshares/laws.FnValidTable", spec := "fnValidTable", unfollowed := true, recurses := true, apart := false }
def FnValidTableSaid : Prop := fnValidTableRow.holds Try.pinned (OpenSpec.ofChange fnValidTableSpec)

/-- ITS FALSE NEIGHBOUR: 'it returns false'. Refute it at one input. -/
def fnValidTableWrong : ChangeSpec := { name := "fnValidTable", fn := fun _ => fun
  | [d] => { results := [.lit (.bool false)], args := [d] }
  | _ => none }
def FnValidTableWrongFalsely : Prop := fnValidTableRow.holds Try.pinned (OpenSpec.ofChange fnValidTableWrong)

/-- 'laws.FnExactThresholdOf': WHATEVER THE INPUT: true; the input reads as it did. -/
def fnExactThresholdOfSpec : ChangeSpec := { name := "fnExactThresholdOf", fn := fun _ => fun
  | [d1, d2, d3] => { results := [.lit (.bool true)], args := [d1, d2, d3] }
  | _ => none }
def fnExactThresholdOfRow : OpenClaim := { program := "ythafmoofemfdmaa", sum := "b2d1501141b35b0f9a0d13451edfff25534154202182b47a839fe0536faeb603", func := "loop.example/lostshares/laws.FnExactThresholdOf", spec := "fnExactThresholdOf", apart := false }
def FnExactThresholdOfSaid : Prop := fnExactThresholdOfRow.holds Try.pinned (OpenSpec.ofChange fnExactThresholdOfSpec)

/-- ITS FALSE NEIGHBOUR: 'it returns false'. Refute it at one input. -/
def fnExactThresholdOfWrong : ChangeSpec := { name := "fnExactThresholdOf", fn := fun _ => fun
  | [d1, d2, d3] => { results := [.lit (.bool false)], args := [d1, d2, d3] }
  | _ => none }
def FnExactThresholdOfWrongFalsely : Prop := fnExactThresholdOfRow.holds Try.pinned (OpenSpec.ofChange fnExactThresholdOfWrong)

/-- 'laws.FnThresholdOf': WHATEVER THE INPUT: true; the input reads as it did. -/
def fnThresholdOfSpec : ChangeSpec := { name := "fnThresholdOf", fn := fun _ => fun
  | [d] => { results := [.lit (.bool true)], args := [d] }
  | _ => none }
def fnThresholdOfRow : OpenClaim := { program := "ythafmoofemfdmaa", sum := "b2d1501141b35b0f9a0d13451edfff25534154202182b47a839fe0536faeb603", func := "loop.example/lostshares/laws.FnThresholdOf", spec := "fnThresholdOf", unfollowed := true, recurses := true, apart := false }
def FnThresholdOfSaid : Prop := fnThresholdOfRow.holds Try.pinned (OpenSpec.ofChange fnThresholdOfSpec)

/-- ITS FALSE NEIGHBOUR: 'it returns false'. Refute it at one input. -/
def fnThresholdOfWrong : ChangeSpec := { name := "fnThresholdOf", fn := fun _ => fun
  | [d] => { results := [.lit (.bool false)], args := [d] }
  | _ => none }
def FnThresholdOfWrongFalsely : Prop := fnThresholdOfRow.holds Try.pinned (OpenSpec.ofChange fnThresholdOfWrong)

/-- 'laws.FnValidScheme': WHATEVER THE INPUT: true; the input reads as it did. -/
def fnValidSchemeSpec : ChangeSpec := { name := "fnValidScheme", fn := fun _ => fun
  | [d] => { results := [.lit (.bool true)], args := [d] }
  | _ => none }
def fnValidSchemeRow : OpenClaim := { program := "ythafmoofemfdmaa", sum := "b2d1501141b35b0f9a0d13451edfff25534154202182b47a839fe0536faeb603", func := "loop.example/lostshares/laws.FnValidScheme", spec := "fnValidScheme", unfollowed := true, recurses := true, apart := false }
def FnValidSchemeSaid : Prop := fnValidSchemeRow.holds Try.pinned (OpenSpec.ofChange fnValidSchemeSpec)

/-- ITS FALSE NEIGHBOUR: 'it returns false'. Refute it at one input. -/
def fnValidSchemeWrong : ChangeSpec := { name := "fnValidScheme", fn := fun _ => fun
  | [d] => { results := [.lit (.bool false)], args := [d] }
  | _ => none }
def FnValidSchemeWrongFalsely : Prop := fnValidSchemeRow.holds Try.pinned (OpenSpec.ofChange fnValidSchemeWrong)

/-- 'laws.FnExactValidScheme': WHATEVER THE INPUT: true; the input reads as it did. -/
def fnExactValidSchemeSpec : ChangeSpec := { name := "fnExactValidScheme", fn := fun _ => fun
  | [d] => { results := [.lit (.bool true)], args := [d] }
  | _ => none }
def fnExactValidSchemeRow : OpenClaim := { program := "ythafmoofemfdmaa", sum := "b2d1501141b35b0f9a0d13451edfff25534154202182b47a839fe0536faeb603", func := "loop.example/lostshares/laws.FnExactValidScheme", spec := "fnExactValidScheme", unfollowed := true, recurses := true, apart := false }
def FnExactValidSchemeSaid : Prop := fnExactValidSchemeRow.holds Try.pinned (OpenSpec.ofChange fnExactValidSchemeSpec)

/-- ITS FALSE NEIGHBOUR: 'it returns false'. Refute it at one input. -/
def fnExactValidSchemeWrong : ChangeSpec := { name := "fnExactValidScheme", fn := fun _ => fun
  | [d] => { results := [.lit (.bool false)], args := [d] }
  | _ => none }
def FnExactValidSchemeWrongFalsely : Prop := fnExactValidSchemeRow.holds Try.pinned (OpenSpec.ofChange fnExactValidSchemeWrong)

/-- 'laws.FnExactPowersOf': WHATEVER THE INPUT: true; the input reads as it did. -/
def fnExactPowersOfSpec : ChangeSpec := { name := "fnExactPowersOf", fn := fun _ => fun
  | [d1, d2, d3] => { results := [.lit (.bool true)], args := [d1, d2, d3] }
  | _ => none }
def fnExactPowersOfRow : OpenClaim := { program := "ythafmoofemfdmaa", sum := "b2d1501141b35b0f9a0d13451edfff25534154202182b47a839fe0536faeb603", func := "loop.example/lostshares/laws.FnExactPowersOf", spec := "fnExactPowersOf", unfollowed := true, recurses := true, apart := false }
def FnExactPowersOfSaid : Prop := fnExactPowersOfRow.holds Try.pinned (OpenSpec.ofChange fnExactPowersOfSpec)

/-- ITS FALSE NEIGHBOUR: 'it returns false'. Refute it at one input. -/
def fnExactPowersOfWrong : ChangeSpec := { name := "fnExactPowersOf", fn := fun _ => fun
  | [d1, d2, d3] => { results := [.lit (.bool false)], args := [d1, d2, d3] }
  | _ => none }
def FnExactPowersOfWrongFalsely : Prop := fnExactPowersOfRow.holds Try.pinned (OpenSpec.ofChange fnExactPowersOfWrong)

/-- 'laws.FnExactQuotientsOf': WHATEVER THE INPUT: true; the input reads as it did. -/
def fnExactQuotientsOfSpec : ChangeSpec := { name := "fnExactQuotientsOf", fn := fun _ => fun
  | [d1, d2, d3] => { results := [.lit (.bool true)], args := [d1, d2, d3] }
  | _ => none }
def fnExactQuotientsOfRow : OpenClaim := { program := "ythafmoofemfdmaa", sum := "b2d1501141b35b0f9a0d13451edfff25534154202182b47a839fe0536faeb603", func := "loop.example/lostshares/laws.FnExactQuotientsOf", spec := "fnExactQuotientsOf", unfollowed := true, recurses := true, apart := false }
def FnExactQuotientsOfSaid : Prop := fnExactQuotientsOfRow.holds Try.pinned (OpenSpec.ofChange fnExactQuotientsOfSpec)

/-- ITS FALSE NEIGHBOUR: 'it returns false'. Refute it at one input. -/
def fnExactQuotientsOfWrong : ChangeSpec := { name := "fnExactQuotientsOf", fn := fun _ => fun
  | [d1, d2, d3] => { results := [.lit (.bool false)], args := [d1, d2, d3] }
  | _ => none }
def FnExactQuotientsOfWrongFalsely : Prop := fnExactQuotientsOfRow.holds Try.pinned (OpenSpec.ofChange fnExactQuotientsOfWrong)

/- THE SECOND FORM. 'bulk': how many values and letters a reading holds, each counted each time it is reached (what is shared counts as often as it is met; a slice's spare places count too). A statement '..UptoSaid' is the law's where the arguments, and the package variables that the reading takes, are together of bulk at most 1048576: NARROWER than '..Said'. Prove '..Said' where nothing that the law and all that it calls make is longer than what came in: it says more and counts as full. Else prove '..UptoSaid'. A law counts once. -/
mutual
def uptoBulk {H : Type} : DataW H → Nat
  | .lit (.string bytes) => bytes.length + 1
  | .lit _ => 1
  | .nil => 1
  | .ptr d => uptoBulk d + 1
  | .slice elems spare => uptoBulkAll elems + uptoBulkAll spare + 1
  | .agg parts => uptoBulkAll parts + 1
  | .iface _ d => uptoBulk d + 1
  | .map entries => uptoBulkEntries entries + 1
  | .held _ => 1
def uptoBulkAll {H : Type} : List (DataW H) → Nat
  | [] => 0
  | d :: r => uptoBulk d + uptoBulkAll r
def uptoBulkEntries {H : Type} : List (Lit × DataW H) → Nat
  | [] => 0
  | x :: r => uptoBulkEntry x + uptoBulkEntries r
def uptoBulkEntry {H : Type} : Lit × DataW H → Nat
  | (.string bytes, d) => bytes.length + uptoBulk d + 1
  | (_, d) => uptoBulk d + 1
 end
def uptoSmall : (H : Type) → List (DataW H) → Bool := fun _ ds => decide (uptoBulkAll ds ≤ 1048576)
def OpenSpec.upto (s : _root_.Go.ChangeSpec) : _root_.Go.OpenSpec := { _root_.Go.OpenSpec.ofChange s with cond := some uptoSmall }

/-- 'laws.FnExactInverseOf', WHERE WHAT IT READS IS OF BULK AT MOST 1048576: true; the input reads as it did. -/
def fnExactInverseOfUptoRow : OpenClaim := { program := "ythafmoofemfdmaa", sum := "b2d1501141b35b0f9a0d13451edfff25534154202182b47a839fe0536faeb603", func := "loop.example/lostshares/laws.FnExactInverseOf", spec := "fnExactInverseOf", apart := false, narrowed := true }
def FnExactInverseOfUptoSaid : Prop := fnExactInverseOfUptoRow.holds Try.pinned (OpenSpec.upto fnExactInverseOfSpec)

/-- 'laws.FnInverseOf', WHERE WHAT IT READS IS OF BULK AT MOST 1048576: true; the input reads as it did. -/
def fnInverseOfUptoRow : OpenClaim := { program := "ythafmoofemfdmaa", sum := "b2d1501141b35b0f9a0d13451edfff25534154202182b47a839fe0536faeb603", func := "loop.example/lostshares/laws.FnInverseOf", spec := "fnInverseOf", apart := false, narrowed := true }
def FnInverseOfUptoSaid : Prop := fnInverseOfUptoRow.holds Try.pinned (OpenSpec.upto fnInverseOfSpec)

/-- 'laws.FnExactBestWeights', WHERE WHAT IT READS IS OF BULK AT MOST 1048576: true; the input reads as it did. -/
def fnExactBestWeightsUptoRow : OpenClaim := { program := "ythafmoofemfdmaa", sum := "b2d1501141b35b0f9a0d13451edfff25534154202182b47a839fe0536faeb603", func := "loop.example/lostshares/laws.FnExactBestWeights", spec := "fnExactBestWeights", apart := false, narrowed := true }
def FnExactBestWeightsUptoSaid : Prop := fnExactBestWeightsUptoRow.holds Try.pinned (OpenSpec.upto fnExactBestWeightsSpec)

/-- 'laws.FnBestWeights', WHERE WHAT IT READS IS OF BULK AT MOST 1048576: true; the input reads as it did. -/
def fnBestWeightsUptoRow : OpenClaim := { program := "ythafmoofemfdmaa", sum := "b2d1501141b35b0f9a0d13451edfff25534154202182b47a839fe0536faeb603", func := "loop.example/lostshares/laws.FnBestWeights", spec := "fnBestWeights", apart := false, narrowed := true }
def FnBestWeightsUptoSaid : Prop := fnBestWeightsUptoRow.holds Try.pinned (OpenSpec.upto fnBestWeightsSpec)

/-- 'laws.FnExactValidTable', WHERE WHAT IT READS IS OF BULK AT MOST 1048576: true; the input reads as it did. -/
def fnExactValidTableUptoRow : OpenClaim := { program := "ythafmoofemfdmaa", sum := "b2d1501141b35b0f9a0d13451edfff25534154202182b47a839fe0536faeb603", func := "loop.example/lostshares/laws.FnExactValidTable", spec := "fnExactValidTable", unfollowed := true, recurses := true, apart := false, narrowed := true }
def FnExactValidTableUptoSaid : Prop := fnExactValidTableUptoRow.holds Try.pinned (OpenSpec.upto fnExactValidTableSpec)

/-- 'laws.FnValidTable', WHERE WHAT IT READS IS OF BULK AT MOST 1048576: true; the input reads as it did. -/
def fnValidTableUptoRow : OpenClaim := { program := "ythafmoofemfdmaa", sum := "b2d1501141b35b0f9a0d13451edfff25534154202182b47a839fe0536faeb603", func := "loop.example/lostshares/laws.FnValidTable", spec := "fnValidTable", unfollowed := true, recurses := true, apart := false, narrowed := true }
def FnValidTableUptoSaid : Prop := fnValidTableUptoRow.holds Try.pinned (OpenSpec.upto fnValidTableSpec)

/-- 'laws.FnExactThresholdOf', WHERE WHAT IT READS IS OF BULK AT MOST 1048576: true; the input reads as it did. -/
def fnExactThresholdOfUptoRow : OpenClaim := { program := "ythafmoofemfdmaa", sum := "b2d1501141b35b0f9a0d13451edfff25534154202182b47a839fe0536faeb603", func := "loop.example/lostshares/laws.FnExactThresholdOf", spec := "fnExactThresholdOf", apart := false, narrowed := true }
def FnExactThresholdOfUptoSaid : Prop := fnExactThresholdOfUptoRow.holds Try.pinned (OpenSpec.upto fnExactThresholdOfSpec)

/-- 'laws.FnThresholdOf', WHERE WHAT IT READS IS OF BULK AT MOST 1048576: true; the input reads as it did. -/
def fnThresholdOfUptoRow : OpenClaim := { program := "ythafmoofemfdmaa", sum := "b2d1501141b35b0f9a0d13451edfff25534154202182b47a839fe0536faeb603", func := "loop.example/lostshares/laws.FnThresholdOf", spec := "fnThresholdOf", unfollowed := true, recurses := true, apart := false, narrowed := true }
def FnThresholdOfUptoSaid : Prop := fnThresholdOfUptoRow.holds Try.pinned (OpenSpec.upto fnThresholdOfSpec)

/-- 'laws.FnValidScheme', WHERE WHAT IT READS IS OF BULK AT MOST 1048576: true; the input reads as it did. -/
def fnValidSchemeUptoRow : OpenClaim := { program := "ythafmoofemfdmaa", sum := "b2d1501141b35b0f9a0d13451edfff25534154202182b47a839fe0536faeb603", func := "loop.example/lostshares/laws.FnValidScheme", spec := "fnValidScheme", unfollowed := true, recurses := true, apart := false, narrowed := true }
def FnValidSchemeUptoSaid : Prop := fnValidSchemeUptoRow.holds Try.pinned (OpenSpec.upto fnValidSchemeSpec)

/-- 'laws.FnExactValidScheme', WHERE WHAT IT READS IS OF BULK AT MOST 1048576: true; the input reads as it did. -/
def fnExactValidSchemeUptoRow : OpenClaim := { program := "ythafmoofemfdmaa", sum := "b2d1501141b35b0f9a0d13451edfff25534154202182b47a839fe0536faeb603", func := "loop.example/lostshares/laws.FnExactValidScheme", spec := "fnExactValidScheme", unfollowed := true, recurses := true, apart := false, narrowed := true }
def FnExactValidSchemeUptoSaid : Prop := fnExactValidSchemeUptoRow.holds Try.pinned (OpenSpec.upto fnExactValidSchemeSpec)

/-- 'laws.FnExactPowersOf', WHERE WHAT IT READS IS OF BULK AT MOST 1048576: true; the input reads as it did. -/
def fnExactPowersOfUptoRow : OpenClaim := { program := "ythafmoofemfdmaa", sum := "b2d1501141b35b0f9a0d13451edfff25534154202182b47a839fe0536faeb603", func := "loop.example/lostshares/laws.FnExactPowersOf", spec := "fnExactPowersOf", unfollowed := true, recurses := true, apart := false, narrowed := true }
def FnExactPowersOfUptoSaid : Prop := fnExactPowersOfUptoRow.holds Try.pinned (OpenSpec.upto fnExactPowersOfSpec)

/-- 'laws.FnExactQuotientsOf', WHERE WHAT IT READS IS OF BULK AT MOST 1048576: true; the input reads as it did. -/
def fnExactQuotientsOfUptoRow : OpenClaim := { program := "ythafmoofemfdmaa", sum := "b2d1501141b35b0f9a0d13451edfff25534154202182b47a839fe0536faeb603", func := "loop.example/lostshares/laws.FnExactQuotientsOf", spec := "fnExactQuotientsOf", unfollowed := true, recurses := true, apart := false, narrowed := true }
def FnExactQuotientsOfUptoSaid : Prop := fnExactQuotientsOfUptoRow.holds Try.pinned (OpenSpec.upto fnExactQuotientsOfSpec)

end Rows
end Go.Proofs.Ythafmoofemfdmaa
