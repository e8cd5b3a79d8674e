/-
  No cell of these rows narrows 'for every input' (looked for: loops, veiled, ifaces, maps, wideKeys, modest, calm, conditions, laid).
  DERIVED. THE GIVEN ROWS OF THIS SEAT. 12 by the template 'for every input the law returns true; each argument reads behind the call as it read before'; 0 by the template 'total and deterministic' (their statements: YtfnbnpjedhcmgaaTotals.lean).
  GIVEN WITH THE SEED: the statements are not yours to turn. If you find one false, say at which input.
  Laid BY PROGRAM, IN A SANDBOX (cutbox-rows.mjs): the forced cells as the released guide's own fill.sh prints them over the translation f4bfb577b19d03b6… (all of the seat's roots in one cut). By AI agents, Wed Nov 11 2026. No macro, syntax, notation, axiom, sorry.
-/
import Derived.Test.YtfnbnpjedhcmgaaChecked
import GoSem.Claim
import GoSem.ClaimJoined
import GoSem.ClaimMapViews
import Derived.JoinedTies
import Derived.KernelRfl
namespace Go.Proofs.Ytfnbnpjedhcmgaa
/- THE CELL 'sum', in the pinned program and in every row, IS THE sha256 OF THE DUMP (.gsa) THAT YtfnbnpjedhcmgaaProg.lean LOADS. Nothing in Lean hashes anything: it is a label: what it is worth is what the hold of that sum in a sandbox is worth. -/
noncomputable def Try.pinned : Pinned := { name := "ytfnbnpjedhcmgaa", sum := "f4bfb577b19d03b6689c5f4a6dfe44a4d4f3183666861ea0cf4d42222e0946ab", checked := Try.checked }
namespace Rows
def none {H : Type} : Left H := { results := [], args := [] }

/-- 'laws.FnExactConstants': WHATEVER THE INPUT: true; the input reads as it did. -/
def fnExactConstantsSpec : ChangeSpec := { name := "fnExactConstants", fn := fun _ => fun
  | [] => { results := [.lit (.bool true)], args := [] }
  | _ => none }
def fnExactConstantsRow : OpenClaim := { program := "ytfnbnpjedhcmgaa", sum := "f4bfb577b19d03b6689c5f4a6dfe44a4d4f3183666861ea0cf4d42222e0946ab", func := "loop.example/lostshares/laws.FnExactConstants", spec := "fnExactConstants", apart := false }
def FnExactConstantsSaid : Prop := fnExactConstantsRow.holds Try.pinned (OpenSpec.ofChange fnExactConstantsSpec)

/-- ITS FALSE NEIGHBOUR: 'it returns false'. Refute it at one input. -/
def fnExactConstantsWrong : ChangeSpec := { name := "fnExactConstants", fn := fun _ => fun
  | [] => { results := [.lit (.bool false)], args := [] }
  | _ => none }
def FnExactConstantsWrongFalsely : Prop := fnExactConstantsRow.holds Try.pinned (OpenSpec.ofChange fnExactConstantsWrong)

/-- 'laws.FnExactStuckGrid': WHATEVER THE INPUT: true; the input reads as it did. -/
def fnExactStuckGridSpec : ChangeSpec := { name := "fnExactStuckGrid", fn := fun _ => fun
  | [d1, d2, d3, d4] => { results := [.lit (.bool true)], args := [d1, d2, d3, d4] }
  | _ => none }
def fnExactStuckGridRow : OpenClaim := { program := "ytfnbnpjedhcmgaa", sum := "f4bfb577b19d03b6689c5f4a6dfe44a4d4f3183666861ea0cf4d42222e0946ab", func := "loop.example/lostshares/laws.FnExactStuckGrid", spec := "fnExactStuckGrid", apart := false }
def FnExactStuckGridSaid : Prop := fnExactStuckGridRow.holds Try.pinned (OpenSpec.ofChange fnExactStuckGridSpec)

/-- ITS FALSE NEIGHBOUR: 'it returns false'. Refute it at one input. -/
def fnExactStuckGridWrong : ChangeSpec := { name := "fnExactStuckGrid", fn := fun _ => fun
  | [d1, d2, d3, d4] => { results := [.lit (.bool false)], args := [d1, d2, d3, d4] }
  | _ => none }
def FnExactStuckGridWrongFalsely : Prop := fnExactStuckGridRow.holds Try.pinned (OpenSpec.ofChange fnExactStuckGridWrong)

/-- 'laws.FnExactValidStore': WHATEVER THE INPUT: true; the input reads as it did. -/
def fnExactValidStoreSpec : ChangeSpec := { name := "fnExactValidStore", fn := fun _ => fun
  | [d] => { results := [.lit (.bool true)], args := [d] }
  | _ => none }
def fnExactValidStoreRow : OpenClaim := { program := "ytfnbnpjedhcmgaa", sum := "f4bfb577b19d03b6689c5f4a6dfe44a4d4f3183666861ea0cf4d42222e0946ab", func := "loop.example/lostshares/laws.FnExactValidStore", spec := "fnExactValidStore", apart := false }
def FnExactValidStoreSaid : Prop := fnExactValidStoreRow.holds Try.pinned (OpenSpec.ofChange fnExactValidStoreSpec)

/-- ITS FALSE NEIGHBOUR: 'it returns false'. Refute it at one input. -/
def fnExactValidStoreWrong : ChangeSpec := { name := "fnExactValidStore", fn := fun _ => fun
  | [d] => { results := [.lit (.bool false)], args := [d] }
  | _ => none }
def FnExactValidStoreWrongFalsely : Prop := fnExactValidStoreRow.holds Try.pinned (OpenSpec.ofChange fnExactValidStoreWrong)

/-- 'laws.FnExactCapacityOf': WHATEVER THE INPUT: true; the input reads as it did. -/
def fnExactCapacityOfSpec : ChangeSpec := { name := "fnExactCapacityOf", fn := fun _ => fun
  | [d] => { results := [.lit (.bool true)], args := [d] }
  | _ => none }
def fnExactCapacityOfRow : OpenClaim := { program := "ytfnbnpjedhcmgaa", sum := "f4bfb577b19d03b6689c5f4a6dfe44a4d4f3183666861ea0cf4d42222e0946ab", func := "loop.example/lostshares/laws.FnExactCapacityOf", spec := "fnExactCapacityOf", apart := false }
def FnExactCapacityOfSaid : Prop := fnExactCapacityOfRow.holds Try.pinned (OpenSpec.ofChange fnExactCapacityOfSpec)

/-- ITS FALSE NEIGHBOUR: 'it returns false'. Refute it at one input. -/
def fnExactCapacityOfWrong : ChangeSpec := { name := "fnExactCapacityOf", fn := fun _ => fun
  | [d] => { results := [.lit (.bool false)], args := [d] }
  | _ => none }
def FnExactCapacityOfWrongFalsely : Prop := fnExactCapacityOfRow.holds Try.pinned (OpenSpec.ofChange fnExactCapacityOfWrong)

/-- 'laws.FnValidStore': WHATEVER THE INPUT: true; the input reads as it did. -/
def fnValidStoreSpec : ChangeSpec := { name := "fnValidStore", fn := fun _ => fun
  | [d] => { results := [.lit (.bool true)], args := [d] }
  | _ => none }
def fnValidStoreRow : OpenClaim := { program := "ytfnbnpjedhcmgaa", sum := "f4bfb577b19d03b6689c5f4a6dfe44a4d4f3183666861ea0cf4d42222e0946ab", func := "loop.example/lostshares/laws.FnValidStore", spec := "fnValidStore", apart := false }
def FnValidStoreSaid : Prop := fnValidStoreRow.holds Try.pinned (OpenSpec.ofChange fnValidStoreSpec)

/-- ITS FALSE NEIGHBOUR: 'it returns false'. Refute it at one input. -/
def fnValidStoreWrong : ChangeSpec := { name := "fnValidStore", fn := fun _ => fun
  | [d] => { results := [.lit (.bool false)], args := [d] }
  | _ => none }
def FnValidStoreWrongFalsely : Prop := fnValidStoreRow.holds Try.pinned (OpenSpec.ofChange fnValidStoreWrong)

/-- 'laws.FnExactEdgesOf': WHATEVER THE INPUT: true; the input reads as it did. -/
def fnExactEdgesOfSpec : ChangeSpec := { name := "fnExactEdgesOf", fn := fun _ => fun
  | [d] => { results := [.lit (.bool true)], args := [d] }
  | _ => none }
def fnExactEdgesOfRow : OpenClaim := { program := "ytfnbnpjedhcmgaa", sum := "f4bfb577b19d03b6689c5f4a6dfe44a4d4f3183666861ea0cf4d42222e0946ab", func := "loop.example/lostshares/laws.FnExactEdgesOf", spec := "fnExactEdgesOf", apart := false }
def FnExactEdgesOfSaid : Prop := fnExactEdgesOfRow.holds Try.pinned (OpenSpec.ofChange fnExactEdgesOfSpec)

/-- ITS FALSE NEIGHBOUR: 'it returns false'. Refute it at one input. -/
def fnExactEdgesOfWrong : ChangeSpec := { name := "fnExactEdgesOf", fn := fun _ => fun
  | [d] => { results := [.lit (.bool false)], args := [d] }
  | _ => none }
def FnExactEdgesOfWrongFalsely : Prop := fnExactEdgesOfRow.holds Try.pinned (OpenSpec.ofChange fnExactEdgesOfWrong)

/-- 'laws.FnExactLeastKept': WHATEVER THE INPUT: true; the input reads as it did. -/
def fnExactLeastKeptSpec : ChangeSpec := { name := "fnExactLeastKept", fn := fun _ => fun
  | [d1, d2] => { results := [.lit (.bool true)], args := [d1, d2] }
  | _ => none }
def fnExactLeastKeptRow : OpenClaim := { program := "ytfnbnpjedhcmgaa", sum := "f4bfb577b19d03b6689c5f4a6dfe44a4d4f3183666861ea0cf4d42222e0946ab", func := "loop.example/lostshares/laws.FnExactLeastKept", spec := "fnExactLeastKept", unfollowed := true, recurses := true, apart := false }
def FnExactLeastKeptSaid : Prop := fnExactLeastKeptRow.holds Try.pinned (OpenSpec.ofChange fnExactLeastKeptSpec)

/-- ITS FALSE NEIGHBOUR: 'it returns false'. Refute it at one input. -/
def fnExactLeastKeptWrong : ChangeSpec := { name := "fnExactLeastKept", fn := fun _ => fun
  | [d1, d2] => { results := [.lit (.bool false)], args := [d1, d2] }
  | _ => none }
def FnExactLeastKeptWrongFalsely : Prop := fnExactLeastKeptRow.holds Try.pinned (OpenSpec.ofChange fnExactLeastKeptWrong)

/-- 'laws.FnExactLeastSent': WHATEVER THE INPUT: true; the input reads as it did. -/
def fnExactLeastSentSpec : ChangeSpec := { name := "fnExactLeastSent", fn := fun _ => fun
  | [d1, d2] => { results := [.lit (.bool true)], args := [d1, d2] }
  | _ => none }
def fnExactLeastSentRow : OpenClaim := { program := "ytfnbnpjedhcmgaa", sum := "f4bfb577b19d03b6689c5f4a6dfe44a4d4f3183666861ea0cf4d42222e0946ab", func := "loop.example/lostshares/laws.FnExactLeastSent", spec := "fnExactLeastSent", unfollowed := true, recurses := true, apart := false }
def FnExactLeastSentSaid : Prop := fnExactLeastSentRow.holds Try.pinned (OpenSpec.ofChange fnExactLeastSentSpec)

/-- ITS FALSE NEIGHBOUR: 'it returns false'. Refute it at one input. -/
def fnExactLeastSentWrong : ChangeSpec := { name := "fnExactLeastSent", fn := fun _ => fun
  | [d1, d2] => { results := [.lit (.bool false)], args := [d1, d2] }
  | _ => none }
def FnExactLeastSentWrongFalsely : Prop := fnExactLeastSentRow.holds Try.pinned (OpenSpec.ofChange fnExactLeastSentWrong)

/-- 'laws.FnCapacityOf': WHATEVER THE INPUT: true; the input reads as it did. -/
def fnCapacityOfSpec : ChangeSpec := { name := "fnCapacityOf", fn := fun _ => fun
  | [d] => { results := [.lit (.bool true)], args := [d] }
  | _ => none }
def fnCapacityOfRow : OpenClaim := { program := "ytfnbnpjedhcmgaa", sum := "f4bfb577b19d03b6689c5f4a6dfe44a4d4f3183666861ea0cf4d42222e0946ab", func := "loop.example/lostshares/laws.FnCapacityOf", spec := "fnCapacityOf", apart := false }
def FnCapacityOfSaid : Prop := fnCapacityOfRow.holds Try.pinned (OpenSpec.ofChange fnCapacityOfSpec)

/-- ITS FALSE NEIGHBOUR: 'it returns false'. Refute it at one input. -/
def fnCapacityOfWrong : ChangeSpec := { name := "fnCapacityOf", fn := fun _ => fun
  | [d] => { results := [.lit (.bool false)], args := [d] }
  | _ => none }
def FnCapacityOfWrongFalsely : Prop := fnCapacityOfRow.holds Try.pinned (OpenSpec.ofChange fnCapacityOfWrong)

/-- 'laws.FnLeastKept': WHATEVER THE INPUT: true; the input reads as it did. -/
def fnLeastKeptSpec : ChangeSpec := { name := "fnLeastKept", fn := fun _ => fun
  | [d] => { results := [.lit (.bool true)], args := [d] }
  | _ => none }
def fnLeastKeptRow : OpenClaim := { program := "ytfnbnpjedhcmgaa", sum := "f4bfb577b19d03b6689c5f4a6dfe44a4d4f3183666861ea0cf4d42222e0946ab", func := "loop.example/lostshares/laws.FnLeastKept", spec := "fnLeastKept", unfollowed := true, recurses := true, apart := false }
def FnLeastKeptSaid : Prop := fnLeastKeptRow.holds Try.pinned (OpenSpec.ofChange fnLeastKeptSpec)

/-- ITS FALSE NEIGHBOUR: 'it returns false'. Refute it at one input. -/
def fnLeastKeptWrong : ChangeSpec := { name := "fnLeastKept", fn := fun _ => fun
  | [d] => { results := [.lit (.bool false)], args := [d] }
  | _ => none }
def FnLeastKeptWrongFalsely : Prop := fnLeastKeptRow.holds Try.pinned (OpenSpec.ofChange fnLeastKeptWrong)

/-- 'laws.FnLeastSent': WHATEVER THE INPUT: true; the input reads as it did. -/
def fnLeastSentSpec : ChangeSpec := { name := "fnLeastSent", fn := fun _ => fun
  | [d] => { results := [.lit (.bool true)], args := [d] }
  | _ => none }
def fnLeastSentRow : OpenClaim := { program := "ytfnbnpjedhcmgaa", sum := "f4bfb577b19d03b6689c5f4a6dfe44a4d4f3183666861ea0cf4d42222e0946ab", func := "loop.example/lostshares/laws.FnLeastSent", spec := "fnLeastSent", unfollowed := true, recurses := true, apart := false }
def FnLeastSentSaid : Prop := fnLeastSentRow.holds Try.pinned (OpenSpec.ofChange fnLeastSentSpec)

/-- ITS FALSE NEIGHBOUR: 'it returns false'. Refute it at one input. -/
def fnLeastSentWrong : ChangeSpec := { name := "fnLeastSent", fn := fun _ => fun
  | [d] => { results := [.lit (.bool false)], args := [d] }
  | _ => none }
def FnLeastSentWrongFalsely : Prop := fnLeastSentRow.holds Try.pinned (OpenSpec.ofChange fnLeastSentWrong)

/-- 'laws.FnEdgesOf': WHATEVER THE INPUT: true; the input reads as it did. -/
def fnEdgesOfSpec : ChangeSpec := { name := "fnEdgesOf", fn := fun _ => fun
  | [d] => { results := [.lit (.bool true)], args := [d] }
  | _ => none }
def fnEdgesOfRow : OpenClaim := { program := "ytfnbnpjedhcmgaa", sum := "f4bfb577b19d03b6689c5f4a6dfe44a4d4f3183666861ea0cf4d42222e0946ab", func := "loop.example/lostshares/laws.FnEdgesOf", spec := "fnEdgesOf", unfollowed := true, recurses := true, apart := false }
def FnEdgesOfSaid : Prop := fnEdgesOfRow.holds Try.pinned (OpenSpec.ofChange fnEdgesOfSpec)

/-- ITS FALSE NEIGHBOUR: 'it returns false'. Refute it at one input. -/
def fnEdgesOfWrong : ChangeSpec := { name := "fnEdgesOf", fn := fun _ => fun
  | [d] => { results := [.lit (.bool false)], args := [d] }
  | _ => none }
def FnEdgesOfWrongFalsely : Prop := fnEdgesOfRow.holds Try.pinned (OpenSpec.ofChange fnEdgesOfWrong)

/- THE SECOND FORM. 'bulk': how many values and letters a reading holds, each counted each time it is reached (what is shared counts as often as it is met; a slice's spare places count too). A statement '..UptoSaid' is the law's where the arguments, and the package variables that the reading takes, are together of bulk at most 1048576: NARROWER than '..Said'. Prove '..Said' where nothing that the law and all that it calls make is longer than what came in: it says more and counts as full. Else prove '..UptoSaid'. A law counts once. -/
mutual
def uptoBulk {H : Type} : DataW H → Nat
  | .lit (.string bytes) => bytes.length + 1
  | .lit _ => 1
  | .nil => 1
  | .ptr d => uptoBulk d + 1
  | .slice elems spare => uptoBulkAll elems + uptoBulkAll spare + 1
  | .agg parts => uptoBulkAll parts + 1
  | .iface _ d => uptoBulk d + 1
  | .map entries => uptoBulkEntries entries + 1
  | .held _ => 1
def uptoBulkAll {H : Type} : List (DataW H) → Nat
  | [] => 0
  | d :: r => uptoBulk d + uptoBulkAll r
def uptoBulkEntries {H : Type} : List (Lit × DataW H) → Nat
  | [] => 0
  | x :: r => uptoBulkEntry x + uptoBulkEntries r
def uptoBulkEntry {H : Type} : Lit × DataW H → Nat
  | (.string bytes, d) => bytes.length + uptoBulk d + 1
  | (_, d) => uptoBulk d + 1
 end
def uptoSmall : (H : Type) → List (DataW H) → Bool := fun _ ds => decide (uptoBulkAll ds ≤ 1048576)
def OpenSpec.upto (s : _root_.Go.ChangeSpec) : _root_.Go.OpenSpec := { _root_.Go.OpenSpec.ofChange s with cond := some uptoSmall }

/-- 'laws.FnExactConstants', WHERE WHAT IT READS IS OF BULK AT MOST 1048576: true; the input reads as it did. -/
def fnExactConstantsUptoRow : OpenClaim := { program := "ytfnbnpjedhcmgaa", sum := "f4bfb577b19d03b6689c5f4a6dfe44a4d4f3183666861ea0cf4d42222e0946ab", func := "loop.example/lostshares/laws.FnExactConstants", spec := "fnExactConstants", apart := false, narrowed := true }
def FnExactConstantsUptoSaid : Prop := fnExactConstantsUptoRow.holds Try.pinned (OpenSpec.upto fnExactConstantsSpec)

/-- 'laws.FnExactStuckGrid', WHERE WHAT IT READS IS OF BULK AT MOST 1048576: true; the input reads as it did. -/
def fnExactStuckGridUptoRow : OpenClaim := { program := "ytfnbnpjedhcmgaa", sum := "f4bfb577b19d03b6689c5f4a6dfe44a4d4f3183666861ea0cf4d42222e0946ab", func := "loop.example/lostshares/laws.FnExactStuckGrid", spec := "fnExactStuckGrid", apart := false, narrowed := true }
def FnExactStuckGridUptoSaid : Prop := fnExactStuckGridUptoRow.holds Try.pinned (OpenSpec.upto fnExactStuckGridSpec)

/-- 'laws.FnExactValidStore', WHERE WHAT IT READS IS OF BULK AT MOST 1048576: true; the input reads as it did. -/
def fnExactValidStoreUptoRow : OpenClaim := { program := "ytfnbnpjedhcmgaa", sum := "f4bfb577b19d03b6689c5f4a6dfe44a4d4f3183666861ea0cf4d42222e0946ab", func := "loop.example/lostshares/laws.FnExactValidStore", spec := "fnExactValidStore", apart := false, narrowed := true }
def FnExactValidStoreUptoSaid : Prop := fnExactValidStoreUptoRow.holds Try.pinned (OpenSpec.upto fnExactValidStoreSpec)

/-- 'laws.FnExactCapacityOf', WHERE WHAT IT READS IS OF BULK AT MOST 1048576: true; the input reads as it did. -/
def fnExactCapacityOfUptoRow : OpenClaim := { program := "ytfnbnpjedhcmgaa", sum := "f4bfb577b19d03b6689c5f4a6dfe44a4d4f3183666861ea0cf4d42222e0946ab", func := "loop.example/lostshares/laws.FnExactCapacityOf", spec := "fnExactCapacityOf", apart := false, narrowed := true }
def FnExactCapacityOfUptoSaid : Prop := fnExactCapacityOfUptoRow.holds Try.pinned (OpenSpec.upto fnExactCapacityOfSpec)

/-- 'laws.FnValidStore', WHERE WHAT IT READS IS OF BULK AT MOST 1048576: true; the input reads as it did. -/
def fnValidStoreUptoRow : OpenClaim := { program := "ytfnbnpjedhcmgaa", sum := "f4bfb577b19d03b6689c5f4a6dfe44a4d4f3183666861ea0cf4d42222e0946ab", func := "loop.example/lostshares/laws.FnValidStore", spec := "fnValidStore", apart := false, narrowed := true }
def FnValidStoreUptoSaid : Prop := fnValidStoreUptoRow.holds Try.pinned (OpenSpec.upto fnValidStoreSpec)

/-- 'laws.FnExactEdgesOf', WHERE WHAT IT READS IS OF BULK AT MOST 1048576: true; the input reads as it did. -/
def fnExactEdgesOfUptoRow : OpenClaim := { program := "ytfnbnpjedhcmgaa", sum := "f4bfb577b19d03b6689c5f4a6dfe44a4d4f3183666861ea0cf4d42222e0946ab", func := "loop.example/lostshares/laws.FnExactEdgesOf", spec := "fnExactEdgesOf", apart := false, narrowed := true }
def FnExactEdgesOfUptoSaid : Prop := fnExactEdgesOfUptoRow.holds Try.pinned (OpenSpec.upto fnExactEdgesOfSpec)

/-- 'laws.FnExactLeastKept', WHERE WHAT IT READS IS OF BULK AT MOST 1048576: true; the input reads as it did. -/
def fnExactLeastKeptUptoRow : OpenClaim := { program := "ytfnbnpjedhcmgaa", sum := "f4bfb577b19d03b6689c5f4a6dfe44a4d4f3183666861ea0cf4d42222e0946ab", func := "loop.example/lostshares/laws.FnExactLeastKept", spec := "fnExactLeastKept", unfollowed := true, recurses := true, apart := false, narrowed := true }
def FnExactLeastKeptUptoSaid : Prop := fnExactLeastKeptUptoRow.holds Try.pinned (OpenSpec.upto fnExactLeastKeptSpec)

/-- 'laws.FnExactLeastSent', WHERE WHAT IT READS IS OF BULK AT MOST 1048576: true; the input reads as it did. -/
def fnExactLeastSentUptoRow : OpenClaim := { program := "ytfnbnpjedhcmgaa", sum := "f4bfb577b19d03b6689c5f4a6dfe44a4d4f3183666861ea0cf4d42222e0946ab", func := "loop.example/lostshares/laws.FnExactLeastSent", spec := "fnExactLeastSent", unfollowed := true, recurses := true, apart := false, narrowed := true }
def FnExactLeastSentUptoSaid : Prop := fnExactLeastSentUptoRow.holds Try.pinned (OpenSpec.upto fnExactLeastSentSpec)

/-- 'laws.FnCapacityOf', WHERE WHAT IT READS IS OF BULK AT MOST 1048576: true; the input reads as it did. -/
def fnCapacityOfUptoRow : OpenClaim := { program := "ytfnbnpjedhcmgaa", sum := "f4bfb577b19d03b6689c5f4a6dfe44a4d4f3183666861ea0cf4d42222e0946ab", func := "loop.example/lostshares/laws.FnCapacityOf", spec := "fnCapacityOf", apart := false, narrowed := true }
def FnCapacityOfUptoSaid : Prop := fnCapacityOfUptoRow.holds Try.pinned (OpenSpec.upto fnCapacityOfSpec)

/-- 'laws.FnLeastKept', WHERE WHAT IT READS IS OF BULK AT MOST 1048576: true; the input reads as it did. -/
def fnLeastKeptUptoRow : OpenClaim := { program := "ytfnbnpjedhcmgaa", sum := "f4bfb577b19d03b6689c5f4a6dfe44a4d4f3183666861ea0cf4d42222e0946ab", func := "loop.example/lostshares/laws.FnLeastKept", spec := "fnLeastKept", unfollowed := true, recurses := true, apart := false, narrowed := true }
def FnLeastKeptUptoSaid : Prop := fnLeastKeptUptoRow.holds Try.pinned (OpenSpec.upto fnLeastKeptSpec)

/-- 'laws.FnLeastSent', WHERE WHAT IT READS IS OF BULK AT MOST 1048576: true; the input reads as it did. -/
def fnLeastSentUptoRow : OpenClaim := { program := "ytfnbnpjedhcmgaa", sum := "f4bfb577b19d03b6689c5f4a6dfe44a4d4f3183666861ea0cf4d42222e0946ab", func := "loop.example/lostshares/laws.FnLeastSent", spec := "fnLeastSent", unfollowed := true, recurses := true, apart := false, narrowed := true }
def FnLeastSentUptoSaid : Prop := fnLeastSentUptoRow.holds Try.pinned (OpenSpec.upto fnLeastSentSpec)

/-- 'laws.FnEdgesOf', WHERE WHAT IT READS IS OF BULK AT MOST 1048576: true; the input reads as it did. -/
def fnEdgesOfUptoRow : OpenClaim := { program := "ytfnbnpjedhcmgaa", sum := "f4bfb577b19d03b6689c5f4a6dfe44a4d4f3183666861ea0cf4d42222e0946ab", func := "loop.example/lostshares/laws.FnEdgesOf", spec := "fnEdgesOf", unfollowed := true, recurses := true, apart := false, narrowed := true }
def FnEdgesOfUptoSaid : Prop := fnEdgesOfUptoRow.holds Try.pinned (OpenSpec.upto fnEdgesOfSpec)

end Rows
end Go.Proofs.Ytfnbnpjedhcmgaa
