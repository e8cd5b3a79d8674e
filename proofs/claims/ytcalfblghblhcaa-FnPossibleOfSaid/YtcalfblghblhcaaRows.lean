/-
  No cell of these rows narrows 'for every input' (looked for: loops, veiled, ifaces, maps, wideKeys, modest, calm, conditions, laid).
  DERIVED. THE GIVEN ROWS OF THIS SEAT. 8 by the template 'for every input the law returns true; each argument reads behind the call as it read before'; 0 by the template 'total and deterministic' (their statements: YtcalfblghblhcaaTotals.lean).
  GIVEN WITH THE SEED: the statements are not yours to turn. If you find one false, say at which input.
  Laid BY PROGRAM, IN A SANDBOX (cutbox-rows.mjs): the forced cells as the released guide's own fill.sh prints them over the translation 81a76d32b98cfba2… (all of the seat's roots in one cut). By AI agents, Wed Nov 11 2026. No macro, syntax, notation, axiom, sorry.
-/
import Derived.Test.YtcalfblghblhcaaChecked
import GoSem.Claim
import GoSem.ClaimJoined
import GoSem.ClaimMapViews
import Derived.JoinedTies
import Derived.KernelRfl
namespace Go.Proofs.Ytcalfblghblhcaa
/- THE CELL 'sum', in the pinned program and in every row, IS THE sha256 OF THE DUMP (.gsa) THAT YtcalfblghblhcaaProg.lean LOADS. Nothing in Lean hashes anything: it is a label: what it is worth is what the hold of that sum in a sandbox is worth. -/
noncomputable def Try.pinned : Pinned := { name := "ytcalfblghblhcaa", sum := "81a76d32b98cfba23c8991e2626b743e7ec64e2e7aef2c28f68abae3b46466b9", checked := Try.checked }
namespace Rows
def none {H : Type} : Left H := { results := [], args := [] }

/-- 'laws.FnExactSecretOf': WHATEVER THE INPUT: true; the input reads as it did. -/
def fnExactSecretOfSpec : ChangeSpec := { name := "fnExactSecretOf", fn := fun _ => fun
  | [d1, d2, d3] => { results := [.lit (.bool true)], args := [d1, d2, d3] }
  | _ => none }
def fnExactSecretOfRow : OpenClaim := { program := "ytcalfblghblhcaa", sum := "81a76d32b98cfba23c8991e2626b743e7ec64e2e7aef2c28f68abae3b46466b9", func := "loop.example/lostshares/laws.FnExactSecretOf", spec := "fnExactSecretOf", unfollowed := true, recurses := true, apart := false }
def FnExactSecretOfSaid : Prop := fnExactSecretOfRow.holds Try.pinned (OpenSpec.ofChange fnExactSecretOfSpec)

/-- ITS FALSE NEIGHBOUR: 'it returns false'. Refute it at one input. -/
def fnExactSecretOfWrong : ChangeSpec := { name := "fnExactSecretOf", fn := fun _ => fun
  | [d1, d2, d3] => { results := [.lit (.bool false)], args := [d1, d2, d3] }
  | _ => none }
def FnExactSecretOfWrongFalsely : Prop := fnExactSecretOfRow.holds Try.pinned (OpenSpec.ofChange fnExactSecretOfWrong)

/-- 'laws.FnPossibleOf': WHATEVER THE INPUT: true; the input reads as it did. -/
def fnPossibleOfSpec : ChangeSpec := { name := "fnPossibleOf", fn := fun _ => fun
  | [d] => { results := [.lit (.bool true)], args := [d] }
  | _ => none }
def fnPossibleOfRow : OpenClaim := { program := "ytcalfblghblhcaa", sum := "81a76d32b98cfba23c8991e2626b743e7ec64e2e7aef2c28f68abae3b46466b9", func := "loop.example/lostshares/laws.FnPossibleOf", spec := "fnPossibleOf", unfollowed := true, recurses := true, apart := false }
def FnPossibleOfSaid : Prop := fnPossibleOfRow.holds Try.pinned (OpenSpec.ofChange fnPossibleOfSpec)

/-- ITS FALSE NEIGHBOUR: 'it returns false'. Refute it at one input. -/
def fnPossibleOfWrong : ChangeSpec := { name := "fnPossibleOf", fn := fun _ => fun
  | [d] => { results := [.lit (.bool false)], args := [d] }
  | _ => none }
def FnPossibleOfWrongFalsely : Prop := fnPossibleOfRow.holds Try.pinned (OpenSpec.ofChange fnPossibleOfWrong)

/-- 'laws.FnExactPossibleOf': WHATEVER THE INPUT: true; the input reads as it did. -/
def fnExactPossibleOfSpec : ChangeSpec := { name := "fnExactPossibleOf", fn := fun _ => fun
  | [d1, d2, d3] => { results := [.lit (.bool true)], args := [d1, d2, d3] }
  | _ => none }
def fnExactPossibleOfRow : OpenClaim := { program := "ytcalfblghblhcaa", sum := "81a76d32b98cfba23c8991e2626b743e7ec64e2e7aef2c28f68abae3b46466b9", func := "loop.example/lostshares/laws.FnExactPossibleOf", spec := "fnExactPossibleOf", unfollowed := true, recurses := true, apart := false }
def FnExactPossibleOfSaid : Prop := fnExactPossibleOfRow.holds Try.pinned (OpenSpec.ofChange fnExactPossibleOfSpec)

/-- ITS FALSE NEIGHBOUR: 'it returns false'. Refute it at one input. -/
def fnExactPossibleOfWrong : ChangeSpec := { name := "fnExactPossibleOf", fn := fun _ => fun
  | [d1, d2, d3] => { results := [.lit (.bool false)], args := [d1, d2, d3] }
  | _ => none }
def FnExactPossibleOfWrongFalsely : Prop := fnExactPossibleOfRow.holds Try.pinned (OpenSpec.ofChange fnExactPossibleOfWrong)

/-- 'laws.FnDoesKnow': WHATEVER THE INPUT: true; the input reads as it did. -/
def fnDoesKnowSpec : ChangeSpec := { name := "fnDoesKnow", fn := fun _ => fun
  | [d] => { results := [.lit (.bool true)], args := [d] }
  | _ => none }
def fnDoesKnowRow : OpenClaim := { program := "ytcalfblghblhcaa", sum := "81a76d32b98cfba23c8991e2626b743e7ec64e2e7aef2c28f68abae3b46466b9", func := "loop.example/lostshares/laws.FnDoesKnow", spec := "fnDoesKnow", unfollowed := true, recurses := true, apart := false }
def FnDoesKnowSaid : Prop := fnDoesKnowRow.holds Try.pinned (OpenSpec.ofChange fnDoesKnowSpec)

/-- ITS FALSE NEIGHBOUR: 'it returns false'. Refute it at one input. -/
def fnDoesKnowWrong : ChangeSpec := { name := "fnDoesKnow", fn := fun _ => fun
  | [d] => { results := [.lit (.bool false)], args := [d] }
  | _ => none }
def FnDoesKnowWrongFalsely : Prop := fnDoesKnowRow.holds Try.pinned (OpenSpec.ofChange fnDoesKnowWrong)

/-- 'laws.FnExactDoesKnow': WHATEVER THE INPUT: true; the input reads as it did. -/
def fnExactDoesKnowSpec : ChangeSpec := { name := "fnExactDoesKnow", fn := fun _ => fun
  | [d1, d2] => { results := [.lit (.bool true)], args := [d1, d2] }
  | _ => none }
def fnExactDoesKnowRow : OpenClaim := { program := "ytcalfblghblhcaa", sum := "81a76d32b98cfba23c8991e2626b743e7ec64e2e7aef2c28f68abae3b46466b9", func := "loop.example/lostshares/laws.FnExactDoesKnow", spec := "fnExactDoesKnow", unfollowed := true, recurses := true, apart := false }
def FnExactDoesKnowSaid : Prop := fnExactDoesKnowRow.holds Try.pinned (OpenSpec.ofChange fnExactDoesKnowSpec)

/-- ITS FALSE NEIGHBOUR: 'it returns false'. Refute it at one input. -/
def fnExactDoesKnowWrong : ChangeSpec := { name := "fnExactDoesKnow", fn := fun _ => fun
  | [d1, d2] => { results := [.lit (.bool false)], args := [d1, d2] }
  | _ => none }
def FnExactDoesKnowWrongFalsely : Prop := fnExactDoesKnowRow.holds Try.pinned (OpenSpec.ofChange fnExactDoesKnowWrong)

/-- 'laws.FnExactSharesOf': WHATEVER THE INPUT: true; the input reads as it did. -/
def fnExactSharesOfSpec : ChangeSpec := { name := "fnExactSharesOf", fn := fun _ => fun
  | [d1, d2] => { results := [.lit (.bool true)], args := [d1, d2] }
  | _ => none }
def fnExactSharesOfRow : OpenClaim := { program := "ytcalfblghblhcaa", sum := "81a76d32b98cfba23c8991e2626b743e7ec64e2e7aef2c28f68abae3b46466b9", func := "loop.example/lostshares/laws.FnExactSharesOf", spec := "fnExactSharesOf", unfollowed := true, recurses := true, apart := false }
def FnExactSharesOfSaid : Prop := fnExactSharesOfRow.holds Try.pinned (OpenSpec.ofChange fnExactSharesOfSpec)

/-- ITS FALSE NEIGHBOUR: 'it returns false'. Refute it at one input. -/
def fnExactSharesOfWrong : ChangeSpec := { name := "fnExactSharesOf", fn := fun _ => fun
  | [d1, d2] => { results := [.lit (.bool false)], args := [d1, d2] }
  | _ => none }
def FnExactSharesOfWrongFalsely : Prop := fnExactSharesOfRow.holds Try.pinned (OpenSpec.ofChange fnExactSharesOfWrong)

/-- 'laws.FnSharesOf': WHATEVER THE INPUT: true; the input reads as it did. -/
def fnSharesOfSpec : ChangeSpec := { name := "fnSharesOf", fn := fun _ => fun
  | [d] => { results := [.lit (.bool true)], args := [d] }
  | _ => none }
def fnSharesOfRow : OpenClaim := { program := "ytcalfblghblhcaa", sum := "81a76d32b98cfba23c8991e2626b743e7ec64e2e7aef2c28f68abae3b46466b9", func := "loop.example/lostshares/laws.FnSharesOf", spec := "fnSharesOf", unfollowed := true, recurses := true, apart := false }
def FnSharesOfSaid : Prop := fnSharesOfRow.holds Try.pinned (OpenSpec.ofChange fnSharesOfSpec)

/-- ITS FALSE NEIGHBOUR: 'it returns false'. Refute it at one input. -/
def fnSharesOfWrong : ChangeSpec := { name := "fnSharesOf", fn := fun _ => fun
  | [d] => { results := [.lit (.bool false)], args := [d] }
  | _ => none }
def FnSharesOfWrongFalsely : Prop := fnSharesOfRow.holds Try.pinned (OpenSpec.ofChange fnSharesOfWrong)

/-- 'laws.FnExactSolveRows': WHATEVER THE INPUT: true; the input reads as it did. -/
def fnExactSolveRowsSpec : ChangeSpec := { name := "fnExactSolveRows", fn := fun _ => fun
  | [d1, d2, d3] => { results := [.lit (.bool true)], args := [d1, d2, d3] }
  | _ => none }
def fnExactSolveRowsRow : OpenClaim := { program := "ytcalfblghblhcaa", sum := "81a76d32b98cfba23c8991e2626b743e7ec64e2e7aef2c28f68abae3b46466b9", func := "loop.example/lostshares/laws.FnExactSolveRows", spec := "fnExactSolveRows", unfollowed := true, recurses := true, apart := false }
def FnExactSolveRowsSaid : Prop := fnExactSolveRowsRow.holds Try.pinned (OpenSpec.ofChange fnExactSolveRowsSpec)

/-- ITS FALSE NEIGHBOUR: 'it returns false'. Refute it at one input. -/
def fnExactSolveRowsWrong : ChangeSpec := { name := "fnExactSolveRows", fn := fun _ => fun
  | [d1, d2, d3] => { results := [.lit (.bool false)], args := [d1, d2, d3] }
  | _ => none }
def FnExactSolveRowsWrongFalsely : Prop := fnExactSolveRowsRow.holds Try.pinned (OpenSpec.ofChange fnExactSolveRowsWrong)

/- THE SECOND FORM. 'bulk': how many values and letters a reading holds, each counted each time it is reached (what is shared counts as often as it is met; a slice's spare places count too). A statement '..UptoSaid' is the law's where the arguments, and the package variables that the reading takes, are together of bulk at most 1048576: NARROWER than '..Said'. Prove '..Said' where nothing that the law and all that it calls make is longer than what came in: it says more and counts as full. Else prove '..UptoSaid'. A law counts once. -/
mutual
def uptoBulk {H : Type} : DataW H → Nat
  | .lit (.string bytes) => bytes.length + 1
  | .lit _ => 1
  | .nil => 1
  | .ptr d => uptoBulk d + 1
  | .slice elems spare => uptoBulkAll elems + uptoBulkAll spare + 1
  | .agg parts => uptoBulkAll parts + 1
  | .iface _ d => uptoBulk d + 1
  | .map entries => uptoBulkEntries entries + 1
  | .held _ => 1
def uptoBulkAll {H : Type} : List (DataW H) → Nat
  | [] => 0
  | d :: r => uptoBulk d + uptoBulkAll r
def uptoBulkEntries {H : Type} : List (Lit × DataW H) → Nat
  | [] => 0
  | x :: r => uptoBulkEntry x + uptoBulkEntries r
def uptoBulkEntry {H : Type} : Lit × DataW H → Nat
  | (.string bytes, d) => bytes.length + uptoBulk d + 1
  | (_, d) => uptoBulk d + 1
 end
def uptoSmall : (H : Type) → List (DataW H) → Bool := fun _ ds => decide (uptoBulkAll ds ≤ 1048576)
def OpenSpec.upto (s : _root_.Go.ChangeSpec) : _root_.Go.OpenSpec := { _root_.Go.OpenSpec.ofChange s with cond := some uptoSmall }

/-- 'laws.FnExactSecretOf', WHERE WHAT IT READS IS OF BULK AT MOST 1048576: true; the input reads as it did. -/
def fnExactSecretOfUptoRow : OpenClaim := { program := "ytcalfblghblhcaa", sum := "81a76d32b98cfba23c8991e2626b743e7ec64e2e7aef2c28f68abae3b46466b9", func := "loop.example/lostshares/laws.FnExactSecretOf", spec := "fnExactSecretOf", unfollowed := true, recurses := true, apart := false, narrowed := true }
def FnExactSecretOfUptoSaid : Prop := fnExactSecretOfUptoRow.holds Try.pinned (OpenSpec.upto fnExactSecretOfSpec)

/-- 'laws.FnPossibleOf', WHERE WHAT IT READS IS OF BULK AT MOST 1048576: true; the input reads as it did. -/
def fnPossibleOfUptoRow : OpenClaim := { program := "ytcalfblghblhcaa", sum := "81a76d32b98cfba23c8991e2626b743e7ec64e2e7aef2c28f68abae3b46466b9", func := "loop.example/lostshares/laws.FnPossibleOf", spec := "fnPossibleOf", unfollowed := true, recurses := true, apart := false, narrowed := true }
def FnPossibleOfUptoSaid : Prop := fnPossibleOfUptoRow.holds Try.pinned (OpenSpec.upto fnPossibleOfSpec)

/-- 'laws.FnExactPossibleOf', WHERE WHAT IT READS IS OF BULK AT MOST 1048576: true; the input reads as it did. -/
def fnExactPossibleOfUptoRow : OpenClaim := { program := "ytcalfblghblhcaa", sum := "81a76d32b98cfba23c8991e2626b743e7ec64e2e7aef2c28f68abae3b46466b9", func := "loop.example/lostshares/laws.FnExactPossibleOf", spec := "fnExactPossibleOf", unfollowed := true, recurses := true, apart := false, narrowed := true }
def FnExactPossibleOfUptoSaid : Prop := fnExactPossibleOfUptoRow.holds Try.pinned (OpenSpec.upto fnExactPossibleOfSpec)

/-- 'laws.FnDoesKnow', WHERE WHAT IT READS IS OF BULK AT MOST 1048576: true; the input reads as it did. -/
def fnDoesKnowUptoRow : OpenClaim := { program := "ytcalfblghblhcaa", sum := "81a76d32b98cfba23c8991e2626b743e7ec64e2e7aef2c28f68abae3b46466b9", func := "loop.example/lostshares/laws.FnDoesKnow", spec := "fnDoesKnow", unfollowed := true, recurses := true, apart := false, narrowed := true }
def FnDoesKnowUptoSaid : Prop := fnDoesKnowUptoRow.holds Try.pinned (OpenSpec.upto fnDoesKnowSpec)

/-- 'laws.FnExactDoesKnow', WHERE WHAT IT READS IS OF BULK AT MOST 1048576: true; the input reads as it did. -/
def fnExactDoesKnowUptoRow : OpenClaim := { program := "ytcalfblghblhcaa", sum := "81a76d32b98cfba23c8991e2626b743e7ec64e2e7aef2c28f68abae3b46466b9", func := "loop.example/lostshares/laws.FnExactDoesKnow", spec := "fnExactDoesKnow", unfollowed := true, recurses := true, apart := false, narrowed := true }
def FnExactDoesKnowUptoSaid : Prop := fnExactDoesKnowUptoRow.holds Try.pinned (OpenSpec.upto fnExactDoesKnowSpec)

/-- 'laws.FnExactSharesOf', WHERE WHAT IT READS IS OF BULK AT MOST 1048576: true; the input reads as it did. -/
def fnExactSharesOfUptoRow : OpenClaim := { program := "ytcalfblghblhcaa", sum := "81a76d32b98cfba23c8991e2626b743e7ec64e2e7aef2c28f68abae3b46466b9", func := "loop.example/lostshares/laws.FnExactSharesOf", spec := "fnExactSharesOf", unfollowed := true, recurses := true, apart := false, narrowed := true }
def FnExactSharesOfUptoSaid : Prop := fnExactSharesOfUptoRow.holds Try.pinned (OpenSpec.upto fnExactSharesOfSpec)

/-- 'laws.FnSharesOf', WHERE WHAT IT READS IS OF BULK AT MOST 1048576: true; the input reads as it did. -/
def fnSharesOfUptoRow : OpenClaim := { program := "ytcalfblghblhcaa", sum := "81a76d32b98cfba23c8991e2626b743e7ec64e2e7aef2c28f68abae3b46466b9", func := "loop.example/lostshares/laws.FnSharesOf", spec := "fnSharesOf", unfollowed := true, recurses := true, apart := false, narrowed := true }
def FnSharesOfUptoSaid : Prop := fnSharesOfUptoRow.holds Try.pinned (OpenSpec.upto fnSharesOfSpec)

/-- 'laws.FnExactSolveRows', WHERE WHAT IT READS IS OF BULK AT MOST 1048576: true; the input reads as it did. -/
def fnExactSolveRowsUptoRow : OpenClaim := { program := "ytcalfblghblhcaa", sum := "81a76d32b98cfba23c8991e2626b743e7ec64e2e7aef2c28f68abae3b46466b9", func := "loop.example/lostshares/laws.FnExactSolveRows", spec := "fnExactSolveRows", unfollowed := true, recurses := true, apart := false, narrowed := true }
def FnExactSolveRowsUptoSaid : Prop := fnExactSolveRowsUptoRow.holds Try.pinned (OpenSpec.upto fnExactSolveRowsSpec)

end Rows
end Go.Proofs.Ytcalfblghblhcaa
