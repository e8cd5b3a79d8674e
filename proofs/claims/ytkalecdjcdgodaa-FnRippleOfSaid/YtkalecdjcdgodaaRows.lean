/-
  No cell of these rows narrows 'for every input' (looked for: loops, veiled, ifaces, maps, wideKeys, modest, calm, conditions, laid).
  DERIVED. THE GIVEN ROWS OF THIS SEAT. 11 by the template 'for every input the law returns true; each argument reads behind the call as it read before'; 0 by the template 'total and deterministic' (their statements: YtkalecdjcdgodaaTotals.lean).
  GIVEN WITH THE SEED: the statements are not yours to turn. If you find one false, say at which input.
  Laid BY PROGRAM, IN A SANDBOX (cutbox-rows.mjs): the forced cells as the released guide's own fill.sh prints them over the translation a4ad057549cf3232… (all of the seat's roots in one cut). By AI agents, Wed Nov 11 2026. No macro, syntax, notation, axiom, sorry.
-/
import Derived.Test.YtkalecdjcdgodaaChecked
import GoSem.Claim
import GoSem.ClaimJoined
import GoSem.ClaimMapViews
import Derived.JoinedTies
import Derived.KernelRfl
namespace Go.Proofs.Ytkalecdjcdgodaa
/- THE CELL 'sum', in the pinned program and in every row, IS THE sha256 OF THE DUMP (.gsa) THAT YtkalecdjcdgodaaProg.lean LOADS. Nothing in Lean hashes anything: it is a label: what it is worth is what the hold of that sum in a sandbox is worth. -/
noncomputable def Try.pinned : Pinned := { name := "ytkalecdjcdgodaa", sum := "a4ad057549cf32325de35faf4ff09c9b7fe04d8c8346ddca58861ada689155fc", checked := Try.checked }
namespace Rows
def none {H : Type} : Left H := { results := [], args := [] }

/-- 'laws.FnExactSumsOf': WHATEVER THE INPUT: true; the input reads as it did. -/
def fnExactSumsOfSpec : ChangeSpec := { name := "fnExactSumsOf", fn := fun _ => fun
  | [d1, d2] => { results := [.lit (.bool true)], args := [d1, d2] }
  | _ => none }
def fnExactSumsOfRow : OpenClaim := { program := "ytkalecdjcdgodaa", sum := "a4ad057549cf32325de35faf4ff09c9b7fe04d8c8346ddca58861ada689155fc", func := "loop.example/lostshares/laws.FnExactSumsOf", spec := "fnExactSumsOf", unfollowed := true, recurses := true, apart := false }
def FnExactSumsOfSaid : Prop := fnExactSumsOfRow.holds Try.pinned (OpenSpec.ofChange fnExactSumsOfSpec)

/-- ITS FALSE NEIGHBOUR: 'it returns false'. Refute it at one input. -/
def fnExactSumsOfWrong : ChangeSpec := { name := "fnExactSumsOf", fn := fun _ => fun
  | [d1, d2] => { results := [.lit (.bool false)], args := [d1, d2] }
  | _ => none }
def FnExactSumsOfWrongFalsely : Prop := fnExactSumsOfRow.holds Try.pinned (OpenSpec.ofChange fnExactSumsOfWrong)

/-- 'laws.FnSumsOf': WHATEVER THE INPUT: true; the input reads as it did. -/
def fnSumsOfSpec : ChangeSpec := { name := "fnSumsOf", fn := fun _ => fun
  | [d] => { results := [.lit (.bool true)], args := [d] }
  | _ => none }
def fnSumsOfRow : OpenClaim := { program := "ytkalecdjcdgodaa", sum := "a4ad057549cf32325de35faf4ff09c9b7fe04d8c8346ddca58861ada689155fc", func := "loop.example/lostshares/laws.FnSumsOf", spec := "fnSumsOf", unfollowed := true, recurses := true, apart := false }
def FnSumsOfSaid : Prop := fnSumsOfRow.holds Try.pinned (OpenSpec.ofChange fnSumsOfSpec)

/-- ITS FALSE NEIGHBOUR: 'it returns false'. Refute it at one input. -/
def fnSumsOfWrong : ChangeSpec := { name := "fnSumsOf", fn := fun _ => fun
  | [d] => { results := [.lit (.bool false)], args := [d] }
  | _ => none }
def FnSumsOfWrongFalsely : Prop := fnSumsOfRow.holds Try.pinned (OpenSpec.ofChange fnSumsOfWrong)

/-- 'laws.FnStuckGrid': WHATEVER THE INPUT: true; the input reads as it did. -/
def fnStuckGridSpec : ChangeSpec := { name := "fnStuckGrid", fn := fun _ => fun
  | [d] => { results := [.lit (.bool true)], args := [d] }
  | _ => none }
def fnStuckGridRow : OpenClaim := { program := "ytkalecdjcdgodaa", sum := "a4ad057549cf32325de35faf4ff09c9b7fe04d8c8346ddca58861ada689155fc", func := "loop.example/lostshares/laws.FnStuckGrid", spec := "fnStuckGrid", unfollowed := true, recurses := true, apart := false }
def FnStuckGridSaid : Prop := fnStuckGridRow.holds Try.pinned (OpenSpec.ofChange fnStuckGridSpec)

/-- ITS FALSE NEIGHBOUR: 'it returns false'. Refute it at one input. -/
def fnStuckGridWrong : ChangeSpec := { name := "fnStuckGrid", fn := fun _ => fun
  | [d] => { results := [.lit (.bool false)], args := [d] }
  | _ => none }
def FnStuckGridWrongFalsely : Prop := fnStuckGridRow.holds Try.pinned (OpenSpec.ofChange fnStuckGridWrong)

/-- 'laws.FnExactPeelGrid': WHATEVER THE INPUT: true; the input reads as it did. -/
def fnExactPeelGridSpec : ChangeSpec := { name := "fnExactPeelGrid", fn := fun _ => fun
  | [d1, d2, d3, d4] => { results := [.lit (.bool true)], args := [d1, d2, d3, d4] }
  | _ => none }
def fnExactPeelGridRow : OpenClaim := { program := "ytkalecdjcdgodaa", sum := "a4ad057549cf32325de35faf4ff09c9b7fe04d8c8346ddca58861ada689155fc", func := "loop.example/lostshares/laws.FnExactPeelGrid", spec := "fnExactPeelGrid", unfollowed := true, recurses := true, apart := false }
def FnExactPeelGridSaid : Prop := fnExactPeelGridRow.holds Try.pinned (OpenSpec.ofChange fnExactPeelGridSpec)

/-- ITS FALSE NEIGHBOUR: 'it returns false'. Refute it at one input. -/
def fnExactPeelGridWrong : ChangeSpec := { name := "fnExactPeelGrid", fn := fun _ => fun
  | [d1, d2, d3, d4] => { results := [.lit (.bool false)], args := [d1, d2, d3, d4] }
  | _ => none }
def FnExactPeelGridWrongFalsely : Prop := fnExactPeelGridRow.holds Try.pinned (OpenSpec.ofChange fnExactPeelGridWrong)

/-- 'laws.FnPeelGrid': WHATEVER THE INPUT: true; the input reads as it did. -/
def fnPeelGridSpec : ChangeSpec := { name := "fnPeelGrid", fn := fun _ => fun
  | [d] => { results := [.lit (.bool true)], args := [d] }
  | _ => none }
def fnPeelGridRow : OpenClaim := { program := "ytkalecdjcdgodaa", sum := "a4ad057549cf32325de35faf4ff09c9b7fe04d8c8346ddca58861ada689155fc", func := "loop.example/lostshares/laws.FnPeelGrid", spec := "fnPeelGrid", unfollowed := true, recurses := true, apart := false }
def FnPeelGridSaid : Prop := fnPeelGridRow.holds Try.pinned (OpenSpec.ofChange fnPeelGridSpec)

/-- ITS FALSE NEIGHBOUR: 'it returns false'. Refute it at one input. -/
def fnPeelGridWrong : ChangeSpec := { name := "fnPeelGrid", fn := fun _ => fun
  | [d] => { results := [.lit (.bool false)], args := [d] }
  | _ => none }
def FnPeelGridWrongFalsely : Prop := fnPeelGridRow.holds Try.pinned (OpenSpec.ofChange fnPeelGridWrong)

/-- 'laws.FnExactRowsPlusTwo': WHATEVER THE INPUT: true; the input reads as it did. -/
def fnExactRowsPlusTwoSpec : ChangeSpec := { name := "fnExactRowsPlusTwo", fn := fun _ => fun
  | [d1, d2] => { results := [.lit (.bool true)], args := [d1, d2] }
  | _ => none }
def fnExactRowsPlusTwoRow : OpenClaim := { program := "ytkalecdjcdgodaa", sum := "a4ad057549cf32325de35faf4ff09c9b7fe04d8c8346ddca58861ada689155fc", func := "loop.example/lostshares/laws.FnExactRowsPlusTwo", spec := "fnExactRowsPlusTwo", unfollowed := true, recurses := true, apart := false }
def FnExactRowsPlusTwoSaid : Prop := fnExactRowsPlusTwoRow.holds Try.pinned (OpenSpec.ofChange fnExactRowsPlusTwoSpec)

/-- ITS FALSE NEIGHBOUR: 'it returns false'. Refute it at one input. -/
def fnExactRowsPlusTwoWrong : ChangeSpec := { name := "fnExactRowsPlusTwo", fn := fun _ => fun
  | [d1, d2] => { results := [.lit (.bool false)], args := [d1, d2] }
  | _ => none }
def FnExactRowsPlusTwoWrongFalsely : Prop := fnExactRowsPlusTwoRow.holds Try.pinned (OpenSpec.ofChange fnExactRowsPlusTwoWrong)

/-- 'laws.FnRowsPlusTwo': WHATEVER THE INPUT: true; the input reads as it did. -/
def fnRowsPlusTwoSpec : ChangeSpec := { name := "fnRowsPlusTwo", fn := fun _ => fun
  | [d] => { results := [.lit (.bool true)], args := [d] }
  | _ => none }
def fnRowsPlusTwoRow : OpenClaim := { program := "ytkalecdjcdgodaa", sum := "a4ad057549cf32325de35faf4ff09c9b7fe04d8c8346ddca58861ada689155fc", func := "loop.example/lostshares/laws.FnRowsPlusTwo", spec := "fnRowsPlusTwo", unfollowed := true, recurses := true, apart := false }
def FnRowsPlusTwoSaid : Prop := fnRowsPlusTwoRow.holds Try.pinned (OpenSpec.ofChange fnRowsPlusTwoSpec)

/-- ITS FALSE NEIGHBOUR: 'it returns false'. Refute it at one input. -/
def fnRowsPlusTwoWrong : ChangeSpec := { name := "fnRowsPlusTwo", fn := fun _ => fun
  | [d] => { results := [.lit (.bool false)], args := [d] }
  | _ => none }
def FnRowsPlusTwoWrongFalsely : Prop := fnRowsPlusTwoRow.holds Try.pinned (OpenSpec.ofChange fnRowsPlusTwoWrong)

/-- 'laws.FnExactRippleOf': WHATEVER THE INPUT: true; the input reads as it did. -/
def fnExactRippleOfSpec : ChangeSpec := { name := "fnExactRippleOf", fn := fun _ => fun
  | [d1, d2, d3] => { results := [.lit (.bool true)], args := [d1, d2, d3] }
  | _ => none }
def fnExactRippleOfRow : OpenClaim := { program := "ytkalecdjcdgodaa", sum := "a4ad057549cf32325de35faf4ff09c9b7fe04d8c8346ddca58861ada689155fc", func := "loop.example/lostshares/laws.FnExactRippleOf", spec := "fnExactRippleOf", unfollowed := true, recurses := true, apart := false }
def FnExactRippleOfSaid : Prop := fnExactRippleOfRow.holds Try.pinned (OpenSpec.ofChange fnExactRippleOfSpec)

/-- ITS FALSE NEIGHBOUR: 'it returns false'. Refute it at one input. -/
def fnExactRippleOfWrong : ChangeSpec := { name := "fnExactRippleOf", fn := fun _ => fun
  | [d1, d2, d3] => { results := [.lit (.bool false)], args := [d1, d2, d3] }
  | _ => none }
def FnExactRippleOfWrongFalsely : Prop := fnExactRippleOfRow.holds Try.pinned (OpenSpec.ofChange fnExactRippleOfWrong)

/-- 'laws.FnRippleOf': WHATEVER THE INPUT: true; the input reads as it did. -/
def fnRippleOfSpec : ChangeSpec := { name := "fnRippleOf", fn := fun _ => fun
  | [d] => { results := [.lit (.bool true)], args := [d] }
  | _ => none }
def fnRippleOfRow : OpenClaim := { program := "ytkalecdjcdgodaa", sum := "a4ad057549cf32325de35faf4ff09c9b7fe04d8c8346ddca58861ada689155fc", func := "loop.example/lostshares/laws.FnRippleOf", spec := "fnRippleOf", unfollowed := true, recurses := true, apart := false }
def FnRippleOfSaid : Prop := fnRippleOfRow.holds Try.pinned (OpenSpec.ofChange fnRippleOfSpec)

/-- ITS FALSE NEIGHBOUR: 'it returns false'. Refute it at one input. -/
def fnRippleOfWrong : ChangeSpec := { name := "fnRippleOf", fn := fun _ => fun
  | [d] => { results := [.lit (.bool false)], args := [d] }
  | _ => none }
def FnRippleOfWrongFalsely : Prop := fnRippleOfRow.holds Try.pinned (OpenSpec.ofChange fnRippleOfWrong)

/-- 'laws.FnExactMendTwo': WHATEVER THE INPUT: true; the input reads as it did. -/
def fnExactMendTwoSpec : ChangeSpec := { name := "fnExactMendTwo", fn := fun _ => fun
  | [d1, d2, d3] => { results := [.lit (.bool true)], args := [d1, d2, d3] }
  | _ => none }
def fnExactMendTwoRow : OpenClaim := { program := "ytkalecdjcdgodaa", sum := "a4ad057549cf32325de35faf4ff09c9b7fe04d8c8346ddca58861ada689155fc", func := "loop.example/lostshares/laws.FnExactMendTwo", spec := "fnExactMendTwo", unfollowed := true, recurses := true, apart := false }
def FnExactMendTwoSaid : Prop := fnExactMendTwoRow.holds Try.pinned (OpenSpec.ofChange fnExactMendTwoSpec)

/-- ITS FALSE NEIGHBOUR: 'it returns false'. Refute it at one input. -/
def fnExactMendTwoWrong : ChangeSpec := { name := "fnExactMendTwo", fn := fun _ => fun
  | [d1, d2, d3] => { results := [.lit (.bool false)], args := [d1, d2, d3] }
  | _ => none }
def FnExactMendTwoWrongFalsely : Prop := fnExactMendTwoRow.holds Try.pinned (OpenSpec.ofChange fnExactMendTwoWrong)

/-- 'laws.FnMendTwo': WHATEVER THE INPUT: true; the input reads as it did. -/
def fnMendTwoSpec : ChangeSpec := { name := "fnMendTwo", fn := fun _ => fun
  | [d] => { results := [.lit (.bool true)], args := [d] }
  | _ => none }
def fnMendTwoRow : OpenClaim := { program := "ytkalecdjcdgodaa", sum := "a4ad057549cf32325de35faf4ff09c9b7fe04d8c8346ddca58861ada689155fc", func := "loop.example/lostshares/laws.FnMendTwo", spec := "fnMendTwo", unfollowed := true, recurses := true, apart := false }
def FnMendTwoSaid : Prop := fnMendTwoRow.holds Try.pinned (OpenSpec.ofChange fnMendTwoSpec)

/-- ITS FALSE NEIGHBOUR: 'it returns false'. Refute it at one input. -/
def fnMendTwoWrong : ChangeSpec := { name := "fnMendTwo", fn := fun _ => fun
  | [d] => { results := [.lit (.bool false)], args := [d] }
  | _ => none }
def FnMendTwoWrongFalsely : Prop := fnMendTwoRow.holds Try.pinned (OpenSpec.ofChange fnMendTwoWrong)

/- THE SECOND FORM. 'bulk': how many values and letters a reading holds, each counted each time it is reached (what is shared counts as often as it is met; a slice's spare places count too). A statement '..UptoSaid' is the law's where the arguments, and the package variables that the reading takes, are together of bulk at most 1048576: NARROWER than '..Said'. Prove '..Said' where nothing that the law and all that it calls make is longer than what came in: it says more and counts as full. Else prove '..UptoSaid'. A law counts once. -/
mutual
def uptoBulk {H : Type} : DataW H → Nat
  | .lit (.string bytes) => bytes.length + 1
  | .lit _ => 1
  | .nil => 1
  | .ptr d => uptoBulk d + 1
  | .slice elems spare => uptoBulkAll elems + uptoBulkAll spare + 1
  | .agg parts => uptoBulkAll parts + 1
  | .iface _ d => uptoBulk d + 1
  | .map entries => uptoBulkEntries entries + 1
  | .held _ => 1
def uptoBulkAll {H : Type} : List (DataW H) → Nat
  | [] => 0
  | d :: r => uptoBulk d + uptoBulkAll r
def uptoBulkEntries {H : Type} : List (Lit × DataW H) → Nat
  | [] => 0
  | x :: r => uptoBulkEntry x + uptoBulkEntries r
def uptoBulkEntry {H : Type} : Lit × DataW H → Nat
  | (.string bytes, d) => bytes.length + uptoBulk d + 1
  | (_, d) => uptoBulk d + 1
 end
def uptoSmall : (H : Type) → List (DataW H) → Bool := fun _ ds => decide (uptoBulkAll ds ≤ 1048576)
def OpenSpec.upto (s : _root_.Go.ChangeSpec) : _root_.Go.OpenSpec := { _root_.Go.OpenSpec.ofChange s with cond := some uptoSmall }

/-- 'laws.FnExactSumsOf', WHERE WHAT IT READS IS OF BULK AT MOST 1048576: true; the input reads as it did. -/
def fnExactSumsOfUptoRow : OpenClaim := { program := "ytkalecdjcdgodaa", sum := "a4ad057549cf32325de35faf4ff09c9b7fe04d8c8346ddca58861ada689155fc", func := "loop.example/lostshares/laws.FnExactSumsOf", spec := "fnExactSumsOf", unfollowed := true, recurses := true, apart := false, narrowed := true }
def FnExactSumsOfUptoSaid : Prop := fnExactSumsOfUptoRow.holds Try.pinned (OpenSpec.upto fnExactSumsOfSpec)

/-- 'laws.FnSumsOf', WHERE WHAT IT READS IS OF BULK AT MOST 1048576: true; the input reads as it did. -/
def fnSumsOfUptoRow : OpenClaim := { program := "ytkalecdjcdgodaa", sum := "a4ad057549cf32325de35faf4ff09c9b7fe04d8c8346ddca58861ada689155fc", func := "loop.example/lostshares/laws.FnSumsOf", spec := "fnSumsOf", unfollowed := true, recurses := true, apart := false, narrowed := true }
def FnSumsOfUptoSaid : Prop := fnSumsOfUptoRow.holds Try.pinned (OpenSpec.upto fnSumsOfSpec)

/-- 'laws.FnStuckGrid', WHERE WHAT IT READS IS OF BULK AT MOST 1048576: true; the input reads as it did. -/
def fnStuckGridUptoRow : OpenClaim := { program := "ytkalecdjcdgodaa", sum := "a4ad057549cf32325de35faf4ff09c9b7fe04d8c8346ddca58861ada689155fc", func := "loop.example/lostshares/laws.FnStuckGrid", spec := "fnStuckGrid", unfollowed := true, recurses := true, apart := false, narrowed := true }
def FnStuckGridUptoSaid : Prop := fnStuckGridUptoRow.holds Try.pinned (OpenSpec.upto fnStuckGridSpec)

/-- 'laws.FnExactPeelGrid', WHERE WHAT IT READS IS OF BULK AT MOST 1048576: true; the input reads as it did. -/
def fnExactPeelGridUptoRow : OpenClaim := { program := "ytkalecdjcdgodaa", sum := "a4ad057549cf32325de35faf4ff09c9b7fe04d8c8346ddca58861ada689155fc", func := "loop.example/lostshares/laws.FnExactPeelGrid", spec := "fnExactPeelGrid", unfollowed := true, recurses := true, apart := false, narrowed := true }
def FnExactPeelGridUptoSaid : Prop := fnExactPeelGridUptoRow.holds Try.pinned (OpenSpec.upto fnExactPeelGridSpec)

/-- 'laws.FnPeelGrid', WHERE WHAT IT READS IS OF BULK AT MOST 1048576: true; the input reads as it did. -/
def fnPeelGridUptoRow : OpenClaim := { program := "ytkalecdjcdgodaa", sum := "a4ad057549cf32325de35faf4ff09c9b7fe04d8c8346ddca58861ada689155fc", func := "loop.example/lostshares/laws.FnPeelGrid", spec := "fnPeelGrid", unfollowed := true, recurses := true, apart := false, narrowed := true }
def FnPeelGridUptoSaid : Prop := fnPeelGridUptoRow.holds Try.pinned (OpenSpec.upto fnPeelGridSpec)

/-- 'laws.FnExactRowsPlusTwo', WHERE WHAT IT READS IS OF BULK AT MOST 1048576: true; the input reads as it did. -/
def fnExactRowsPlusTwoUptoRow : OpenClaim := { program := "ytkalecdjcdgodaa", sum := "a4ad057549cf32325de35faf4ff09c9b7fe04d8c8346ddca58861ada689155fc", func := "loop.example/lostshares/laws.FnExactRowsPlusTwo", spec := "fnExactRowsPlusTwo", unfollowed := true, recurses := true, apart := false, narrowed := true }
def FnExactRowsPlusTwoUptoSaid : Prop := fnExactRowsPlusTwoUptoRow.holds Try.pinned (OpenSpec.upto fnExactRowsPlusTwoSpec)

/-- 'laws.FnRowsPlusTwo', WHERE WHAT IT READS IS OF BULK AT MOST 1048576: true; the input reads as it did. -/
def fnRowsPlusTwoUptoRow : OpenClaim := { program := "ytkalecdjcdgodaa", sum := "a4ad057549cf32325de35faf4ff09c9b7fe04d8c8346ddca58861ada689155fc", func := "loop.example/lostshares/laws.FnRowsPlusTwo", spec := "fnRowsPlusTwo", unfollowed := true, recurses := true, apart := false, narrowed := true }
def FnRowsPlusTwoUptoSaid : Prop := fnRowsPlusTwoUptoRow.holds Try.pinned (OpenSpec.upto fnRowsPlusTwoSpec)

/-- 'laws.FnExactRippleOf', WHERE WHAT IT READS IS OF BULK AT MOST 1048576: true; the input reads as it did. -/
def fnExactRippleOfUptoRow : OpenClaim := { program := "ytkalecdjcdgodaa", sum := "a4ad057549cf32325de35faf4ff09c9b7fe04d8c8346ddca58861ada689155fc", func := "loop.example/lostshares/laws.FnExactRippleOf", spec := "fnExactRippleOf", unfollowed := true, recurses := true, apart := false, narrowed := true }
def FnExactRippleOfUptoSaid : Prop := fnExactRippleOfUptoRow.holds Try.pinned (OpenSpec.upto fnExactRippleOfSpec)

/-- 'laws.FnRippleOf', WHERE WHAT IT READS IS OF BULK AT MOST 1048576: true; the input reads as it did. -/
def fnRippleOfUptoRow : OpenClaim := { program := "ytkalecdjcdgodaa", sum := "a4ad057549cf32325de35faf4ff09c9b7fe04d8c8346ddca58861ada689155fc", func := "loop.example/lostshares/laws.FnRippleOf", spec := "fnRippleOf", unfollowed := true, recurses := true, apart := false, narrowed := true }
def FnRippleOfUptoSaid : Prop := fnRippleOfUptoRow.holds Try.pinned (OpenSpec.upto fnRippleOfSpec)

/-- 'laws.FnExactMendTwo', WHERE WHAT IT READS IS OF BULK AT MOST 1048576: true; the input reads as it did. -/
def fnExactMendTwoUptoRow : OpenClaim := { program := "ytkalecdjcdgodaa", sum := "a4ad057549cf32325de35faf4ff09c9b7fe04d8c8346ddca58861ada689155fc", func := "loop.example/lostshares/laws.FnExactMendTwo", spec := "fnExactMendTwo", unfollowed := true, recurses := true, apart := false, narrowed := true }
def FnExactMendTwoUptoSaid : Prop := fnExactMendTwoUptoRow.holds Try.pinned (OpenSpec.upto fnExactMendTwoSpec)

/-- 'laws.FnMendTwo', WHERE WHAT IT READS IS OF BULK AT MOST 1048576: true; the input reads as it did. -/
def fnMendTwoUptoRow : OpenClaim := { program := "ytkalecdjcdgodaa", sum := "a4ad057549cf32325de35faf4ff09c9b7fe04d8c8346ddca58861ada689155fc", func := "loop.example/lostshares/laws.FnMendTwo", spec := "fnMendTwo", unfollowed := true, recurses := true, apart := false, narrowed := true }
def FnMendTwoUptoSaid : Prop := fnMendTwoUptoRow.holds Try.pinned (OpenSpec.upto fnMendTwoSpec)

end Rows
end Go.Proofs.Ytkalecdjcdgodaa
