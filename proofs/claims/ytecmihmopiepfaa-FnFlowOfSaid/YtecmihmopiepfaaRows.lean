/-
  No cell of these rows narrows 'for every input' (looked for: loops, veiled, ifaces, maps, wideKeys, modest, calm, conditions, laid).
  DERIVED. THE GIVEN ROWS OF THIS SEAT. 12 by the template 'for every input the law returns true; each argument reads behind the call as it read before'; 0 by the template 'total and deterministic' (their statements: YtecmihmopiepfaaTotals.lean).
  GIVEN WITH THE SEED: the statements are not yours to turn. If you find one false, say at which input.
  Laid BY PROGRAM, IN A SANDBOX (cutbox-rows.mjs): the forced cells as the released guide's own fill.sh prints them over the translation 2db57a0627bdf6c6… (all of the seat's roots in one cut). By AI agents, Wed Nov 11 2026. No macro, syntax, notation, axiom, sorry.
-/
import Derived.Test.YtecmihmopiepfaaChecked
import GoSem.Claim
import GoSem.ClaimJoined
import GoSem.ClaimMapViews
import Derived.JoinedTies
import Derived.KernelRfl
namespace Go.Proofs.Ytecmihmopiepfaa
/- THE CELL 'sum', in the pinned program and in every row, IS THE sha256 OF THE DUMP (.gsa) THAT YtecmihmopiepfaaProg.lean LOADS. Nothing in Lean hashes anything: it is a label: what it is worth is what the hold of that sum in a sandbox is worth. -/
noncomputable def Try.pinned : Pinned := { name := "ytecmihmopiepfaa", sum := "2db57a0627bdf6c60722f613503a2d668e2c74552d5872366c0eb4ad1b93139f", checked := Try.checked }
namespace Rows
def none {H : Type} : Left H := { results := [], args := [] }

/-- 'laws.FnValidNet': WHATEVER THE INPUT: true; the input reads as it did. -/
def fnValidNetSpec : ChangeSpec := { name := "fnValidNet", fn := fun _ => fun
  | [d] => { results := [.lit (.bool true)], args := [d] }
  | _ => none }
def fnValidNetRow : OpenClaim := { program := "ytecmihmopiepfaa", sum := "2db57a0627bdf6c60722f613503a2d668e2c74552d5872366c0eb4ad1b93139f", func := "loop.example/lostshares/laws.FnValidNet", spec := "fnValidNet", apart := false }
def FnValidNetSaid : Prop := fnValidNetRow.holds Try.pinned (OpenSpec.ofChange fnValidNetSpec)

/-- ITS FALSE NEIGHBOUR: 'it returns false'. Refute it at one input. -/
def fnValidNetWrong : ChangeSpec := { name := "fnValidNet", fn := fun _ => fun
  | [d] => { results := [.lit (.bool false)], args := [d] }
  | _ => none }
def FnValidNetWrongFalsely : Prop := fnValidNetRow.holds Try.pinned (OpenSpec.ofChange fnValidNetWrong)

/-- 'laws.FnExactValidNet': WHATEVER THE INPUT: true; the input reads as it did. -/
def fnExactValidNetSpec : ChangeSpec := { name := "fnExactValidNet", fn := fun _ => fun
  | [d] => { results := [.lit (.bool true)], args := [d] }
  | _ => none }
def fnExactValidNetRow : OpenClaim := { program := "ytecmihmopiepfaa", sum := "2db57a0627bdf6c60722f613503a2d668e2c74552d5872366c0eb4ad1b93139f", func := "loop.example/lostshares/laws.FnExactValidNet", spec := "fnExactValidNet", apart := false }
def FnExactValidNetSaid : Prop := fnExactValidNetRow.holds Try.pinned (OpenSpec.ofChange fnExactValidNetSpec)

/-- ITS FALSE NEIGHBOUR: 'it returns false'. Refute it at one input. -/
def fnExactValidNetWrong : ChangeSpec := { name := "fnExactValidNet", fn := fun _ => fun
  | [d] => { results := [.lit (.bool false)], args := [d] }
  | _ => none }
def FnExactValidNetWrongFalsely : Prop := fnExactValidNetRow.holds Try.pinned (OpenSpec.ofChange fnExactValidNetWrong)

/-- 'laws.FnExactCutOf': WHATEVER THE INPUT: true; the input reads as it did. -/
def fnExactCutOfSpec : ChangeSpec := { name := "fnExactCutOf", fn := fun _ => fun
  | [d1, d2] => { results := [.lit (.bool true)], args := [d1, d2] }
  | _ => none }
def fnExactCutOfRow : OpenClaim := { program := "ytecmihmopiepfaa", sum := "2db57a0627bdf6c60722f613503a2d668e2c74552d5872366c0eb4ad1b93139f", func := "loop.example/lostshares/laws.FnExactCutOf", spec := "fnExactCutOf", apart := false }
def FnExactCutOfSaid : Prop := fnExactCutOfRow.holds Try.pinned (OpenSpec.ofChange fnExactCutOfSpec)

/-- ITS FALSE NEIGHBOUR: 'it returns false'. Refute it at one input. -/
def fnExactCutOfWrong : ChangeSpec := { name := "fnExactCutOf", fn := fun _ => fun
  | [d1, d2] => { results := [.lit (.bool false)], args := [d1, d2] }
  | _ => none }
def FnExactCutOfWrongFalsely : Prop := fnExactCutOfRow.holds Try.pinned (OpenSpec.ofChange fnExactCutOfWrong)

/-- 'laws.FnCutOf': WHATEVER THE INPUT: true; the input reads as it did. -/
def fnCutOfSpec : ChangeSpec := { name := "fnCutOf", fn := fun _ => fun
  | [d] => { results := [.lit (.bool true)], args := [d] }
  | _ => none }
def fnCutOfRow : OpenClaim := { program := "ytecmihmopiepfaa", sum := "2db57a0627bdf6c60722f613503a2d668e2c74552d5872366c0eb4ad1b93139f", func := "loop.example/lostshares/laws.FnCutOf", spec := "fnCutOf", recurses := true, apart := false }
def FnCutOfSaid : Prop := fnCutOfRow.holds Try.pinned (OpenSpec.ofChange fnCutOfSpec)

/-- ITS FALSE NEIGHBOUR: 'it returns false'. Refute it at one input. -/
def fnCutOfWrong : ChangeSpec := { name := "fnCutOf", fn := fun _ => fun
  | [d] => { results := [.lit (.bool false)], args := [d] }
  | _ => none }
def FnCutOfWrongFalsely : Prop := fnCutOfRow.holds Try.pinned (OpenSpec.ofChange fnCutOfWrong)

/-- 'laws.FnExactManyCut': WHATEVER THE INPUT: true; the input reads as it did. -/
def fnExactManyCutSpec : ChangeSpec := { name := "fnExactManyCut", fn := fun _ => fun
  | [d1, d2] => { results := [.lit (.bool true)], args := [d1, d2] }
  | _ => none }
def fnExactManyCutRow : OpenClaim := { program := "ytecmihmopiepfaa", sum := "2db57a0627bdf6c60722f613503a2d668e2c74552d5872366c0eb4ad1b93139f", func := "loop.example/lostshares/laws.FnExactManyCut", spec := "fnExactManyCut", apart := false }
def FnExactManyCutSaid : Prop := fnExactManyCutRow.holds Try.pinned (OpenSpec.ofChange fnExactManyCutSpec)

/-- ITS FALSE NEIGHBOUR: 'it returns false'. Refute it at one input. -/
def fnExactManyCutWrong : ChangeSpec := { name := "fnExactManyCut", fn := fun _ => fun
  | [d1, d2] => { results := [.lit (.bool false)], args := [d1, d2] }
  | _ => none }
def FnExactManyCutWrongFalsely : Prop := fnExactManyCutRow.holds Try.pinned (OpenSpec.ofChange fnExactManyCutWrong)

/-- 'laws.FnManyCut': WHATEVER THE INPUT: true; the input reads as it did. -/
def fnManyCutSpec : ChangeSpec := { name := "fnManyCut", fn := fun _ => fun
  | [d] => { results := [.lit (.bool true)], args := [d] }
  | _ => none }
def fnManyCutRow : OpenClaim := { program := "ytecmihmopiepfaa", sum := "2db57a0627bdf6c60722f613503a2d668e2c74552d5872366c0eb4ad1b93139f", func := "loop.example/lostshares/laws.FnManyCut", spec := "fnManyCut", apart := false }
def FnManyCutSaid : Prop := fnManyCutRow.holds Try.pinned (OpenSpec.ofChange fnManyCutSpec)

/-- ITS FALSE NEIGHBOUR: 'it returns false'. Refute it at one input. -/
def fnManyCutWrong : ChangeSpec := { name := "fnManyCut", fn := fun _ => fun
  | [d] => { results := [.lit (.bool false)], args := [d] }
  | _ => none }
def FnManyCutWrongFalsely : Prop := fnManyCutRow.holds Try.pinned (OpenSpec.ofChange fnManyCutWrong)

/-- 'laws.FnExactFlowOf': WHATEVER THE INPUT: true; the input reads as it did. -/
def fnExactFlowOfSpec : ChangeSpec := { name := "fnExactFlowOf", fn := fun _ => fun
  | [d1, d2] => { results := [.lit (.bool true)], args := [d1, d2] }
  | _ => none }
def fnExactFlowOfRow : OpenClaim := { program := "ytecmihmopiepfaa", sum := "2db57a0627bdf6c60722f613503a2d668e2c74552d5872366c0eb4ad1b93139f", func := "loop.example/lostshares/laws.FnExactFlowOf", spec := "fnExactFlowOf", recurses := true, apart := false }
def FnExactFlowOfSaid : Prop := fnExactFlowOfRow.holds Try.pinned (OpenSpec.ofChange fnExactFlowOfSpec)

/-- ITS FALSE NEIGHBOUR: 'it returns false'. Refute it at one input. -/
def fnExactFlowOfWrong : ChangeSpec := { name := "fnExactFlowOf", fn := fun _ => fun
  | [d1, d2] => { results := [.lit (.bool false)], args := [d1, d2] }
  | _ => none }
def FnExactFlowOfWrongFalsely : Prop := fnExactFlowOfRow.holds Try.pinned (OpenSpec.ofChange fnExactFlowOfWrong)

/-- 'laws.FnFlowOf': WHATEVER THE INPUT: true; the input reads as it did. -/
def fnFlowOfSpec : ChangeSpec := { name := "fnFlowOf", fn := fun _ => fun
  | [d] => { results := [.lit (.bool true)], args := [d] }
  | _ => none }
def fnFlowOfRow : OpenClaim := { program := "ytecmihmopiepfaa", sum := "2db57a0627bdf6c60722f613503a2d668e2c74552d5872366c0eb4ad1b93139f", func := "loop.example/lostshares/laws.FnFlowOf", spec := "fnFlowOf", recurses := true, apart := false }
def FnFlowOfSaid : Prop := fnFlowOfRow.holds Try.pinned (OpenSpec.ofChange fnFlowOfSpec)

/-- ITS FALSE NEIGHBOUR: 'it returns false'. Refute it at one input. -/
def fnFlowOfWrong : ChangeSpec := { name := "fnFlowOf", fn := fun _ => fun
  | [d] => { results := [.lit (.bool false)], args := [d] }
  | _ => none }
def FnFlowOfWrongFalsely : Prop := fnFlowOfRow.holds Try.pinned (OpenSpec.ofChange fnFlowOfWrong)

/-- 'laws.FnExactCliquesOf': WHATEVER THE INPUT: true; the input reads as it did. -/
def fnExactCliquesOfSpec : ChangeSpec := { name := "fnExactCliquesOf", fn := fun _ => fun
  | [d] => { results := [.lit (.bool true)], args := [d] }
  | _ => none }
def fnExactCliquesOfRow : OpenClaim := { program := "ytecmihmopiepfaa", sum := "2db57a0627bdf6c60722f613503a2d668e2c74552d5872366c0eb4ad1b93139f", func := "loop.example/lostshares/laws.FnExactCliquesOf", spec := "fnExactCliquesOf", recurses := true, apart := false }
def FnExactCliquesOfSaid : Prop := fnExactCliquesOfRow.holds Try.pinned (OpenSpec.ofChange fnExactCliquesOfSpec)

/-- ITS FALSE NEIGHBOUR: 'it returns false'. Refute it at one input. -/
def fnExactCliquesOfWrong : ChangeSpec := { name := "fnExactCliquesOf", fn := fun _ => fun
  | [d] => { results := [.lit (.bool false)], args := [d] }
  | _ => none }
def FnExactCliquesOfWrongFalsely : Prop := fnExactCliquesOfRow.holds Try.pinned (OpenSpec.ofChange fnExactCliquesOfWrong)

/-- 'laws.FnCliquesOf': WHATEVER THE INPUT: true; the input reads as it did. -/
def fnCliquesOfSpec : ChangeSpec := { name := "fnCliquesOf", fn := fun _ => fun
  | [d] => { results := [.lit (.bool true)], args := [d] }
  | _ => none }
def fnCliquesOfRow : OpenClaim := { program := "ytecmihmopiepfaa", sum := "2db57a0627bdf6c60722f613503a2d668e2c74552d5872366c0eb4ad1b93139f", func := "loop.example/lostshares/laws.FnCliquesOf", spec := "fnCliquesOf", recurses := true, apart := false }
def FnCliquesOfSaid : Prop := fnCliquesOfRow.holds Try.pinned (OpenSpec.ofChange fnCliquesOfSpec)

/-- ITS FALSE NEIGHBOUR: 'it returns false'. Refute it at one input. -/
def fnCliquesOfWrong : ChangeSpec := { name := "fnCliquesOf", fn := fun _ => fun
  | [d] => { results := [.lit (.bool false)], args := [d] }
  | _ => none }
def FnCliquesOfWrongFalsely : Prop := fnCliquesOfRow.holds Try.pinned (OpenSpec.ofChange fnCliquesOfWrong)

/-- 'laws.FnExactLooplessOf': WHATEVER THE INPUT: true; the input reads as it did. -/
def fnExactLooplessOfSpec : ChangeSpec := { name := "fnExactLooplessOf", fn := fun _ => fun
  | [d] => { results := [.lit (.bool true)], args := [d] }
  | _ => none }
def fnExactLooplessOfRow : OpenClaim := { program := "ytecmihmopiepfaa", sum := "2db57a0627bdf6c60722f613503a2d668e2c74552d5872366c0eb4ad1b93139f", func := "loop.example/lostshares/laws.FnExactLooplessOf", spec := "fnExactLooplessOf", apart := false }
def FnExactLooplessOfSaid : Prop := fnExactLooplessOfRow.holds Try.pinned (OpenSpec.ofChange fnExactLooplessOfSpec)

/-- ITS FALSE NEIGHBOUR: 'it returns false'. Refute it at one input. -/
def fnExactLooplessOfWrong : ChangeSpec := { name := "fnExactLooplessOf", fn := fun _ => fun
  | [d] => { results := [.lit (.bool false)], args := [d] }
  | _ => none }
def FnExactLooplessOfWrongFalsely : Prop := fnExactLooplessOfRow.holds Try.pinned (OpenSpec.ofChange fnExactLooplessOfWrong)

/-- 'laws.FnLooplessOf': WHATEVER THE INPUT: true; the input reads as it did. -/
def fnLooplessOfSpec : ChangeSpec := { name := "fnLooplessOf", fn := fun _ => fun
  | [d] => { results := [.lit (.bool true)], args := [d] }
  | _ => none }
def fnLooplessOfRow : OpenClaim := { program := "ytecmihmopiepfaa", sum := "2db57a0627bdf6c60722f613503a2d668e2c74552d5872366c0eb4ad1b93139f", func := "loop.example/lostshares/laws.FnLooplessOf", spec := "fnLooplessOf", apart := false }
def FnLooplessOfSaid : Prop := fnLooplessOfRow.holds Try.pinned (OpenSpec.ofChange fnLooplessOfSpec)

/-- ITS FALSE NEIGHBOUR: 'it returns false'. Refute it at one input. -/
def fnLooplessOfWrong : ChangeSpec := { name := "fnLooplessOf", fn := fun _ => fun
  | [d] => { results := [.lit (.bool false)], args := [d] }
  | _ => none }
def FnLooplessOfWrongFalsely : Prop := fnLooplessOfRow.holds Try.pinned (OpenSpec.ofChange fnLooplessOfWrong)

/- THE SECOND FORM. 'bulk': how many values and letters a reading holds, each counted each time it is reached (what is shared counts as often as it is met; a slice's spare places count too). A statement '..UptoSaid' is the law's where the arguments, and the package variables that the reading takes, are together of bulk at most 1048576: NARROWER than '..Said'. Prove '..Said' where nothing that the law and all that it calls make is longer than what came in: it says more and counts as full. Else prove '..UptoSaid'. A law counts once. -/
mutual
def uptoBulk {H : Type} : DataW H → Nat
  | .lit (.string bytes) => bytes.length + 1
  | .lit _ => 1
  | .nil => 1
  | .ptr d => uptoBulk d + 1
  | .slice elems spare => uptoBulkAll elems + uptoBulkAll spare + 1
  | .agg parts => uptoBulkAll parts + 1
  | .iface _ d => uptoBulk d + 1
  | .map entries => uptoBulkEntries entries + 1
  | .held _ => 1
def uptoBulkAll {H : Type} : List (DataW H) → Nat
  | [] => 0
  | d :: r => uptoBulk d + uptoBulkAll r
def uptoBulkEntries {H : Type} : List (Lit × DataW H) → Nat
  | [] => 0
  | x :: r => uptoBulkEntry x + uptoBulkEntries r
def uptoBulkEntry {H : Type} : Lit × DataW H → Nat
  | (.string bytes, d) => bytes.length + uptoBulk d + 1
  | (_, d) => uptoBulk d + 1
 end
def uptoSmall : (H : Type) → List (DataW H) → Bool := fun _ ds => decide (uptoBulkAll ds ≤ 1048576)
def OpenSpec.upto (s : _root_.Go.ChangeSpec) : _root_.Go.OpenSpec := { _root_.Go.OpenSpec.ofChange s with cond := some uptoSmall }

/-- 'laws.FnValidNet', WHERE WHAT IT READS IS OF BULK AT MOST 1048576: true; the input reads as it did. -/
def fnValidNetUptoRow : OpenClaim := { program := "ytecmihmopiepfaa", sum := "2db57a0627bdf6c60722f613503a2d668e2c74552d5872366c0eb4ad1b93139f", func := "loop.example/lostshares/laws.FnValidNet", spec := "fnValidNet", apart := false, narrowed := true }
def FnValidNetUptoSaid : Prop := fnValidNetUptoRow.holds Try.pinned (OpenSpec.upto fnValidNetSpec)

/-- 'laws.FnExactValidNet', WHERE WHAT IT READS IS OF BULK AT MOST 1048576: true; the input reads as it did. -/
def fnExactValidNetUptoRow : OpenClaim := { program := "ytecmihmopiepfaa", sum := "2db57a0627bdf6c60722f613503a2d668e2c74552d5872366c0eb4ad1b93139f", func := "loop.example/lostshares/laws.FnExactValidNet", spec := "fnExactValidNet", apart := false, narrowed := true }
def FnExactValidNetUptoSaid : Prop := fnExactValidNetUptoRow.holds Try.pinned (OpenSpec.upto fnExactValidNetSpec)

/-- 'laws.FnExactCutOf', WHERE WHAT IT READS IS OF BULK AT MOST 1048576: true; the input reads as it did. -/
def fnExactCutOfUptoRow : OpenClaim := { program := "ytecmihmopiepfaa", sum := "2db57a0627bdf6c60722f613503a2d668e2c74552d5872366c0eb4ad1b93139f", func := "loop.example/lostshares/laws.FnExactCutOf", spec := "fnExactCutOf", apart := false, narrowed := true }
def FnExactCutOfUptoSaid : Prop := fnExactCutOfUptoRow.holds Try.pinned (OpenSpec.upto fnExactCutOfSpec)

/-- 'laws.FnCutOf', WHERE WHAT IT READS IS OF BULK AT MOST 1048576: true; the input reads as it did. -/
def fnCutOfUptoRow : OpenClaim := { program := "ytecmihmopiepfaa", sum := "2db57a0627bdf6c60722f613503a2d668e2c74552d5872366c0eb4ad1b93139f", func := "loop.example/lostshares/laws.FnCutOf", spec := "fnCutOf", recurses := true, apart := false, narrowed := true }
def FnCutOfUptoSaid : Prop := fnCutOfUptoRow.holds Try.pinned (OpenSpec.upto fnCutOfSpec)

/-- 'laws.FnExactManyCut', WHERE WHAT IT READS IS OF BULK AT MOST 1048576: true; the input reads as it did. -/
def fnExactManyCutUptoRow : OpenClaim := { program := "ytecmihmopiepfaa", sum := "2db57a0627bdf6c60722f613503a2d668e2c74552d5872366c0eb4ad1b93139f", func := "loop.example/lostshares/laws.FnExactManyCut", spec := "fnExactManyCut", apart := false, narrowed := true }
def FnExactManyCutUptoSaid : Prop := fnExactManyCutUptoRow.holds Try.pinned (OpenSpec.upto fnExactManyCutSpec)

/-- 'laws.FnManyCut', WHERE WHAT IT READS IS OF BULK AT MOST 1048576: true; the input reads as it did. -/
def fnManyCutUptoRow : OpenClaim := { program := "ytecmihmopiepfaa", sum := "2db57a0627bdf6c60722f613503a2d668e2c74552d5872366c0eb4ad1b93139f", func := "loop.example/lostshares/laws.FnManyCut", spec := "fnManyCut", apart := false, narrowed := true }
def FnManyCutUptoSaid : Prop := fnManyCutUptoRow.holds Try.pinned (OpenSpec.upto fnManyCutSpec)

/-- 'laws.FnExactFlowOf', WHERE WHAT IT READS IS OF BULK AT MOST 1048576: true; the input reads as it did. -/
def fnExactFlowOfUptoRow : OpenClaim := { program := "ytecmihmopiepfaa", sum := "2db57a0627bdf6c60722f613503a2d668e2c74552d5872366c0eb4ad1b93139f", func := "loop.example/lostshares/laws.FnExactFlowOf", spec := "fnExactFlowOf", recurses := true, apart := false, narrowed := true }
def FnExactFlowOfUptoSaid : Prop := fnExactFlowOfUptoRow.holds Try.pinned (OpenSpec.upto fnExactFlowOfSpec)

/-- 'laws.FnFlowOf', WHERE WHAT IT READS IS OF BULK AT MOST 1048576: true; the input reads as it did. -/
def fnFlowOfUptoRow : OpenClaim := { program := "ytecmihmopiepfaa", sum := "2db57a0627bdf6c60722f613503a2d668e2c74552d5872366c0eb4ad1b93139f", func := "loop.example/lostshares/laws.FnFlowOf", spec := "fnFlowOf", recurses := true, apart := false, narrowed := true }
def FnFlowOfUptoSaid : Prop := fnFlowOfUptoRow.holds Try.pinned (OpenSpec.upto fnFlowOfSpec)

/-- 'laws.FnExactCliquesOf', WHERE WHAT IT READS IS OF BULK AT MOST 1048576: true; the input reads as it did. -/
def fnExactCliquesOfUptoRow : OpenClaim := { program := "ytecmihmopiepfaa", sum := "2db57a0627bdf6c60722f613503a2d668e2c74552d5872366c0eb4ad1b93139f", func := "loop.example/lostshares/laws.FnExactCliquesOf", spec := "fnExactCliquesOf", recurses := true, apart := false, narrowed := true }
def FnExactCliquesOfUptoSaid : Prop := fnExactCliquesOfUptoRow.holds Try.pinned (OpenSpec.upto fnExactCliquesOfSpec)

/-- 'laws.FnCliquesOf', WHERE WHAT IT READS IS OF BULK AT MOST 1048576: true; the input reads as it did. -/
def fnCliquesOfUptoRow : OpenClaim := { program := "ytecmihmopiepfaa", sum := "2db57a0627bdf6c60722f613503a2d668e2c74552d5872366c0eb4ad1b93139f", func := "loop.example/lostshares/laws.FnCliquesOf", spec := "fnCliquesOf", recurses := true, apart := false, narrowed := true }
def FnCliquesOfUptoSaid : Prop := fnCliquesOfUptoRow.holds Try.pinned (OpenSpec.upto fnCliquesOfSpec)

/-- 'laws.FnExactLooplessOf', WHERE WHAT IT READS IS OF BULK AT MOST 1048576: true; the input reads as it did. -/
def fnExactLooplessOfUptoRow : OpenClaim := { program := "ytecmihmopiepfaa", sum := "2db57a0627bdf6c60722f613503a2d668e2c74552d5872366c0eb4ad1b93139f", func := "loop.example/lostshares/laws.FnExactLooplessOf", spec := "fnExactLooplessOf", apart := false, narrowed := true }
def FnExactLooplessOfUptoSaid : Prop := fnExactLooplessOfUptoRow.holds Try.pinned (OpenSpec.upto fnExactLooplessOfSpec)

/-- 'laws.FnLooplessOf', WHERE WHAT IT READS IS OF BULK AT MOST 1048576: true; the input reads as it did. -/
def fnLooplessOfUptoRow : OpenClaim := { program := "ytecmihmopiepfaa", sum := "2db57a0627bdf6c60722f613503a2d668e2c74552d5872366c0eb4ad1b93139f", func := "loop.example/lostshares/laws.FnLooplessOf", spec := "fnLooplessOf", apart := false, narrowed := true }
def FnLooplessOfUptoSaid : Prop := fnLooplessOfUptoRow.holds Try.pinned (OpenSpec.upto fnLooplessOfSpec)

end Rows
end Go.Proofs.Ytecmihmopiepfaa
