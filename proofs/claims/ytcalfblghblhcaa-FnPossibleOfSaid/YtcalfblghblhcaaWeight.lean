/-
  The number of bits set: weight (reference), size (program), for numbers below 256. Conditions: the number is below 256.
-/
import Derived.Test.YtcalfblghblhcaaBits
namespace Go.Proofs.Ytcalfblghblhcaa
open Go.RowKit

def wtF : Nat → Nat → Nat | 0, _ => 0 | k + 1, s => s % 2 + wtF k (s / 2)
/-- the number of bits set in a number below 256 -/
def wt (s : Nat) : Nat := wtF 8 s
theorem wt_small : ∀ s, s < 256 → wt s = s % 2 + wt (s / 2) ∧ wt s ≤ 8 := by decide +kernel
theorem wt_zero : wt 0 = 0 := by decide

end Go.Proofs.Ytcalfblghblhcaa
