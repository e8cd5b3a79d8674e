/-
  The stores, continued: copies, comparisons, the edges, the least amounts. Conditions: those that each contract names.
-/
import Derived.Test.YtfnbnpjedhcmgaaStore3
namespace Go.Proofs.Ytfnbnpjedhcmgaa
open Go.RowKit

theorem eqStore_any (nd ne ak k s : Int) (w : World) :
    Calls Try.prog 25 #[.agg #[.int .i64 nd, .int .i64 ne, .int .i64 ak, .int .i64 k, .int .i64 s], .agg #[.int .i64 nd, .int .i64 ne, .int .i64 ak, .int .i64 k, .int .i64 s]] w fun e w' => e = .returned (.bool true) ∧ Below w.heap.size w w' := by
  go_enter Try.func25, Try.ntmps25
  go_wp2
  go_returns
  exact ⟨rfl, by go_grown⟩

/-- EdgesOf: the two stores and their amounts -/
def edA (ne ak : Int) : Int := ak - ne + 1
def edgeV (nd ne ak k s : Int) : Value :=
  if vSt nd ne ak k s then .tuple #[.agg #[.int .i64 nd, .int .i64 ne, .int .i64 ak, .int .i64 (ak - ne + 1), .int .i64 1], .int .i64 (ne * (ak - ne + 1)), .agg #[.int .i64 nd, .int .i64 ne, .int .i64 ak, .int .i64 (2 * ak), .int .i64 2], .int .i64 (ne * (2 * ak + 1 - ne))]
  else .tuple #[.agg #[.int .i64 0, .int .i64 0, .int .i64 0, .int .i64 0, .int .i64 0], .int .i64 0, .agg #[.int .i64 0, .int .i64 0, .int .i64 0, .int .i64 0, .int .i64 0], .int .i64 0]

theorem edge_bd {nd ne ak k s : Int} (hv : vSt nd ne ak k s = true) : 0 ≤ ne * (ak - ne + 1) ∧ ne * (ak - ne + 1) ≤ 25 ∧ 0 ≤ ne * (2 * ak + 1 - ne) ∧ ne * (2 * ak + 1 - ne) ≤ 50 := by
  obtain ⟨b1, b2, b3, b4, b5, b6, b7, b8, b9, b10⟩ := vSt_bd hv
  refine ⟨Int.mul_nonneg (by omega) (by omega), ?_, Int.mul_nonneg (by omega) (by omega), ?_⟩
  · have := Int.mul_le_mul (show ne ≤ 5 by omega) (show ak - ne + 1 ≤ 5 by omega) (by omega) (by omega); omega
  · have := Int.mul_le_mul (show ne ≤ 5 by omega) (show 2 * ak + 1 - ne ≤ 10 by omega) (by omega) (by omega); omega

theorem LK1_any (nd ne ak k s n : Int) (w : World) :
    Calls Try.prog 43 #[.agg #[.int .i64 nd, .int .i64 ne, .int .i64 ak, .int .i64 k, .int .i64 s], .int .i64 n] w fun e w' => e = .returned (.agg #[.int .i64 nd, .int .i64 ne, .int .i64 ak, .int .i64 n, .int .i64 s]) ∧ Below w.heap.size w w' := by
  go_enter Try.func43, Try.ntmps43
  go_wp2
  go_returns
  exact ⟨rfl, by go_grown⟩

theorem LS1_any (nd ne ak k s n : Int) (w : World) :
    Calls Try.prog 44 #[.agg #[.int .i64 nd, .int .i64 ne, .int .i64 ak, .int .i64 k, .int .i64 s], .int .i64 n] w fun e w' => e = .returned (.agg #[.int .i64 nd, .int .i64 ne, .int .i64 ak, .int .i64 k, .int .i64 n]) ∧ Below w.heap.size w w' := by
  go_enter Try.func44, Try.ntmps44
  go_wp2
  go_returns
  exact ⟨rfl, by go_grown⟩

end Go.Proofs.Ytfnbnpjedhcmgaa
