/-
  The stores: each function of the program and of the reference returns what a plain function computes. Conditions: none but those that each contract names.
-/
import Derived.Test.YtfnbnpjedhcmgaaRows
import Derived.Test.YtfnbnpjedhcmgaaBase
namespace Go.Proofs.Ytfnbnpjedhcmgaa
open Go.RowKit

theorem inRange_any (n lo hi : Int) (w : World) :
    Calls Try.prog 34 #[.int .i64 n, .int .i64 lo, .int .i64 hi] w fun e w' => e = .returned (.bool (inR n lo hi)) ∧ w = w' := by
  go_enter Try.func34, Try.ntmps34
  go_wp2
  all_goals go_ret
  all_goals exact ⟨ret_bool (by simp [inR]; omega), rfl⟩

theorem within_any (n lo hi : Int) (w : World) :
    Calls Try.prog 35 #[.int .i64 n, .int .i64 lo, .int .i64 hi] w fun e w' => e = .returned (.bool (inR n lo hi)) ∧ w = w' := by
  go_enter Try.func35, Try.ntmps35
  go_wp2
  all_goals go_ret
  all_goals exact ⟨ret_bool (by simp [inR]; omega), rfl⟩

theorem amountOk_any (n : Int) (w : World) :
    Calls Try.prog 37 #[.int .i64 n] w fun e w' => e = .returned (.bool (inR n 0 20)) ∧ w = w' := by
  go_enter Try.func37, Try.ntmps37
  go_wp2_with (go_at_call 35; refine (within_any _ _ _ _).mono ?_; rintro e w' ⟨rfl, rfl⟩)
  go_ret
  exact ⟨rfl, rfl⟩

/-- the store is valid -/
def vSt (nd ne ak k s : Int) : Bool := inR nd 2 6 && inR ne 1 (nd - 1) && inR ak ne (nd - 1) && inR k 0 20 && inR s 0 20

theorem validStoreS_any (nd ne ak k s : Int) (w : World) :
    Calls Try.prog 36 #[.agg #[.int .i64 nd, .int .i64 ne, .int .i64 ak, .int .i64 k, .int .i64 s]] w fun e w' => e = .returned (.bool (vSt nd ne ak k s)) ∧ Below w.heap.size w w' := by
  cases h1 : inR nd 2 6
  · refine calls_bool (a := false) (by simp [vSt, h1]) ?_
    go_enter Try.func36, Try.ntmps36
    go_wp2_with (go_at_call 34; refine (inRange_any _ _ _ _).mono ?_; rintro e w' ⟨rfl, rfl⟩)
    go_ret
    exact ⟨rfl, by go_grown⟩
  have b1 := inR_true.1 h1
  cases h2 : inR ne 1 (nd - 1)
  · refine calls_bool (a := false) (by simp [vSt, h1, h2]) ?_
    go_enter Try.func36, Try.ntmps36
    go_wp2_with (go_at_call 34; refine (inRange_any _ _ _ _).mono ?_; rintro e w' ⟨rfl, rfl⟩)
    go_ret
    exact ⟨rfl, by go_grown⟩
  cases h3 : inR ak ne (nd - 1)
  · refine calls_bool (a := false) (by simp [vSt, h1, h2, h3]) ?_
    go_enter Try.func36, Try.ntmps36
    go_wp2_with (go_at_call 34; refine (inRange_any _ _ _ _).mono ?_; rintro e w' ⟨rfl, rfl⟩)
    go_ret
    exact ⟨rfl, by go_grown⟩
  cases h4 : inR k 0 20
  · refine calls_bool (a := false) (by simp [vSt, h1, h2, h3, h4]) ?_
    go_enter Try.func36, Try.ntmps36
    go_wp2_with (go_at_call 34; refine (inRange_any _ _ _ _).mono ?_; rintro e w' ⟨rfl, rfl⟩)
    go_ret
    exact ⟨rfl, by go_grown⟩
  · refine calls_bool (a := inR s 0 20) (by simp [vSt, h1, h2, h3, h4]) ?_
    go_enter Try.func36, Try.ntmps36
    go_wp2_with (go_at_call 34; refine (inRange_any _ _ _ _).mono ?_; rintro e w' ⟨rfl, rfl⟩)
    go_ret
    exact ⟨rfl, by go_grown⟩
end Go.Proofs.Ytfnbnpjedhcmgaa
