/-
  The stores, continued: validity, capacity, StuckGrid, copies and comparisons. Conditions: those that each contract names.
-/
import Derived.Test.YtfnbnpjedhcmgaaStore
namespace Go.Proofs.Ytfnbnpjedhcmgaa
open Go.RowKit

def stuck (r c br bc : Int) : Int × Bool :=
  if inR r 1 6 && inR c 1 7 && inR br 0 7 && inR bc 0 7 && decide (br < c) && decide (bc < r) then ((br + 1) * (bc + 1), true) else (0, false)

theorem calls_two {P : Program} {f : FuncId} {args : Array Value} {w : World} {a b : Value} {a' b' : Value} {Q : World → Prop} (hv : a = a') (hv2 : b = b')
    (h : Calls P f args w fun e w' => e = .returned (.tuple #[a, b]) ∧ Q w') : Calls P f args w fun e w' => e = .returned (.tuple #[a', b']) ∧ Q w' := by subst hv; subst hv2; exact h

theorem spec_StuckGrid_any (r c br bc : Int) (w : World) :
    Calls Try.prog 15 #[.int .i64 r, .int .i64 c, .int .i64 br, .int .i64 bc] w fun e w' => e = .returned (.tuple #[.int .i64 (stuck r c br bc).1, .bool (stuck r c br bc).2]) ∧ w = w' := by
  cases h0 : inR r 1 6
  · refine calls_two (a := .int .i64 0) (b := .bool false) (by simp [stuck, h0]) (by simp [stuck, h0]) ?_
    go_enter Try.func15, Try.ntmps15
    go_wp2_with (go_at_call 34; refine (inRange_any _ _ _ _).mono ?_; rintro e w' ⟨rfl, rfl⟩)
    go_ret2
    exact ⟨rfl, rfl⟩
  cases h1 : inR c 1 7
  · refine calls_two (a := .int .i64 0) (b := .bool false) (by simp [stuck, h0, h1]) (by simp [stuck, h0, h1]) ?_
    go_enter Try.func15, Try.ntmps15
    go_wp2_with (go_at_call 34; refine (inRange_any _ _ _ _).mono ?_; rintro e w' ⟨rfl, rfl⟩)
    go_ret2
    exact ⟨rfl, rfl⟩
  cases h2 : inR br 0 7
  · refine calls_two (a := .int .i64 0) (b := .bool false) (by simp [stuck, h0, h1, h2]) (by simp [stuck, h0, h1, h2]) ?_
    go_enter Try.func15, Try.ntmps15
    go_wp2_with (go_at_call 34; refine (inRange_any _ _ _ _).mono ?_; rintro e w' ⟨rfl, rfl⟩)
    go_ret2
    exact ⟨rfl, rfl⟩
  cases h3 : inR bc 0 7
  · refine calls_two (a := .int .i64 0) (b := .bool false) (by simp [stuck, h0, h1, h2, h3]) (by simp [stuck, h0, h1, h2, h3]) ?_
    go_enter Try.func15, Try.ntmps15
    go_wp2_with (go_at_call 34; refine (inRange_any _ _ _ _).mono ?_; rintro e w' ⟨rfl, rfl⟩)
    go_ret2
    exact ⟨rfl, rfl⟩
  have b2 := inR_true.1 h2
  have b3 := inR_true.1 h3
  by_cases h4 : br < c
  · by_cases h5 : bc < r
    · refine calls_two (a := .int .i64 ((br + 1) * (bc + 1))) (b := .bool true) (by simp [stuck, h0, h1, h2, h3, h4, h5]) (by simp [stuck, h0, h1, h2, h3, h4, h5]) ?_
      have hm : IntKind.i64.wrap ((br + 1) * (bc + 1)) = (br + 1) * (bc + 1) := by
        have h1 : (br + 1) * (bc + 1) ≤ 8 * 8 := Int.mul_le_mul (by omega) (by omega) (by omega) (by omega)
        have h2 : 0 ≤ (br + 1) * (bc + 1) := Int.mul_nonneg (by omega) (by omega)
        exact IntWalk.i64_in _ (by omega)
      go_enter Try.func15, Try.ntmps15
      go_wp2_with (go_at_call 34; refine (inRange_any _ _ _ _).mono ?_; rintro e w' ⟨rfl, rfl⟩)
      go_ret2
      exact ⟨rfl, rfl⟩
    · refine calls_two (a := .int .i64 0) (b := .bool false) (by simp [stuck, h0, h1, h2, h3, h4, h5]) (by simp [stuck, h0, h1, h2, h3, h4, h5]) ?_
      go_enter Try.func15, Try.ntmps15
      go_wp2_with (go_at_call 34; refine (inRange_any _ _ _ _).mono ?_; rintro e w' ⟨rfl, rfl⟩)
      go_ret2
      exact ⟨rfl, rfl⟩
  · refine calls_two (a := .int .i64 0) (b := .bool false) (by simp [stuck, h0, h1, h2, h3, h4]) (by simp [stuck, h0, h1, h2, h3, h4]) ?_
    go_enter Try.func15, Try.ntmps15
    go_wp2_with (go_at_call 34; refine (inRange_any _ _ _ _).mono ?_; rintro e w' ⟨rfl, rfl⟩)
    go_ret2
    exact ⟨rfl, rfl⟩

theorem impl_StuckGrid_any (r c br bc : Int) (w : World) :
    Calls Try.prog 16 #[.int .i64 r, .int .i64 c, .int .i64 br, .int .i64 bc] w fun e w' => e = .returned (.tuple #[.int .i64 (stuck r c br bc).1, .bool (stuck r c br bc).2]) ∧ w = w' := by
  cases h0 : inR r 1 6
  · refine calls_two (a := .int .i64 0) (b := .bool false) (by simp [stuck, h0]) (by simp [stuck, h0]) ?_
    go_enter Try.func16, Try.ntmps16
    go_wp2_with (go_at_call 35; refine (within_any _ _ _ _).mono ?_; rintro e w' ⟨rfl, rfl⟩)
    go_ret2
    exact ⟨rfl, rfl⟩
  cases h1 : inR c 1 7
  · refine calls_two (a := .int .i64 0) (b := .bool false) (by simp [stuck, h0, h1]) (by simp [stuck, h0, h1]) ?_
    go_enter Try.func16, Try.ntmps16
    go_wp2_with (go_at_call 35; refine (within_any _ _ _ _).mono ?_; rintro e w' ⟨rfl, rfl⟩)
    go_ret2
    exact ⟨rfl, rfl⟩
  cases h2 : inR br 0 7
  · refine calls_two (a := .int .i64 0) (b := .bool false) (by simp [stuck, h0, h1, h2]) (by simp [stuck, h0, h1, h2]) ?_
    go_enter Try.func16, Try.ntmps16
    go_wp2_with (go_at_call 35; refine (within_any _ _ _ _).mono ?_; rintro e w' ⟨rfl, rfl⟩)
    go_ret2
    exact ⟨rfl, rfl⟩
  cases h3 : inR bc 0 7
  · refine calls_two (a := .int .i64 0) (b := .bool false) (by simp [stuck, h0, h1, h2, h3]) (by simp [stuck, h0, h1, h2, h3]) ?_
    go_enter Try.func16, Try.ntmps16
    go_wp2_with (go_at_call 35; refine (within_any _ _ _ _).mono ?_; rintro e w' ⟨rfl, rfl⟩)
    go_ret2
    exact ⟨rfl, rfl⟩
  have b2 := inR_true.1 h2
  have b3 := inR_true.1 h3
  by_cases h4 : br < c
  · by_cases h5 : bc < r
    · refine calls_two (a := .int .i64 ((br + 1) * (bc + 1))) (b := .bool true) (by simp [stuck, h0, h1, h2, h3, h4, h5]) (by simp [stuck, h0, h1, h2, h3, h4, h5]) ?_
      have hm : IntKind.i64.wrap ((br + 1) * (bc + 1)) = (br + 1) * (bc + 1) := by
        have h1 : (br + 1) * (bc + 1) ≤ 8 * 8 := Int.mul_le_mul (by omega) (by omega) (by omega) (by omega)
        have h2 : 0 ≤ (br + 1) * (bc + 1) := Int.mul_nonneg (by omega) (by omega)
        exact IntWalk.i64_in _ (by omega)
      go_enter Try.func16, Try.ntmps16
      go_wp2_with (go_at_call 35; refine (within_any _ _ _ _).mono ?_; rintro e w' ⟨rfl, rfl⟩)
      go_ret2
      exact ⟨rfl, rfl⟩
    · refine calls_two (a := .int .i64 0) (b := .bool false) (by simp [stuck, h0, h1, h2, h3, h4, h5]) (by simp [stuck, h0, h1, h2, h3, h4, h5]) ?_
      go_enter Try.func16, Try.ntmps16
      go_wp2_with (go_at_call 35; refine (within_any _ _ _ _).mono ?_; rintro e w' ⟨rfl, rfl⟩)
      go_ret2
      exact ⟨rfl, rfl⟩
  · refine calls_two (a := .int .i64 0) (b := .bool false) (by simp [stuck, h0, h1, h2, h3, h4]) (by simp [stuck, h0, h1, h2, h3, h4]) ?_
    go_enter Try.func16, Try.ntmps16
    go_wp2_with (go_at_call 35; refine (within_any _ _ _ _).mono ?_; rintro e w' ⟨rfl, rfl⟩)
    go_ret2
    exact ⟨rfl, rfl⟩


theorem ValidStoreS_any (nd ne ak k s : Int) (w : World) :
    Calls Try.prog 17 #[.agg #[.int .i64 nd, .int .i64 ne, .int .i64 ak, .int .i64 k, .int .i64 s]] w fun e w' => e = .returned (.bool (vSt nd ne ak k s)) ∧ Below w.heap.size w w' := by
  go_enter Try.func17, Try.ntmps17
  go_wp2_with (first | (go_at_call 36; refine (validStoreS_any _ _ _ _ _ _).mono ?_; rintro e w' ⟨rfl, hb⟩))
  go_ret
  exact ⟨rfl, up hb (by go_grown) (by simp)⟩

theorem ValidStoreI_any (nd ne ak k s : Int) (w : World) :
    Calls Try.prog 19 #[.agg #[.int .i64 nd, .int .i64 ne, .int .i64 ak, .int .i64 k, .int .i64 s]] w fun e w' => e = .returned (.bool (vSt nd ne ak k s)) ∧ Below w.heap.size w w' := by
  cases h0 : inR nd 2 6
  · refine calls_bool (a := false) (by simp [vSt, h0]) ?_
    go_enter Try.func19, Try.ntmps19
    go_wp2_with (first | (go_at_call 35; refine (within_any _ _ _ _).mono ?_; rintro e w' ⟨rfl, rfl⟩) | (go_at_call 37; refine (amountOk_any _ _).mono ?_; rintro e w' ⟨rfl, rfl⟩))
    go_ret
    exact ⟨rfl, by go_grown⟩
  have b1 := inR_true.1 h0
  cases h1 : inR ne 1 (nd - 1)
  · refine calls_bool (a := false) (by simp [vSt, h0, h1]) ?_
    go_enter Try.func19, Try.ntmps19
    go_wp2_with (first | (go_at_call 35; refine (within_any _ _ _ _).mono ?_; rintro e w' ⟨rfl, rfl⟩) | (go_at_call 37; refine (amountOk_any _ _).mono ?_; rintro e w' ⟨rfl, rfl⟩))
    go_ret
    exact ⟨rfl, by go_grown⟩
  cases h2 : inR ak ne (nd - 1)
  · refine calls_bool (a := false) (by simp [vSt, h0, h1, h2]) ?_
    go_enter Try.func19, Try.ntmps19
    go_wp2_with (first | (go_at_call 35; refine (within_any _ _ _ _).mono ?_; rintro e w' ⟨rfl, rfl⟩) | (go_at_call 37; refine (amountOk_any _ _).mono ?_; rintro e w' ⟨rfl, rfl⟩))
    go_ret
    exact ⟨rfl, by go_grown⟩
  cases h3 : inR k 0 20
  · refine calls_bool (a := false) (by simp [vSt, h0, h1, h2, h3]) ?_
    go_enter Try.func19, Try.ntmps19
    go_wp2_with (first | (go_at_call 35; refine (within_any _ _ _ _).mono ?_; rintro e w' ⟨rfl, rfl⟩) | (go_at_call 37; refine (amountOk_any _ _).mono ?_; rintro e w' ⟨rfl, rfl⟩))
    go_ret
    exact ⟨rfl, by go_grown⟩
  · refine calls_bool (a := inR s 0 20) (by simp [vSt, h0, h1, h2, h3]) ?_
    go_enter Try.func19, Try.ntmps19
    go_wp2_with (first | (go_at_call 35; refine (within_any _ _ _ _).mono ?_; rintro e w' ⟨rfl, rfl⟩) | (go_at_call 37; refine (amountOk_any _ _).mono ?_; rintro e w' ⟨rfl, rfl⟩))
    go_ret
    exact ⟨rfl, by go_grown⟩

end Go.Proofs.Ytfnbnpjedhcmgaa
