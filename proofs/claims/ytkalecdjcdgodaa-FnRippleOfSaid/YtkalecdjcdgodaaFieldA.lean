/-
  Numbers over a prime: the program's field and the reference's inverse. Conditions: those that each contract names.
-/
import Derived.Test.YtkalecdjcdgodaaSlices
namespace Go.Proofs.Ytkalecdjcdgodaa
open Go.RowKit

/-- p is one of the primes -/
def isP (p : Int) : Bool := decide (p = 2 ∨ p = 3 ∨ p = 5 ∨ p = 7)
theorem isP_true {p : Int} : isP p = true ↔ p = 2 ∨ p = 3 ∨ p = 5 ∨ p = 7 := by simp [isP]
theorem isP_false {p : Int} : isP p = false ↔ ¬ (p = 2 ∨ p = 3 ∨ p = 5 ∨ p = 7) := by rw [← isP_true]; simp

theorem within_any (n lo hi : Int) (w : World) :
    Calls Try.prog 55 #[.int .i64 n, .int .i64 lo, .int .i64 hi] w fun e w' => e = .returned (.bool (inR n lo hi)) ∧ w = w' := by
  go_enter Try.func55, Try.ntmps55
  go_wp2
  all_goals go_ret
  all_goals exact ⟨ret_bool (by simp [inR]; omega), rfl⟩
theorem inRange_any (n lo hi : Int) (w : World) :
    Calls Try.prog 56 #[.int .i64 n, .int .i64 lo, .int .i64 hi] w fun e w' => e = .returned (.bool (inR n lo hi)) ∧ w = w' := by
  go_enter Try.func56, Try.ntmps56
  go_wp2
  all_goals go_ret
  all_goals exact ⟨ret_bool (by simp [inR]; omega), rfl⟩

theorem tmod_bd (n p : Int) (hp : 0 < p) : -p < n.tmod p ∧ n.tmod p < p ∧ (n.tmod p + p) % p = n % p := by
  rcases Int.le_total 0 n with h | h
  · have e : n.tmod p = n % p := Int.tmod_eq_emod_of_nonneg h
    have h1 := Int.emod_nonneg n (show p ≠ 0 by omega)
    have h2 := Int.emod_lt_of_pos n hp
    rw [e]
    exact ⟨by omega, h2, by rw [Int.add_emod_right]; exact Int.emod_emod_of_dvd _ (Int.dvd_refl p)⟩
  · obtain ⟨m, rfl⟩ : ∃ m, n = -m := ⟨-n, by omega⟩
    have e : (-m).tmod p = -(m % p) := by rw [Int.neg_tmod, Int.tmod_eq_emod_of_nonneg (by omega)]
    have h1 := Int.emod_nonneg m (show p ≠ 0 by omega)
    have h2 := Int.emod_lt_of_pos m hp
    rw [e]
    refine ⟨by omega, by omega, ?_⟩
    rw [Int.add_emod_right]
    have : -(m % p) = -m + p * (m / p) := by have := Int.emod_add_mul_ediv m p; omega
    rw [this, Int.add_mul_emod_self_left]

end Go.Proofs.Ytkalecdjcdgodaa
