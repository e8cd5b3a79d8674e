/-
  Numbers over a prime: the program's field and the reference's inverse. Conditions: those that each contract names.
-/
import Derived.Test.YtcalfblghblhcaaSlices
namespace Go.Proofs.Ytcalfblghblhcaa
open Go.RowKit

/-- p is one of the primes -/
def isP (p : Int) : Bool := decide (p = 2 ∨ p = 3 ∨ p = 5 ∨ p = 7)
theorem isP_true {p : Int} : isP p = true ↔ p = 2 ∨ p = 3 ∨ p = 5 ∨ p = 7 := by simp [isP]
theorem isP_false {p : Int} : isP p = false ↔ ¬ (p = 2 ∨ p = 3 ∨ p = 5 ∨ p = 7) := by rw [← isP_true]; simp

theorem isPrime_any (p : Int) (w : World) :
    Calls Try.prog 87 #[.int .i64 p] w fun e w' => e = .returned (.bool (isP p)) ∧ w = w' := by
  by_cases h2 : p = 2
  · subst h2
    go_enter Try.func87, Try.ntmps87
    go_wp2
    go_ret
    exact ⟨rfl, rfl⟩
  by_cases h3 : p = 3
  · subst h3
    go_enter Try.func87, Try.ntmps87
    go_wp2
    go_ret
    exact ⟨rfl, rfl⟩
  by_cases h5 : p = 5
  · subst h5
    go_enter Try.func87, Try.ntmps87
    go_wp2
    go_ret
    exact ⟨rfl, rfl⟩
  have e2 : (p == 2) = false := by simp [h2]
  have e3 : (p == 3) = false := by simp [h3]
  have e5 : (p == 5) = false := by simp [h5]
  have hp : (p == 7) = isP p := by
    rw [Bool.eq_iff_iff, isP_true]; simp; omega
  have HP := hide hp
  clear hp h2 h3 h5
  go_enter Try.func87, Try.ntmps87
  go_wp2
  go_ret
  exact ⟨ret_bool HP.out, rfl⟩

def primeAt : Nat → Int | 0 => 2 | 1 => 3 | 2 => 5 | _ => 7

theorem fieldOf_any (p : Int) (w : World) :
    Calls Try.prog 88 #[.int .i64 p] w fun e w' => e = .returned (.tuple #[.int .i64 p, .bool (isP p)]) ∧ Below w.heap.size w w' := by
  go_enter Try.func88, Try.ntmps88
  go_wp2_with fail
  refine (slContains_any _ 4 4 primeAt p _ (by omega) (fun _ => ⟨w.heap.size, 0, rfl, by simp, fun i hi => ?_⟩)).mono ?_
  · rw [cell_of_row _ _ _ _ _ _ (heap_alloc_new w _)]
    match i, hi with
    | 0, _ => rfl
    | 1, _ => rfl
    | 2, _ => rfl
    | 3, _ => rfl
  · rintro e w' ⟨rfl, rfl⟩
    go_wp2_with fail
    go_ret2
    have hp : hasB 4 primeAt p = isP p := by
      rw [Bool.eq_iff_iff, hasB_true, isP_true]
      constructor
      · rintro ⟨i, hi, h⟩
        match i, hi with
        | 0, _ => exact .inl h.symm
        | 1, _ => exact .inr (.inl h.symm)
        | 2, _ => exact .inr (.inr (.inl h.symm))
        | 3, _ => exact .inr (.inr (.inr h.symm))
      · rintro (rfl | rfl | rfl | rfl)
        · exact ⟨0, by omega, rfl⟩
        · exact ⟨1, by omega, rfl⟩
        · exact ⟨2, by omega, rfl⟩
        · exact ⟨3, by omega, rfl⟩
    exact ⟨by rw [← hp]; rfl, by go_grown⟩

theorem within_any (n lo hi : Int) (w : World) :
    Calls Try.prog 79 #[.int .i64 n, .int .i64 lo, .int .i64 hi] w fun e w' => e = .returned (.bool (inR n lo hi)) ∧ w = w' := by
  go_enter Try.func79, Try.ntmps79
  go_wp2
  all_goals go_ret
  all_goals exact ⟨ret_bool (by simp [inR]; omega), rfl⟩
theorem inRange_any (n lo hi : Int) (w : World) :
    Calls Try.prog 44 #[.int .i64 n, .int .i64 lo, .int .i64 hi] w fun e w' => e = .returned (.bool (inR n lo hi)) ∧ w = w' := by
  go_enter Try.func44, Try.ntmps44
  go_wp2
  all_goals go_ret
  all_goals exact ⟨ret_bool (by simp [inR]; omega), rfl⟩

theorem tmod_bd (n p : Int) (hp : 0 < p) : -p < n.tmod p ∧ n.tmod p < p ∧ (n.tmod p + p) % p = n % p := by
  rcases Int.le_total 0 n with h | h
  · have e : n.tmod p = n % p := Int.tmod_eq_emod_of_nonneg h
    have h1 := Int.emod_nonneg n (show p ≠ 0 by omega)
    have h2 := Int.emod_lt_of_pos n hp
    rw [e]
    exact ⟨by omega, h2, by rw [Int.add_emod_right]; exact Int.emod_emod_of_dvd _ (Int.dvd_refl p)⟩
  · obtain ⟨m, rfl⟩ : ∃ m, n = -m := ⟨-n, by omega⟩
    have e : (-m).tmod p = -(m % p) := by rw [Int.neg_tmod, Int.tmod_eq_emod_of_nonneg (by omega)]
    have h1 := Int.emod_nonneg m (show p ≠ 0 by omega)
    have h2 := Int.emod_lt_of_pos m hp
    rw [e]
    refine ⟨by omega, by omega, ?_⟩
    rw [Int.add_emod_right]
    have : -(m % p) = -m + p * (m / p) := by have := Int.emod_add_mul_ediv m p; omega
    rw [this, Int.add_mul_emod_self_left]

theorem rest_any (p n : Int) (w : World) (hp : 2 ≤ p ∧ p ≤ 7) (hn : -1000000000000 ≤ n ∧ n ≤ 1000000000000) :
    Calls Try.prog 54 #[.int .i64 p, .int .i64 n] w fun e w' => e = .returned (.int .i64 (n % p)) ∧ w = w' := by
  obtain ⟨b2, b1, b3⟩ := tmod_bd n p (by omega)
  have B3 := hide b3
  clear b3
  by_cases h0 : 0 ≤ n
  · have q1 := Int.emod_nonneg n (show p ≠ 0 by omega)
    have q2 := Int.emod_lt_of_pos n (show 0 < p by omega)
    go_enter Try.func54, Try.ntmps54
    go_wp2
    go_ret
    exact ⟨ret_int (by first | (simp; done) | (rw [Int.add_emod_right]; exact Int.emod_emod_of_dvd _ (Int.dvd_refl p))), rfl⟩
  · go_enter Try.func54, Try.ntmps54
    go_wp2
    go_ret
    exact ⟨ret_int (by first | exact B3.out | (rw [← B3.out, Int.add_emod_right])), rfl⟩
end Go.Proofs.Ytcalfblghblhcaa
