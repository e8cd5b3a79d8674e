/-
  Inverses over a prime: the program's and the reference's. Conditions: those that each contract names.
-/
import Derived.Test.YtcalfblghblhcaaFieldA
namespace Go.Proofs.Ytcalfblghblhcaa
open Go.RowKit

/-- the inverse of a number -/
def invN (p x : Int) : Nat := if x * 1 % p = 1 then 1 else if x * 2 % p = 1 then 2 else if x * 3 % p = 1 then 3 else if x * 4 % p = 1 then 4 else if x * 5 % p = 1 then 5 else if x * 6 % p = 1 then 6 else 0
def inv (p x : Int) : Int := invN p x

theorem inv_ok {p x : Int} (hp : isP p = true) (h1 : 1 ≤ x) (h2 : x ≤ p - 1) : 1 ≤ inv p x ∧ inv p x ≤ p - 1 ∧ x * inv p x % p = 1 ∧ ∀ k : Nat, 1 ≤ k → (k : Int) < inv p x → x * k % p ≠ 1 := by
  have hx : (p = 2 ∧ x = 1) ∨ (p = 3 ∧ (x = 1 ∨ x = 2)) ∨ (p = 5 ∧ (x = 1 ∨ x = 2 ∨ x = 3 ∨ x = 4)) ∨ (p = 7 ∧ (x = 1 ∨ x = 2 ∨ x = 3 ∨ x = 4 ∨ x = 5 ∨ x = 6)) := by
    rcases isP_true.1 hp with rfl | rfl | rfl | rfl <;> omega
  have h6 : invN p x ≤ 6 := by unfold invN; (repeat' split) <;> omega
  have key : (1 ≤ inv p x ∧ inv p x ≤ p - 1 ∧ x * inv p x % p = 1 ∧ ∀ k : Nat, k < 7 → 1 ≤ k → (k : Int) < inv p x → x * k % p ≠ 1) := by
    rcases hx with ⟨rfl, rfl⟩ | ⟨rfl, rfl | rfl⟩ | ⟨rfl, rfl | rfl | rfl | rfl⟩ | ⟨rfl, rfl | rfl | rfl | rfl | rfl | rfl⟩ <;> decide
  exact ⟨key.1, key.2.1, key.2.2.1, fun k hk hlt => key.2.2.2 k (by unfold inv at hlt; omega) hk hlt⟩

theorem inverseS_any (p x : Int) (w : World) (hp : isP p = true) (h1 : 1 ≤ x) (h2 : x ≤ p - 1) :
    Calls Try.prog 95 #[.int .i64 p, .int .i64 x] w fun e w' => e = .returned (.int .i64 (inv p x)) ∧ w = w' := by
  obtain ⟨a1, a2, a3, a4⟩ := inv_ok hp h1 h2
  have hp7 : p ≤ 7 := by rcases isP_true.1 hp with rfl | rfl | rfl | rfl <;> omega
  obtain ⟨y, hy⟩ : ∃ y, inv p x = y := ⟨_, rfl⟩
  rw [hy] at a1 a2 a3 a4 ⊢
  have A3 := hide a3
  have A4 := hide a4
  clear a3 a4 hy
  go_enter Try.func95, Try.ntmps95
  go_wp2
  go_loop [5] (fun i => ∃ k : Nat, 1 ≤ k ∧ (k : Int) ≤ y ∧ i = .int .i64 k) (fun i => 8 - (intOf i).toNat)
  case atStart => exact ⟨1, by omega, by omega, rfl⟩
  case round =>
    obtain ⟨k, hk1, hk2, rfl⟩ := hrel
    have hb1 : 0 ≤ x * k := Int.mul_nonneg (by omega) (by omega)
    have hb2 : x * k ≤ 49 := by have := Int.mul_le_mul (show x ≤ 7 by omega) (show (k : Int) ≤ 7 by omega) (by omega) (by omega); omega
    by_cases he : (k : Int) = y
    · have he' : (x * (k : Int) % p == 1) = true := by rw [he]; simp [A3.out]
      subst he
      go_wp2
      go_ret
      exact ⟨rfl, rfl⟩
    · have he' : (x * (k : Int) % p == 1) = false := by simpa using A4.out k hk1 (by omega)
      have hlt : (k : Int) < p := by omega
      go_wp2
      go_round
      case rel => exact ⟨k + 1, by omega, by omega, by go_num⟩
      case measure => simp [intOf]; omega

theorem inverseI_any (p x : Int) (w : World) (hp : isP p = true) (h1 : 1 ≤ x) (h2 : x ≤ p - 1) :
    Calls Try.prog 93 #[.int .i64 p, .int .i64 x] w fun e w' => e = .returned (.int .i64 (inv p x)) ∧ w = w' := by
  obtain ⟨a1, a2, a3, a4⟩ := inv_ok hp h1 h2
  have hp7 : 2 ≤ p ∧ p ≤ 7 := by rcases isP_true.1 hp with rfl | rfl | rfl | rfl <;> omega
  obtain ⟨y, hy⟩ : ∃ y, inv p x = y := ⟨_, rfl⟩
  rw [hy] at a1 a2 a3 a4 ⊢
  have A3 := hide a3
  have A4 := hide a4
  clear a3 a4 hy
  go_enter Try.func93, Try.ntmps93
  go_wp2_with fail
  go_loop [5] (fun i => ∃ k : Nat, 1 ≤ k ∧ (k : Int) ≤ y ∧ i = .int .i64 k) (fun i => 8 - (intOf i).toNat)
  case atStart => exact ⟨1, by omega, by omega, rfl⟩
  case round =>
    obtain ⟨k, hk1, hk2, rfl⟩ := hrel
    have hb1 : 0 ≤ x * k := Int.mul_nonneg (by omega) (by omega)
    have hb2 : x * k ≤ 49 := by have := Int.mul_le_mul (show x ≤ 7 by omega) (show (k : Int) ≤ 7 by omega) (by omega) (by omega); omega
    go_wp2_with fail
    refine (rest_any p (x * k) _ hp7 (by omega)).mono ?_
    rintro e w' ⟨rfl, rfl⟩
    by_cases he : (k : Int) = y
    · have he' : (x * (k : Int) % p != 1) = false := by rw [he]; simp [A3.out]
      subst he
      go_wp2_with fail
      go_ret
      exact ⟨rfl, rfl⟩
    · have he' : (x * (k : Int) % p != 1) = true := by simpa using A4.out k hk1 (by omega)
      have hlt : (k : Int) < p := by omega
      go_wp2_with fail
      go_round
      case rel => exact ⟨k + 1, by omega, by omega, by go_num⟩
      case measure => simp [intOf]; omega

end Go.Proofs.Ytcalfblghblhcaa
