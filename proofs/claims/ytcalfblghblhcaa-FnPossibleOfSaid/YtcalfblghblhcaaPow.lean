/-
  Powers and their rests: the reference's powerBy and the program's power. Conditions: those that each contract names.
-/
import Derived.Test.YtcalfblghblhcaaFieldA
namespace Go.Proofs.Ytcalfblghblhcaa
open Go.RowKit

/-- the rest of a power -/
def pmod (p x : Int) : Nat → Int | 0 => 1 | i + 1 => pmod p x i * x % p
/-- a power -/
def pw (x : Int) : Nat → Int | 0 => 1 | i + 1 => pw x i * x
theorem pmod_bd {p x : Int} (hp : 2 ≤ p ∧ p ≤ 7) : ∀ i, 0 ≤ pmod p x i ∧ pmod p x i ≤ 6
  | 0 => by simp [pmod]
  | i + 1 => by
    have h1 := Int.emod_nonneg (pmod p x i * x) (show p ≠ 0 by omega)
    have h2 := Int.emod_lt_of_pos (pmod p x i * x) (show 0 < p by omega)
    simp only [pmod]
    omega
theorem pw_mod {p x : Int} (hp : 2 ≤ p) : ∀ i, pw x i % p = pmod p x i
  | 0 => by simp only [pw, pmod]; exact Int.emod_eq_of_lt (by omega) (by omega)
  | i + 1 => by
    simp only [pw, pmod]
    rw [← pw_mod hp i, Int.mul_emod (pw x i) x, Int.mul_emod (pw x i % p) x, Int.emod_emod_of_dvd (pw x i) (Int.dvd_refl p)]
theorem pw_bd {x : Int} (hx : 0 ≤ x ∧ x ≤ 7) : ∀ i, i ≤ 4 → 0 ≤ pw x i ∧ pw x i ≤ 2401
  | 0, _ => by simp [pw]
  | 1, _ => by simp [pw]; omega
  | 2, _ => by
    have h : x = 0 ∨ x = 1 ∨ x = 2 ∨ x = 3 ∨ x = 4 ∨ x = 5 ∨ x = 6 ∨ x = 7 := by omega
    rcases h with rfl | rfl | rfl | rfl | rfl | rfl | rfl | rfl <;> decide
  | 3, _ => by
    have h : x = 0 ∨ x = 1 ∨ x = 2 ∨ x = 3 ∨ x = 4 ∨ x = 5 ∨ x = 6 ∨ x = 7 := by omega
    rcases h with rfl | rfl | rfl | rfl | rfl | rfl | rfl | rfl <;> decide
  | 4, _ => by
    have h : x = 0 ∨ x = 1 ∨ x = 2 ∨ x = 3 ∨ x = 4 ∨ x = 5 ∨ x = 6 ∨ x = 7 := by omega
    rcases h with rfl | rfl | rfl | rfl | rfl | rfl | rfl | rfl <;> decide

theorem powerBy_any (p x : Int) (k : Nat) (w : World) (hp : 2 ≤ p ∧ p ≤ 7) (hx : 0 ≤ x ∧ x ≤ 7) (hk : k ≤ 1000) :
    Calls Try.prog 97 #[.int .i64 p, .int .i64 x, .int .i64 k] w fun e w' => e = .returned (.int .i64 (pmod p x k)) ∧ w = w' := by
  have HB := hide (fun j => pmod_bd (x := x) hp j)
  go_enter Try.func97, Try.ntmps97
  go_wp2
  go_loop [2, 7] (fun i v => ∃ j : Nat, j ≤ k ∧ i = .int .i64 ((k : Int) - j) ∧ v = .int .i64 (pmod p x j)) (fun i _ => (intOf i).toNat)
  case atStart => exact ⟨0, by omega, by simp, rfl⟩
  case round =>
    obtain ⟨j, hj, rfl, rfl⟩ := hrel
    by_cases hlt : j < k
    · have hc := HB.out j
      have HS := hide (show pmod p x (j + 1) = pmod p x j * x % p from rfl)
      generalize pmod p x j = q at *
      have h1 : 0 ≤ q * x := Int.mul_nonneg (by omega) (by omega)
      have h2 : q * x ≤ 42 := by have := Int.mul_le_mul hc.2 hx.2 (by omega) (by omega); omega
      have h0 : (0 : Int) < (k : Int) - j := by omega
      go_wp2
      go_round
      case rel => exact ⟨j + 1, by omega, by go_num, by rw [HS.out]⟩
      case measure => simp [intOf]; omega
    · obtain rfl : j = k := by omega
      go_wp2
      go_ret
      exact ⟨rfl, rfl⟩

end Go.Proofs.Ytcalfblghblhcaa
