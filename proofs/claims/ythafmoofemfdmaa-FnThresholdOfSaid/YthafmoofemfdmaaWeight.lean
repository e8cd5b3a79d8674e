/-
  The number of bits set: weight (reference), size (program), for numbers below 256. Conditions: the number is below 256.
-/
import Derived.Test.YthafmoofemfdmaaBits
namespace Go.Proofs.Ythafmoofemfdmaa
open Go.RowKit

def wtF : Nat → Nat → Nat | 0, _ => 0 | k + 1, s => s % 2 + wtF k (s / 2)
/-- the number of bits set in a number below 256 -/
def wt (s : Nat) : Nat := wtF 8 s
theorem wt_small : ∀ s, s < 256 → wt s = s % 2 + wt (s / 2) ∧ wt s ≤ 8 := by decide +kernel
theorem wt_zero : wt 0 = 0 := by decide
theorem weightL_any (s : Nat) (w : World) (hs : s < 256) :
    Calls Try.prog 41 #[.int .i64 s] w fun e w' => e = .returned (.int .i64 (wt s)) ∧ w = w' := by
  have HW := hide wt_small
  have HZ := hide wt_zero
  have hs8 := (wt_small s hs).2
  go_enter Try.func41, Try.ntmps41
  go_wp2_with fail
  go_loop [0, 3] (fun x v => ∃ y a : Nat, y < 256 ∧ x = .int .i64 y ∧ v = .int .i64 a ∧ a + wt y = wt s) (fun x _ => (intOf x).toNat)
  case atStart => exact ⟨s, 0, hs, rfl, rfl, by omega⟩
  case round =>
    obtain ⟨y, a, hy, rfl, rfl, ha⟩ := hrel
    have HA := hide ha
    have hal : a ≤ 8 := by omega
    clear ha
    by_cases hlt : 0 < y
    · go_wp2_with fail
      go_round
      case rel => exact ⟨y / 2, a + y % 2, by omega, by go_num, by go_num, by have := HA.out; have := (HW.out y hy).1; omega⟩
      case measure => simp [intOf]; omega
    · obtain rfl : y = 0 := by omega
      have e : a = wt s := by have := HA.out; rw [HZ.out] at this; exact this
      clear HA HZ HW
      subst e
      go_wp2_with fail
      go_ret
      exact ⟨rfl, rfl⟩

end Go.Proofs.Ythafmoofemfdmaa
