/-
  The weights of the best codes. Conditions: those that each contract names.
-/
import Derived.Test.YthafmoofemfdmaaField
import Derived.Test.YthafmoofemfdmaaMem3
namespace Go.Proofs.Ythafmoofemfdmaa
open Go.RowKit

/-- how many sets of k of n there are, by the program's own steps -/
def chN (n : Nat) : Nat → Int
  | 0 => 1
  | i + 1 => chN n i * ((n : Int) - i) / (i + 1)
/-- a power -/
def pwN (p : Int) : Nat → Int
  | 0 => 1
  | i + 1 => pwN p i * p

theorem chN_bd : ∀ n, n < 8 → ∀ k, k < n + 1 → 0 ≤ chN n k ∧ chN n k ≤ 35 := by decide
theorem pwN_bd {p : Int} (hp : 2 ≤ p ∧ p ≤ 7) : ∀ k, 1 ≤ pwN p k ∧ pwN p k ≤ 7 ^ k
  | 0 => by simp [pwN]
  | k + 1 => by
    have h := pwN_bd hp k
    simp only [pwN, Int.pow_succ]
    exact ⟨by have := Int.mul_le_mul h.1 (show 1 ≤ p by omega) (by omega) (by omega); omega, Int.mul_le_mul h.2 hp.2 (by omega) (by have := h.1; omega)⟩
theorem pwN_small {p : Int} (hp : 2 ≤ p ∧ p ≤ 7) (k : Nat) (hk : k ≤ 8) : 1 ≤ pwN p k ∧ pwN p k ≤ 5764801 := by
  have h := pwN_bd hp k
  refine ⟨h.1, Int.le_trans h.2 ?_⟩
  have : (7 : Int) ^ k ≤ 7 ^ 8 := by
    have := Nat.pow_le_pow_right (show 7 > 0 by omega) hk
    exact_mod_cast this
  omega

theorem chooseS_any (n k : Nat) (w : World) (hn : n ≤ 7) (hk : k ≤ n) :
    Calls Try.prog 67 #[.int .i64 n, .int .i64 k] w fun e w' => e = .returned (.int .i64 (chN n k)) ∧ w = w' := by
  go_enter Try.func67, Try.ntmps67
  go_wp2
  go_loop [5, 6] (fun v i => ∃ j : Nat, j ≤ k ∧ i = .int .i64 j ∧ v = .int .i64 (chN n j)) (fun _ i => k - (intOf i).toNat)
  case atStart => exact ⟨0, by omega, rfl, rfl⟩
  case round =>
    obtain ⟨j, hj, rfl, rfl⟩ := hrel
    by_cases hlt : j < k
    · have hc := chN_bd n (by omega) j (by omega)
      have h1 : 0 ≤ chN n j * ((n : Int) - j) := Int.mul_nonneg hc.1 (by omega)
      have h2 : chN n j * ((n : Int) - j) ≤ 245 := by have := Int.mul_le_mul hc.2 (show (n : Int) - j ≤ 7 by omega) (by omega) (by omega); omega
      have h3 : 0 ≤ chN n j * ((n : Int) - j) / ((j : Int) + 1) := Int.ediv_nonneg h1 (by omega)
      go_wp2
      go_round
      case rel => exact ⟨j + 1, by omega, by go_num, rfl⟩
      case measure => simp [intOf]; omega
    · obtain rfl : j = k := by omega
      go_wp2
      go_ret
      exact ⟨rfl, rfl⟩

theorem choicesI_any (n k : Nat) (w : World) (hn : n ≤ 7) (hk : k ≤ n) :
    Calls Try.prog 69 #[.int .i64 n, .int .i64 k] w fun e w' => e = .returned (.int .i64 (chN n k)) ∧ w = w' := by
  go_enter Try.func69, Try.ntmps69
  go_wp2
  go_loop [5, 8] (fun v i => ∃ j : Nat, j ≤ k ∧ i = .int .i64 j ∧ v = .int .i64 (chN n j)) (fun _ i => k - (intOf i).toNat)
  case atStart => exact ⟨0, by omega, rfl, rfl⟩
  case round =>
    obtain ⟨j, hj, rfl, rfl⟩ := hrel
    by_cases hlt : j < k
    · have hc := chN_bd n (by omega) j (by omega)
      have h1 : 0 ≤ chN n j * ((n : Int) - j) := Int.mul_nonneg hc.1 (by omega)
      have h2 : chN n j * ((n : Int) - j) ≤ 245 := by have := Int.mul_le_mul hc.2 (show (n : Int) - j ≤ 7 by omega) (by omega) (by omega); omega
      have h3 : 0 ≤ chN n j * ((n : Int) - j) / ((j : Int) + 1) := Int.ediv_nonneg h1 (by omega)
      go_wp2
      go_round
      case rel => exact ⟨j + 1, by omega, by go_num, rfl⟩
      case measure => simp [intOf]; omega
    · obtain rfl : j = k := by omega
      go_wp2
      go_ret
      exact ⟨rfl, rfl⟩

theorem timesS_any (p : Int) (k : Nat) (w : World) (hp : 2 ≤ p ∧ p ≤ 7) (hk : k ≤ 7) :
    Calls Try.prog 68 #[.int .i64 p, .int .i64 k] w fun e w' => e = .returned (.int .i64 (pwN p k)) ∧ w = w' := by
  go_enter Try.func68, Try.ntmps68
  go_wp2
  go_loop [5, 1] (fun v i => ∃ j : Nat, j ≤ k ∧ i = .int .i64 ((k : Int) - j) ∧ v = .int .i64 (pwN p j)) (fun _ i => (intOf i).toNat)
  case atStart => exact ⟨0, by omega, by go_num, rfl⟩
  case round =>
    obtain ⟨j, hj, rfl, rfl⟩ := hrel
    by_cases hlt : j < k
    · have hc := pwN_small hp j (by omega)
      have h1 : 0 ≤ pwN p j * p := Int.mul_nonneg (by omega) (by omega)
      have h2 : pwN p j * p ≤ 40353607 := by have := Int.mul_le_mul hc.2 hp.2 (by omega) (by omega); omega
      go_wp2
      go_round
      case rel => exact ⟨j + 1, by omega, by go_num, rfl⟩
      case measure => simp [intOf]; omega
    · obtain rfl : j = k := by omega
      go_wp2
      go_ret
      exact ⟨rfl, rfl⟩

theorem powerI_any (p : Int) (k : Nat) (w : World) (hp : 2 ≤ p ∧ p ≤ 7) (hk : k ≤ 7) :
    Calls Try.prog 70 #[.int .i64 p, .int .i64 k] w fun e w' => e = .returned (.int .i64 (pwN p k)) ∧ w = w' := by
  go_enter Try.func70, Try.ntmps70
  go_wp2
  go_loop [5, 7] (fun v i => ∃ j : Nat, j ≤ k ∧ i = .int .i64 j ∧ v = .int .i64 (pwN p j)) (fun _ i => k - (intOf i).toNat)
  case atStart => exact ⟨0, by omega, rfl, rfl⟩
  case round =>
    obtain ⟨j, hj, rfl, rfl⟩ := hrel
    by_cases hlt : j < k
    · have hc := pwN_small hp j (by omega)
      have h1 : 0 ≤ pwN p j * p := Int.mul_nonneg (by omega) (by omega)
      have h2 : pwN p j * p ≤ 40353607 := by have := Int.mul_le_mul hc.2 hp.2 (by omega) (by omega); omega
      go_wp2
      go_round
      case rel => exact ⟨j + 1, by omega, by go_num, rfl⟩
      case measure => simp [intOf]; omega
    · obtain rfl : j = k := by omega
      go_wp2
      go_ret
      exact ⟨rfl, rfl⟩

/-- one term of a weight -/
def bwT (p : Int) (w d j : Nat) : Int := if j % 2 = 1 then -(chN w j * (pwN p (w - d - j + 1) - 1)) else chN w j * (pwN p (w - d - j + 1) - 1)
/-- the sum of the first terms of a weight -/
def bwS (p : Int) (w d : Nat) : Nat → Int
  | 0 => 0
  | j + 1 => bwS p w d j + bwT p w d j
/-- the weights of the best codes -/
def bw (p : Int) (n d w : Nat) : Int := if w = 0 then 1 else if w < d then 0 else chN n w * bwS p w d (w - d + 1)

def BwOk (p : Int) (n k w j : Nat) : Prop := 1 ≤ k → k ≤ n → w ≤ n → n - k + 1 ≤ w → j < w - (n - k + 1) + 2 →
    -1000000 ≤ bwS p w (n - k + 1) j ∧ bwS p w (n - k + 1) j ≤ 1000000 ∧ -1000000 ≤ chN n w * bwS p w (n - k + 1) j ∧ chN n w * bwS p w (n - k + 1) j ≤ 1000000 ∧ -1000000 ≤ chN w j * (pwN p (w - (n - k + 1) - j + 1) - 1) ∧ chN w j * (pwN p (w - (n - k + 1) - j + 1) - 1) ≤ 1000000
instance (p : Int) (n k w j : Nat) : Decidable (BwOk p n k w j) := by unfold BwOk; exact inferInstance
theorem bw_2 : ∀ n, n < 8 → ∀ k, k < 5 → ∀ w, w < 8 → ∀ j, j < 9 → BwOk 2 n k w j := by decide +kernel
theorem bw_3 : ∀ n, n < 8 → ∀ k, k < 5 → ∀ w, w < 8 → ∀ j, j < 9 → BwOk 3 n k w j := by decide +kernel
theorem bw_5 : ∀ n, n < 8 → ∀ k, k < 5 → ∀ w, w < 8 → ∀ j, j < 9 → BwOk 5 n k w j := by decide +kernel
theorem bw_7 : ∀ n, n < 8 → ∀ k, k < 5 → ∀ w, w < 8 → ∀ j, j < 9 → BwOk 7 n k w j := by decide +kernel
theorem bw_bd {p : Int} (hp : isP p = true) {n k w j : Nat} (hn : n ≤ 7) (hk : k ≤ 4) (h1 : 1 ≤ k) (h2 : k ≤ n) (h3 : w ≤ n) (h4 : n - k + 1 ≤ w) (h5 : j < w - (n - k + 1) + 2) :
    -1000000 ≤ bwS p w (n - k + 1) j ∧ bwS p w (n - k + 1) j ≤ 1000000 ∧ -1000000 ≤ chN n w * bwS p w (n - k + 1) j ∧ chN n w * bwS p w (n - k + 1) j ≤ 1000000 ∧ -1000000 ≤ chN w j * (pwN p (w - (n - k + 1) - j + 1) - 1) ∧ chN w j * (pwN p (w - (n - k + 1) - j + 1) - 1) ≤ 1000000 := by
  rcases isP_true.1 hp with rfl | rfl | rfl | rfl
  · exact bw_2 n (by omega) k (by omega) w (by omega) j (by omega) h1 h2 h3 h4 h5
  · exact bw_3 n (by omega) k (by omega) w (by omega) j (by omega) h1 h2 h3 h4 h5
  · exact bw_5 n (by omega) k (by omega) w (by omega) j (by omega) h1 h2 h3 h4 h5
  · exact bw_7 n (by omega) k (by omega) w (by omega) j (by omega) h1 h2 h3 h4 h5
theorem chooseS_int (n k : Int) (w : World) (hn : n ≤ 7) (hk : k ≤ n) (h0 : 0 ≤ k) :
    Calls Try.prog 67 #[.int .i64 n, .int .i64 k] w fun e w' => e = .returned (.int .i64 (chN n.toNat k.toNat)) ∧ w = w' := by
  obtain ⟨n, rfl⟩ := Int.eq_ofNat_of_zero_le (show 0 ≤ n by omega)
  obtain ⟨k, rfl⟩ := Int.eq_ofNat_of_zero_le h0
  rw [Int.toNat_natCast, Int.toNat_natCast]
  exact chooseS_any n k w (by omega) (by omega)
theorem choicesI_int (n k : Int) (w : World) (hn : n ≤ 7) (hk : k ≤ n) (h0 : 0 ≤ k) :
    Calls Try.prog 69 #[.int .i64 n, .int .i64 k] w fun e w' => e = .returned (.int .i64 (chN n.toNat k.toNat)) ∧ w = w' := by
  obtain ⟨n, rfl⟩ := Int.eq_ofNat_of_zero_le (show 0 ≤ n by omega)
  obtain ⟨k, rfl⟩ := Int.eq_ofNat_of_zero_le h0
  rw [Int.toNat_natCast, Int.toNat_natCast]
  exact choicesI_any n k w (by omega) (by omega)
theorem timesS_int (p k : Int) (w : World) (hp : 2 ≤ p ∧ p ≤ 7) (h0 : 0 ≤ k) (hk : k ≤ 7) :
    Calls Try.prog 68 #[.int .i64 p, .int .i64 k] w fun e w' => e = .returned (.int .i64 (pwN p k.toNat)) ∧ w = w' := by
  obtain ⟨k, rfl⟩ := Int.eq_ofNat_of_zero_le h0
  rw [Int.toNat_natCast]
  exact timesS_any p k w hp (by omega)
theorem powerI_int (p k : Int) (w : World) (hp : 2 ≤ p ∧ p ≤ 7) (h0 : 0 ≤ k) (hk : k ≤ 7) :
    Calls Try.prog 70 #[.int .i64 p, .int .i64 k] w fun e w' => e = .returned (.int .i64 (pwN p k.toNat)) ∧ w = w' := by
  obtain ⟨k, rfl⟩ := Int.eq_ofNat_of_zero_le h0
  rw [Int.toNat_natCast]
  exact powerI_any p k w hp (by omega)
end Go.Proofs.Ythafmoofemfdmaa
