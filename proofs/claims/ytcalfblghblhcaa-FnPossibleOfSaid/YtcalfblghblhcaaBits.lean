/-
  Powers of two and bits, the reference's and the laws'. Conditions: small numbers.
-/
import Derived.Test.YtcalfblghblhcaaRows
import Derived.Test.YtcalfblghblhcaaBase
import Derived.IntWalk
namespace Go.Proofs.Ytcalfblghblhcaa
open Go.RowKit

theorem two_pow_le {n m : Nat} (h : n ≤ m) : (2 : Int) ^ n ≤ 2 ^ m := by
  have := Nat.pow_le_pow_right (show 0 < 2 by omega) h
  exact_mod_cast this
theorem two_pow_pos (n : Nat) : (0 : Int) < 2 ^ n := by
  have := Nat.two_pow_pos n
  exact_mod_cast this

/-- bit i of s -/
def bt (s i : Nat) : Bool := decide (s / 2 ^ i % 2 = 1)
theorem bt_zero (s : Nat) : bt s 0 = decide (s % 2 = 1) := by simp [bt]
theorem bt_one : bt 1 0 = true := by decide
theorem bt_one' {i : Nat} (h : 1 ≤ i) : bt 1 i = false := by
  have : 1 / 2 ^ i = 0 := Nat.div_eq_of_lt (Nat.one_lt_two_pow (by omega))
  simp [bt, this]
theorem ofInt_nat64 (a : Nat) (ha : a < 9223372036854775808) : (BitVec.ofInt 64 (a : Int)).toNat = a := by
  rw [BitVec.ofInt_natCast, BitVec.toNat_ofNat]; exact Nat.mod_eq_of_lt (by omega)
theorem and_nat (a b : Nat) (ha : a < 9223372036854775808) (hb : b < 9223372036854775808) : bits .and .i64 (a : Int) (b : Int) = ((a &&& b : Nat) : Int) := by
  have hx : a &&& b < 2 ^ 63 := Nat.and_lt_two_pow _ (by omega)
  show IntKind.i64.wrap ((BitVec.ofInt 64 (a : Int) &&& BitVec.ofInt 64 (b : Int)).toNat : Int) = _
  rw [BitVec.toNat_and, ofInt_nat64 a ha, ofInt_nat64 b hb, IntKind.wrap_i64]
  omega
theorem or_nat (a b : Nat) (ha : a < 9223372036854775808) (hb : b < 9223372036854775808) : bits .or .i64 (a : Int) (b : Int) = ((a ||| b : Nat) : Int) := by
  have hx : a ||| b < 2 ^ 63 := Nat.or_lt_two_pow (by omega) (by omega)
  show IntKind.i64.wrap ((BitVec.ofInt 64 (a : Int) ||| BitVec.ofInt 64 (b : Int)).toNat : Int) = _
  rw [BitVec.toNat_or, ofInt_nat64 a ha, ofInt_nat64 b hb, IntKind.wrap_i64]
  omega
theorem xor_nat (a b : Nat) (ha : a < 9223372036854775808) (hb : b < 9223372036854775808) : bits .xor .i64 (a : Int) (b : Int) = ((a ^^^ b : Nat) : Int) := by
  have hx : a ^^^ b < 2 ^ 63 := Nat.xor_lt_two_pow (by omega) (by omega)
  show IntKind.i64.wrap ((BitVec.ofInt 64 (a : Int) ^^^ BitVec.ofInt 64 (b : Int)).toNat : Int) = _
  rw [BitVec.toNat_xor, ofInt_nat64 a ha, ofInt_nat64 b hb, IntKind.wrap_i64]
  omega
theorem and_one (s i : Nat) (hs : s ≤ 9223372036854775807) : bits .and .i64 ((s : Int) / 2 ^ i) 1 = if bt s i then 1 else 0 := by
  have e : (s : Int) / 2 ^ i = ((s / 2 ^ i : Nat) : Int) := by push_cast; rfl
  have h1 : s / 2 ^ i ≤ s := Nat.div_le_self _ _
  rw [e, show (1 : Int) = ((1 : Nat) : Int) from rfl, and_nat _ _ (by omega) (by omega), Nat.and_one_is_mod]
  unfold bt
  by_cases h : s / 2 ^ i % 2 = 1
  · simp [h]
  · have : s / 2 ^ i % 2 = 0 := by omega
    simp [this]
theorem bt_t {s i : Nat} (hs : s ≤ 9223372036854775807) (h : bt s i = true) : (bits .and .i64 ((s : Int) / 2 ^ i) 1 == 1) = true ∧ (bits .and .i64 ((s : Int) / 2 ^ i) 1 == 0) = false := by
  rw [and_one s i hs, h]; decide
theorem bt_f {s i : Nat} (hs : s ≤ 9223372036854775807) (h : bt s i = false) : (bits .and .i64 ((s : Int) / 2 ^ i) 1 == 1) = false ∧ (bits .and .i64 ((s : Int) / 2 ^ i) 1 == 0) = true := by
  rw [and_one s i hs, h]; decide
theorem bt_t0 {s : Nat} (hs : s ≤ 9223372036854775807) (h : bt s 0 = true) : (bits .and .i64 (s : Int) 1 == 1) = true ∧ (bits .and .i64 (s : Int) 1 == 0) = false := by
  have := bt_t hs h; simpa using this
theorem bt_f0 {s : Nat} (hs : s ≤ 9223372036854775807) (h : bt s 0 = false) : (bits .and .i64 (s : Int) 1 == 1) = false ∧ (bits .and .i64 (s : Int) 1 == 0) = true := by
  have := bt_f hs h; simpa using this

/-- 2 to a number, as an int64 holds it -/
def p2w : Nat → Int | 0 => 1 | n + 1 => wrap64 (2 * p2w n)
theorem p2w_small : ∀ n, n ≤ 62 → p2w n = 2 ^ n
  | 0, _ => rfl
  | n + 1, h => by
    have h1 := two_pow_le (show n + 1 ≤ 62 by omega)
    have h2 := two_pow_pos (n + 1)
    rw [show (2 : Int) ^ 62 = 4611686018427387904 by decide] at h1
    rw [p2w, p2w_small n (by omega), show (2 : Int) * 2 ^ n = 2 ^ (n + 1) by rw [Int.pow_succ]; omega]
    exact IntWalk.wrap64_in _ (by omega)
theorem p2w_big : ∀ k, p2w (64 + k) = 0
  | 0 => by decide +kernel
  | k + 1 => by
    show wrap64 (2 * p2w (64 + k)) = 0
    rw [p2w_big k]; decide +kernel

theorem powerS_any (n : Nat) (w : World) (hn : n ≤ 62) :
    Calls Try.prog 45 #[.int .i64 n] w fun e w' => e = .returned (.int .i64 (2 ^ n)) ∧ w = w' := by
  have HB := hide (fun (j : Nat) (hj : j ≤ n) => (⟨two_pow_pos j, two_pow_le (show j ≤ 62 by omega)⟩ : (0 : Int) < 2 ^ j ∧ (2 : Int) ^ j ≤ 2 ^ 62))
  go_enter Try.func45, Try.ntmps45
  go_wp2
  go_loop [0, 3] (fun i v => ∃ j : Nat, j ≤ n ∧ i = .int .i64 ((n : Int) - j) ∧ v = .int .i64 (2 ^ j)) (fun i _ => (intOf i).toNat)
  case atStart => exact ⟨0, by omega, by simp, rfl⟩
  case round =>
    obtain ⟨j, hj, rfl, rfl⟩ := hrel
    by_cases hlt : j < n
    · have b0 := HB.out j (by omega)
      have b1 := HB.out (j + 1) (by omega)
      have h0 : (0 : Int) < (n : Int) - j := by omega
      rw [show (2 : Int) ^ 62 = 4611686018427387904 by decide] at b0 b1
      rw [show (2 : Int) ^ (j + 1) = 2 * 2 ^ j by rw [Int.pow_succ]; omega] at b1
      have HP := hide (show (2 : Int) ^ (j + 1) = 2 * 2 ^ j by rw [Int.pow_succ]; omega)
      generalize (2 : Int) ^ j = q at *
      go_wp2
      go_round
      case rel => exact ⟨j + 1, by omega, by go_num, by rw [HP.out]⟩
      case measure => simp [intOf]; omega
    · obtain rfl : j = n := by omega
      go_wp2
      go_ret
      exact ⟨rfl, rfl⟩

theorem powerS_small (x : Int) (m : Nat) (w : World) (h0 : 0 ≤ x) (h1 : x ≤ m) (hm : m ≤ 62) :
    Calls Try.prog 45 #[.int .i64 x] w fun e w' => ∃ q : Int, e = .returned (.int .i64 q) ∧ q = 2 ^ x.toNat ∧ 1 ≤ q ∧ q ≤ 2 ^ m ∧ w = w' := by
  obtain ⟨n, rfl⟩ := Int.eq_ofNat_of_zero_le h0
  refine (powerS_any n w (by omega)).mono ?_
  rintro e w' ⟨rfl, rfl⟩
  have h1 := two_pow_pos n
  exact ⟨_, rfl, by simp, by omega, two_pow_le (by omega), rfl⟩

theorem powerS_wide (n : Nat) (w : World) (hn : n ≤ 9223372036854775807) :
    Calls Try.prog 45 #[.int .i64 n] w fun e w' => e = .returned (.int .i64 (p2w n)) ∧ w = w' := by
  go_enter Try.func45, Try.ntmps45
  go_wp2
  go_loop [0, 3] (fun i v => ∃ j : Nat, j ≤ n ∧ i = .int .i64 ((n : Int) - j) ∧ v = .int .i64 (p2w j)) (fun i _ => (intOf i).toNat)
  case atStart => exact ⟨0, by omega, by simp, rfl⟩
  case round =>
    obtain ⟨j, hj, rfl, rfl⟩ := hrel
    by_cases hlt : j < n
    · have h0 : (0 : Int) < (n : Int) - j := by omega
      have HP := hide (show p2w (j + 1) = wrap64 (2 * p2w j) from rfl)
      generalize p2w j = q at *
      go_wp2
      go_round
      case rel => exact ⟨j + 1, by omega, by go_num, by rw [HP.out]⟩
      case measure => simp [intOf]; omega
    · obtain rfl : j = n := by omega
      go_wp2
      go_ret
      exact ⟨rfl, rfl⟩

theorem bitS_any (x j : Nat) (w : World) (hj : j ≤ 62) (hx : x ≤ 9223372036854775807) :
    Calls Try.prog 50 #[.int .i64 x, .int .i64 j] w fun e w' => e = .returned (.int .i64 ((x / 2 ^ j % 2 : Nat) : Int)) ∧ w = w' := by
  have hp := two_pow_pos j
  have hp2 := two_pow_le hj
  rw [show (2 : Int) ^ 62 = 4611686018427387904 by decide] at hp2
  have HP := hide (powerS_any j w hj)
  have HE := hide (show (((x / 2 ^ j % 2 : Nat) : Int)) = (x : Int) / 2 ^ j % 2 by push_cast; rfl)
  have hq0 : 0 ≤ (x : Int) / 2 ^ j := Int.ediv_nonneg (by omega) (by omega)
  have hq1 : (x : Int) / 2 ^ j ≤ x := Int.ediv_le_self _ (by omega)
  go_enter Try.func50, Try.ntmps50
  go_wp2_with fail
  refine (HP.out).mono ?_
  rintro e _ ⟨rfl, rfl⟩
  generalize (2 : Int) ^ j = q at *
  go_wp2_with fail
  go_ret
  exact ⟨ret_int HE.out.symm, rfl⟩
theorem bitS_t (x j : Nat) (w : World) (hj : j ≤ 62) (hx : x ≤ 9223372036854775807) (h : bt x j = true) :
    Calls Try.prog 50 #[.int .i64 x, .int .i64 j] w fun e w' => e = .returned (.int .i64 1) ∧ w = w' :=
  (bitS_any x j w hj hx).mono fun _ _ ⟨he, hw⟩ => ⟨by rw [he]; simp only [bt, decide_eq_true_eq] at h; rw [h]; rfl, hw⟩
theorem bitS_f (x j : Nat) (w : World) (hj : j ≤ 62) (hx : x ≤ 9223372036854775807) (h : bt x j = false) :
    Calls Try.prog 50 #[.int .i64 x, .int .i64 j] w fun e w' => e = .returned (.int .i64 0) ∧ w = w' :=
  (bitS_any x j w hj hx).mono fun _ _ ⟨he, hw⟩ => ⟨by rw [he]; simp only [bt, decide_eq_false_iff_not] at h; rw [show x / 2 ^ j % 2 = 0 by omega]; rfl, hw⟩

theorem powerL_any (n : Nat) (w : World) (hn : n ≤ 62) :
    Calls Try.prog 30 #[.int .i64 n] w fun e w' => e = .returned (.int .i64 (2 ^ n)) ∧ w = w' := by
  have HB := hide (fun (j : Nat) (hj : j ≤ n) => (⟨two_pow_pos j, two_pow_le (show j ≤ 62 by omega)⟩ : (0 : Int) < 2 ^ j ∧ (2 : Int) ^ j ≤ 2 ^ 62))
  go_enter Try.func30, Try.ntmps30
  go_wp2
  go_loop [0, 3] (fun i v => ∃ j : Nat, j ≤ n ∧ i = .int .i64 ((n : Int) - j) ∧ v = .int .i64 (2 ^ j)) (fun i _ => (intOf i).toNat)
  case atStart => exact ⟨0, by omega, by simp, rfl⟩
  case round =>
    obtain ⟨j, hj, rfl, rfl⟩ := hrel
    by_cases hlt : j < n
    · have b0 := HB.out j (by omega)
      have b1 := HB.out (j + 1) (by omega)
      have h0 : (0 : Int) < (n : Int) - j := by omega
      rw [show (2 : Int) ^ 62 = 4611686018427387904 by decide] at b0 b1
      rw [show (2 : Int) ^ (j + 1) = 2 * 2 ^ j by rw [Int.pow_succ]; omega] at b1
      have HP := hide (show (2 : Int) ^ (j + 1) = 2 * 2 ^ j by rw [Int.pow_succ]; omega)
      generalize (2 : Int) ^ j = q at *
      go_wp2
      go_round
      case rel => exact ⟨j + 1, by omega, by go_num, by rw [HP.out]⟩
      case measure => simp [intOf]; omega
    · obtain rfl : j = n := by omega
      go_wp2
      go_ret
      exact ⟨rfl, rfl⟩

theorem powerL_small (x : Int) (m : Nat) (w : World) (h0 : 0 ≤ x) (h1 : x ≤ m) (hm : m ≤ 62) :
    Calls Try.prog 30 #[.int .i64 x] w fun e w' => ∃ q : Int, e = .returned (.int .i64 q) ∧ q = 2 ^ x.toNat ∧ 1 ≤ q ∧ q ≤ 2 ^ m ∧ w = w' := by
  obtain ⟨n, rfl⟩ := Int.eq_ofNat_of_zero_le h0
  refine (powerL_any n w (by omega)).mono ?_
  rintro e w' ⟨rfl, rfl⟩
  have h1 := two_pow_pos n
  exact ⟨_, rfl, by simp, by omega, two_pow_le (by omega), rfl⟩

theorem powerL_wide (n : Nat) (w : World) (hn : n ≤ 9223372036854775807) :
    Calls Try.prog 30 #[.int .i64 n] w fun e w' => e = .returned (.int .i64 (p2w n)) ∧ w = w' := by
  go_enter Try.func30, Try.ntmps30
  go_wp2
  go_loop [0, 3] (fun i v => ∃ j : Nat, j ≤ n ∧ i = .int .i64 ((n : Int) - j) ∧ v = .int .i64 (p2w j)) (fun i _ => (intOf i).toNat)
  case atStart => exact ⟨0, by omega, by simp, rfl⟩
  case round =>
    obtain ⟨j, hj, rfl, rfl⟩ := hrel
    by_cases hlt : j < n
    · have h0 : (0 : Int) < (n : Int) - j := by omega
      have HP := hide (show p2w (j + 1) = wrap64 (2 * p2w j) from rfl)
      generalize p2w j = q at *
      go_wp2
      go_round
      case rel => exact ⟨j + 1, by omega, by go_num, by rw [HP.out]⟩
      case measure => simp [intOf]; omega
    · obtain rfl : j = n := by omega
      go_wp2
      go_ret
      exact ⟨rfl, rfl⟩

end Go.Proofs.Ytcalfblghblhcaa
