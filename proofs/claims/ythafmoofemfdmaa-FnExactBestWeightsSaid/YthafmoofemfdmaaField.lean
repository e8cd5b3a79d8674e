/-
  Numbers over a prime: the program's field and the reference's inverse. Conditions: those that each contract names.
-/
import Derived.Test.YthafmoofemfdmaaSlices
namespace Go.Proofs.Ythafmoofemfdmaa
open Go.RowKit

/-- p is one of the primes -/
def isP (p : Int) : Bool := decide (p = 2 ∨ p = 3 ∨ p = 5 ∨ p = 7)
theorem isP_true {p : Int} : isP p = true ↔ p = 2 ∨ p = 3 ∨ p = 5 ∨ p = 7 := by simp [isP]
theorem isP_false {p : Int} : isP p = false ↔ ¬ (p = 2 ∨ p = 3 ∨ p = 5 ∨ p = 7) := by rw [← isP_true]; simp

theorem isPrime_any (p : Int) (w : World) :
    Calls Try.prog 57 #[.int .i64 p] w fun e w' => e = .returned (.bool (isP p)) ∧ w = w' := by
  by_cases h2 : p = 2
  · subst h2
    go_enter Try.func57, Try.ntmps57
    go_wp2
    go_ret
    exact ⟨rfl, rfl⟩
  by_cases h3 : p = 3
  · subst h3
    go_enter Try.func57, Try.ntmps57
    go_wp2
    go_ret
    exact ⟨rfl, rfl⟩
  by_cases h5 : p = 5
  · subst h5
    go_enter Try.func57, Try.ntmps57
    go_wp2
    go_ret
    exact ⟨rfl, rfl⟩
  have e2 : (p == 2) = false := by simp [h2]
  have e3 : (p == 3) = false := by simp [h3]
  have e5 : (p == 5) = false := by simp [h5]
  have hp : (p == 7) = isP p := by
    rw [Bool.eq_iff_iff, isP_true]; simp; omega
  have HP := hide hp
  clear hp h2 h3 h5
  go_enter Try.func57, Try.ntmps57
  go_wp2
  go_ret
  exact ⟨ret_bool HP.out, rfl⟩

def primeAt : Nat → Int | 0 => 2 | 1 => 3 | 2 => 5 | _ => 7

theorem fieldOf_any (p : Int) (w : World) :
    Calls Try.prog 60 #[.int .i64 p] w fun e w' => e = .returned (.tuple #[.int .i64 p, .bool (isP p)]) ∧ Below w.heap.size w w' := by
  go_enter Try.func60, Try.ntmps60
  go_wp2_with fail
  refine (slContains_any _ 4 4 primeAt p _ (by omega) (fun _ => ⟨w.heap.size, 0, rfl, by simp, fun i hi => ?_⟩)).mono ?_
  · rw [cell_of_row _ _ _ _ _ _ (heap_alloc_new w _)]
    match i, hi with
    | 0, _ => rfl
    | 1, _ => rfl
    | 2, _ => rfl
    | 3, _ => rfl
  · rintro e w' ⟨rfl, rfl⟩
    go_wp2_with fail
    go_ret2
    have hp : hasB 4 primeAt p = isP p := by
      rw [Bool.eq_iff_iff, hasB_true, isP_true]
      constructor
      · rintro ⟨i, hi, h⟩
        match i, hi with
        | 0, _ => exact .inl h.symm
        | 1, _ => exact .inr (.inl h.symm)
        | 2, _ => exact .inr (.inr (.inl h.symm))
        | 3, _ => exact .inr (.inr (.inr h.symm))
      · rintro (rfl | rfl | rfl | rfl)
        · exact ⟨0, by omega, rfl⟩
        · exact ⟨1, by omega, rfl⟩
        · exact ⟨2, by omega, rfl⟩
        · exact ⟨3, by omega, rfl⟩
    exact ⟨by rw [← hp]; rfl, by go_grown⟩

theorem within_any (n lo hi : Int) (w : World) :
    Calls Try.prog 61 #[.int .i64 n, .int .i64 lo, .int .i64 hi] w fun e w' => e = .returned (.bool (inR n lo hi)) ∧ w = w' := by
  go_enter Try.func61, Try.ntmps61
  go_wp2
  all_goals go_ret
  all_goals exact ⟨ret_bool (by simp [inR]; omega), rfl⟩
theorem inRange_any (n lo hi : Int) (w : World) :
    Calls Try.prog 58 #[.int .i64 n, .int .i64 lo, .int .i64 hi] w fun e w' => e = .returned (.bool (inR n lo hi)) ∧ w = w' := by
  go_enter Try.func58, Try.ntmps58
  go_wp2
  all_goals go_ret
  all_goals exact ⟨ret_bool (by simp [inR]; omega), rfl⟩

theorem tmod_bd (n p : Int) (hp : 0 < p) : -p < n.tmod p ∧ n.tmod p < p ∧ (n.tmod p + p) % p = n % p := by
  rcases Int.le_total 0 n with h | h
  · have e : n.tmod p = n % p := Int.tmod_eq_emod_of_nonneg h
    have h1 := Int.emod_nonneg n (show p ≠ 0 by omega)
    have h2 := Int.emod_lt_of_pos n hp
    rw [e]
    exact ⟨by omega, h2, by rw [Int.add_emod_right]; exact Int.emod_emod_of_dvd _ (Int.dvd_refl p)⟩
  · obtain ⟨m, rfl⟩ : ∃ m, n = -m := ⟨-n, by omega⟩
    have e : (-m).tmod p = -(m % p) := by rw [Int.neg_tmod, Int.tmod_eq_emod_of_nonneg (by omega)]
    have h1 := Int.emod_nonneg m (show p ≠ 0 by omega)
    have h2 := Int.emod_lt_of_pos m hp
    rw [e]
    refine ⟨by omega, by omega, ?_⟩
    rw [Int.add_emod_right]
    have : -(m % p) = -m + p * (m / p) := by have := Int.emod_add_mul_ediv m p; omega
    rw [this, Int.add_mul_emod_self_left]

theorem rest_any (p n : Int) (w : World) (hp : 2 ≤ p ∧ p ≤ 7) (hn : -1000000000000 ≤ n ∧ n ≤ 1000000000000) :
    Calls Try.prog 76 #[.int .i64 p, .int .i64 n] w fun e w' => e = .returned (.int .i64 (n % p)) ∧ w = w' := by
  obtain ⟨b2, b1, b3⟩ := tmod_bd n p (by omega)
  have B3 := hide b3
  clear b3
  by_cases h0 : 0 ≤ n
  · have q1 := Int.emod_nonneg n (show p ≠ 0 by omega)
    have q2 := Int.emod_lt_of_pos n (show 0 < p by omega)
    go_enter Try.func76, Try.ntmps76
    go_wp2
    go_ret
    exact ⟨ret_int (by first | (simp; done) | (rw [Int.add_emod_right]; exact Int.emod_emod_of_dvd _ (Int.dvd_refl p))), rfl⟩
  · go_enter Try.func76, Try.ntmps76
    go_wp2
    go_ret
    exact ⟨ret_int (by first | exact B3.out | (rw [← B3.out, Int.add_emod_right])), rfl⟩

/-- the inverse of a number -/
def invN (p x : Int) : Nat := if x * 1 % p = 1 then 1 else if x * 2 % p = 1 then 2 else if x * 3 % p = 1 then 3 else if x * 4 % p = 1 then 4 else if x * 5 % p = 1 then 5 else if x * 6 % p = 1 then 6 else 0
def inv (p x : Int) : Int := invN p x

theorem inv_ok {p x : Int} (hp : isP p = true) (h1 : 1 ≤ x) (h2 : x ≤ p - 1) : 1 ≤ inv p x ∧ inv p x ≤ p - 1 ∧ x * inv p x % p = 1 ∧ ∀ k : Nat, 1 ≤ k → (k : Int) < inv p x → x * k % p ≠ 1 := by
  have hx : (p = 2 ∧ x = 1) ∨ (p = 3 ∧ (x = 1 ∨ x = 2)) ∨ (p = 5 ∧ (x = 1 ∨ x = 2 ∨ x = 3 ∨ x = 4)) ∨ (p = 7 ∧ (x = 1 ∨ x = 2 ∨ x = 3 ∨ x = 4 ∨ x = 5 ∨ x = 6)) := by
    rcases isP_true.1 hp with rfl | rfl | rfl | rfl <;> omega
  have h6 : invN p x ≤ 6 := by unfold invN; (repeat' split) <;> omega
  have key : (1 ≤ inv p x ∧ inv p x ≤ p - 1 ∧ x * inv p x % p = 1 ∧ ∀ k : Nat, k < 7 → 1 ≤ k → (k : Int) < inv p x → x * k % p ≠ 1) := by
    rcases hx with ⟨rfl, rfl⟩ | ⟨rfl, rfl | rfl⟩ | ⟨rfl, rfl | rfl | rfl | rfl⟩ | ⟨rfl, rfl | rfl | rfl | rfl | rfl | rfl⟩ <;> decide
  exact ⟨key.1, key.2.1, key.2.2.1, fun k hk hlt => key.2.2.2 k (by unfold inv at hlt; omega) hk hlt⟩

theorem inverseS_any (p x : Int) (w : World) (hp : isP p = true) (h1 : 1 ≤ x) (h2 : x ≤ p - 1) :
    Calls Try.prog 59 #[.int .i64 p, .int .i64 x] w fun e w' => e = .returned (.int .i64 (inv p x)) ∧ w = w' := by
  obtain ⟨a1, a2, a3, a4⟩ := inv_ok hp h1 h2
  have hp7 : p ≤ 7 := by rcases isP_true.1 hp with rfl | rfl | rfl | rfl <;> omega
  obtain ⟨y, hy⟩ : ∃ y, inv p x = y := ⟨_, rfl⟩
  rw [hy] at a1 a2 a3 a4 ⊢
  have A3 := hide a3
  have A4 := hide a4
  clear a3 a4 hy
  go_enter Try.func59, Try.ntmps59
  go_wp2
  go_loop [5] (fun i => ∃ k : Nat, 1 ≤ k ∧ (k : Int) ≤ y ∧ i = .int .i64 k) (fun i => 8 - (intOf i).toNat)
  case atStart => exact ⟨1, by omega, by omega, rfl⟩
  case round =>
    obtain ⟨k, hk1, hk2, rfl⟩ := hrel
    have hb1 : 0 ≤ x * k := Int.mul_nonneg (by omega) (by omega)
    have hb2 : x * k ≤ 49 := by have := Int.mul_le_mul (show x ≤ 7 by omega) (show (k : Int) ≤ 7 by omega) (by omega) (by omega); omega
    by_cases he : (k : Int) = y
    · have he' : (x * (k : Int) % p == 1) = true := by rw [he]; simp [A3.out]
      subst he
      go_wp2
      go_ret
      exact ⟨rfl, rfl⟩
    · have he' : (x * (k : Int) % p == 1) = false := by simpa using A4.out k hk1 (by omega)
      have hlt : (k : Int) < p := by omega
      go_wp2
      go_round
      case rel => exact ⟨k + 1, by omega, by omega, by go_num⟩
      case measure => simp [intOf]; omega

theorem inverseI_any (p x : Int) (w : World) (hp : isP p = true) (h1 : 1 ≤ x) (h2 : x ≤ p - 1) :
    Calls Try.prog 62 #[.int .i64 p, .int .i64 x] w fun e w' => e = .returned (.int .i64 (inv p x)) ∧ w = w' := by
  obtain ⟨a1, a2, a3, a4⟩ := inv_ok hp h1 h2
  have hp7 : 2 ≤ p ∧ p ≤ 7 := by rcases isP_true.1 hp with rfl | rfl | rfl | rfl <;> omega
  obtain ⟨y, hy⟩ : ∃ y, inv p x = y := ⟨_, rfl⟩
  rw [hy] at a1 a2 a3 a4 ⊢
  have A3 := hide a3
  have A4 := hide a4
  clear a3 a4 hy
  go_enter Try.func62, Try.ntmps62
  go_wp2_with fail
  go_loop [5] (fun i => ∃ k : Nat, 1 ≤ k ∧ (k : Int) ≤ y ∧ i = .int .i64 k) (fun i => 8 - (intOf i).toNat)
  case atStart => exact ⟨1, by omega, by omega, rfl⟩
  case round =>
    obtain ⟨k, hk1, hk2, rfl⟩ := hrel
    have hb1 : 0 ≤ x * k := Int.mul_nonneg (by omega) (by omega)
    have hb2 : x * k ≤ 49 := by have := Int.mul_le_mul (show x ≤ 7 by omega) (show (k : Int) ≤ 7 by omega) (by omega) (by omega); omega
    go_wp2_with fail
    refine (rest_any p (x * k) _ hp7 (by omega)).mono ?_
    rintro e w' ⟨rfl, rfl⟩
    by_cases he : (k : Int) = y
    · have he' : (x * (k : Int) % p != 1) = false := by rw [he]; simp [A3.out]
      subst he
      go_wp2_with fail
      go_ret
      exact ⟨rfl, rfl⟩
    · have he' : (x * (k : Int) % p != 1) = true := by simpa using A4.out k hk1 (by omega)
      have hlt : (k : Int) < p := by omega
      go_wp2_with fail
      go_round
      case rel => exact ⟨k + 1, by omega, by omega, by go_num⟩
      case measure => simp [intOf]; omega

/-- InverseOf -/
def invOf (p x : Int) : Int := if isP p && inR x 1 (p - 1) then inv p x else -1

theorem InverseOfS_any (p x : Int) (w : World) :
    Calls Try.prog 15 #[.int .i64 p, .int .i64 x] w fun e w' => e = .returned (.int .i64 (invOf p x)) ∧ w = w' := by
  cases hp : isP p
  · refine calls_int (a := -1) (by simp [invOf, hp]) ?_
    go_enter Try.func15, Try.ntmps15
    go_wp2_with (first | (go_at_call 57; refine (isPrime_any _ _).mono ?_; rintro e w' ⟨rfl, rfl⟩) | (go_at_call 58; refine (inRange_any _ _ _ _).mono ?_; rintro e w' ⟨rfl, rfl⟩))
    go_ret
    exact ⟨rfl, rfl⟩
  have hp7 : 2 ≤ p ∧ p ≤ 7 := by rcases isP_true.1 hp with rfl | rfl | rfl | rfl <;> omega
  cases hx : inR x 1 (p - 1)
  · refine calls_int (a := -1) (by simp [invOf, hp, hx]) ?_
    go_enter Try.func15, Try.ntmps15
    go_wp2_with (first | (go_at_call 57; refine (isPrime_any _ _).mono ?_; rintro e w' ⟨rfl, rfl⟩) | (go_at_call 58; refine (inRange_any _ _ _ _).mono ?_; rintro e w' ⟨rfl, rfl⟩))
    go_ret
    exact ⟨rfl, rfl⟩
  · refine calls_int (a := inv p x) (by simp [invOf, hp, hx]) ?_
    obtain ⟨h1, h2⟩ := inR_true.1 hx
    go_enter Try.func15, Try.ntmps15
    go_wp2_with (first | (go_at_call 57; refine (isPrime_any _ _).mono ?_; rintro e w' ⟨rfl, rfl⟩) | (go_at_call 58; refine (inRange_any _ _ _ _).mono ?_; rintro e w' ⟨rfl, rfl⟩) | (go_at_call 59; refine (inverseS_any _ _ _ hp h1 h2).mono ?_; rintro e w' ⟨rfl, rfl⟩))
    go_ret
    exact ⟨rfl, rfl⟩

theorem InverseOfI_any (p x : Int) (w : World) :
    Calls Try.prog 16 #[.int .i64 p, .int .i64 x] w fun e w' => e = .returned (.int .i64 (invOf p x)) ∧ Below w.heap.size w w' := by
  cases hp : isP p
  · refine calls_int (a := -1) (by simp [invOf, hp]) ?_
    go_enter Try.func16, Try.ntmps16
    go_wp2_with (first | (go_at_call 60; refine (fieldOf_any _ _).mono ?_; rintro e w' ⟨rfl, hb⟩) | (go_at_call 61; refine (within_any _ _ _ _).mono ?_; rintro e w' ⟨rfl, rfl⟩))
    go_ret
    exact ⟨rfl, hb⟩
  have hp7 : 2 ≤ p ∧ p ≤ 7 := by rcases isP_true.1 hp with rfl | rfl | rfl | rfl <;> omega
  cases hx : inR x 1 (p - 1)
  · refine calls_int (a := -1) (by simp [invOf, hp, hx]) ?_
    go_enter Try.func16, Try.ntmps16
    go_wp2_with (first | (go_at_call 60; refine (fieldOf_any _ _).mono ?_; rintro e w' ⟨rfl, hb⟩) | (go_at_call 61; refine (within_any _ _ _ _).mono ?_; rintro e w' ⟨rfl, rfl⟩))
    go_ret
    exact ⟨rfl, hb⟩
  · refine calls_int (a := inv p x) (by simp [invOf, hp, hx]) ?_
    obtain ⟨h1, h2⟩ := inR_true.1 hx
    go_enter Try.func16, Try.ntmps16
    go_wp2_with (first | (go_at_call 60; refine (fieldOf_any _ _).mono ?_; rintro e w' ⟨rfl, hb⟩) | (go_at_call 61; refine (within_any _ _ _ _).mono ?_; rintro e w' ⟨rfl, rfl⟩) | (go_at_call 62; refine (inverseI_any _ _ _ hp h1 h2).mono ?_; rintro e w' ⟨rfl, rfl⟩))
    go_ret
    exact ⟨rfl, hb⟩
end Go.Proofs.Ythafmoofemfdmaa
