/-
  slices.Index and slices.Contains over ints. Conditions: the slice can be read.
-/
import Derived.Test.YtcalfblghblhcaaMem
namespace Go.Proofs.Ytcalfblghblhcaa
open Go.RowKit

/-- one of the first n numbers is v -/
def hasB (n : Nat) (f : Nat → Int) (v : Int) : Bool := decide (¬ ∀ i, i < n → f i ≠ v)
theorem hasB_true {n : Nat} {f : Nat → Int} {v : Int} : hasB n f v = true ↔ ∃ i, i < n ∧ f i = v := by
  simp only [hasB, decide_eq_true_eq]
  constructor
  · intro h
    refine Classical.byContradiction fun hn => h fun i hi he => hn ⟨i, hi, he⟩
  · rintro ⟨i, hi, he⟩ h; exact h i hi he
theorem hasB_false {n : Nat} {f : Nat → Int} {v : Int} : hasB n f v = false ↔ ∀ i, i < n → f i ≠ v := by
  rw [← Bool.not_eq_true, hasB_true]
  exact ⟨fun h i hi he => h ⟨i, hi, he⟩, fun h ⟨i, hi, he⟩ => h i hi he⟩

/-- none of the first n numbers is bad -/
def noneB (n : Nat) (f : Nat → Int) (bad : Int → Bool) : Bool := decide (∀ i, i < n → bad (f i) = false)
theorem noneB_true {n : Nat} {f : Nat → Int} {bad : Int → Bool} : noneB n f bad = true ↔ ∀ i, i < n → bad (f i) = false := by simp [noneB]
theorem noneB_false {n : Nat} {f : Nat → Int} {bad : Int → Bool} (h : ∃ i, i < n ∧ bad (f i) = true) : noneB n f bad = false := by
  obtain ⟨i, hi, hb⟩ := h
  rw [← Bool.not_eq_true, noneB_true]
  intro hh
  rw [hh i hi] at hb
  cases hb

theorem slIndex_any (A : Option Addr) (n c : Nat) (f : Nat → Int) (v : Int) (w : World) (hn : n ≤ 9223372036854775807) (h : Ints w w.heap.size A n f) :
    Calls Try.prog 103 #[.slice A n c, .int .i64 v] w fun e w' => ∃ r : Int, e = .returned (.int .i64 r) ∧ (0 ≤ r ↔ hasB n f v = true) ∧ w = w' := by
  have H := hide h
  clear h
  go_enter Try.func103, Try.ntmps103
  go_wp2
  go_loop [8] (fun i => ∃ k : Nat, k ≤ n ∧ i = .int .i64 k ∧ (∀ j, j < k → f j ≠ v)) (fun i => n - (intOf i).toNat)
  case atStart => exact ⟨0, Nat.zero_le _, rfl, by simp⟩
  case round =>
    obtain ⟨k, hk, rfl, hall⟩ := hrel
    have Hall := hide hall
    clear hall
    by_cases hlt : k < n
    · obtain ⟨b, off, rfl, hbl, hc⟩ := H.out (by omega)
      have hck := hc k hlt
      clear hc
      by_cases he : v = f k
      · have he' : (v == f k) = true := by simp [he]
        have He := hide he
        clear he
        go_wp2
        go_ret
        exact ⟨k, rfl, ⟨fun _ => hasB_true.2 ⟨k, hlt, He.out.symm⟩, fun _ => by omega⟩, rfl⟩
      · have he' : (v == f k) = false := by simp [he]
        have He := hide he
        clear he
        go_wp2
        go_round
        case rel => exact ⟨k + 1, by omega, by go_num, fun j hj => by
          by_cases e : j = k
          · subst e; exact fun h => He.out h.symm
          · exact Hall.out j (by omega)⟩
        case measure => simp [intOf]; omega
    · obtain rfl : k = n := by omega
      go_wp2
      go_ret
      exact ⟨-1, rfl, ⟨fun h => absurd h (by omega), fun h => absurd h (by rw [hasB_false.2 Hall.out]; simp)⟩, rfl⟩

theorem slContains_any (A : Option Addr) (n c : Nat) (f : Nat → Int) (v : Int) (w : World) (hn : n ≤ 9223372036854775807) (h : Ints w w.heap.size A n f) :
    Calls Try.prog 99 #[.slice A n c, .int .i64 v] w fun e w' => e = .returned (.bool (hasB n f v)) ∧ w = w' := by
  have H := hide h
  clear h
  go_enter Try.func99, Try.ntmps99
  go_wp2_with fail
  refine (slIndex_any A n c f v w hn H.out).mono ?_
  rintro e w' ⟨r, rfl, hr, rfl⟩
  have Hr := hide hr
  clear hr
  go_wp2_with fail
  go_ret
  refine ⟨ret_bool ?_, rfl⟩
  cases hh : hasB n f v
  · simp; have := Hr.out; rw [hh] at this; simp at this; exact this
  · simp; exact Hr.out.2 hh
end Go.Proofs.Ytcalfblghblhcaa
