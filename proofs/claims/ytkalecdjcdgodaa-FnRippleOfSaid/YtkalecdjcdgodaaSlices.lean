/-
  slices.Index and slices.Contains over ints. Conditions: the slice can be read.
-/
import Derived.Test.YtkalecdjcdgodaaMem
namespace Go.Proofs.Ytkalecdjcdgodaa
open Go.RowKit

/-- one of the first n numbers is v -/
def hasB (n : Nat) (f : Nat → Int) (v : Int) : Bool := decide (¬ ∀ i, i < n → f i ≠ v)
theorem hasB_true {n : Nat} {f : Nat → Int} {v : Int} : hasB n f v = true ↔ ∃ i, i < n ∧ f i = v := by
  simp only [hasB, decide_eq_true_eq]
  constructor
  · intro h
    refine Classical.byContradiction fun hn => h fun i hi he => hn ⟨i, hi, he⟩
  · rintro ⟨i, hi, he⟩ h; exact h i hi he
theorem hasB_false {n : Nat} {f : Nat → Int} {v : Int} : hasB n f v = false ↔ ∀ i, i < n → f i ≠ v := by
  rw [← Bool.not_eq_true, hasB_true]
  exact ⟨fun h i hi he => h ⟨i, hi, he⟩, fun h ⟨i, hi, he⟩ => h i hi he⟩

/-- none of the first n numbers is bad -/
def noneB (n : Nat) (f : Nat → Int) (bad : Int → Bool) : Bool := decide (∀ i, i < n → bad (f i) = false)
theorem noneB_true {n : Nat} {f : Nat → Int} {bad : Int → Bool} : noneB n f bad = true ↔ ∀ i, i < n → bad (f i) = false := by simp [noneB]
theorem noneB_false {n : Nat} {f : Nat → Int} {bad : Int → Bool} (h : ∃ i, i < n ∧ bad (f i) = true) : noneB n f bad = false := by
  obtain ⟨i, hi, hb⟩ := h
  rw [← Bool.not_eq_true, noneB_true]
  intro hh
  rw [hh i hi] at hb
  cases hb

end Go.Proofs.Ytkalecdjcdgodaa
