/-
  Lists over a prime, one behind the other: how the next one comes of the one before, plain. No conditions: nothing is claimed of the program here.
-/
import Derived.Test.YtcalfblghblhcaaPossLaw
namespace Go.Proofs.Ytcalfblghblhcaa
open Go.RowKit

/-- digit i of list t -/
def dg (p k t i : Nat) : Int := (dgs p k t).getD i 0
theorem dg_low {p k t i : Nat} (h : i < k) : dg p (k + 1) t i = dg p k (t / p) i := by
  rw [dg, dgs, List.getD, List.getElem?_append_left (by rw [dgs_len]; exact h)]; rfl
theorem dg_top {p k t : Nat} : dg p (k + 1) t k = ((t % p : Nat) : Int) := by
  rw [dg, dgs, List.getD, List.getElem?_append_right (by rw [dgs_len]; omega), dgs_len]; simp
theorem dg_bd {p : Nat} (hp : 0 < p) {k t i : Nat} (h : i < k) : 0 ≤ dg p k t i ∧ dg p k t i < p := by
  have hl : i < (dgs p k t).length := by rw [dgs_len]; exact h
  simp only [dg, List.getD, List.getElem?_eq_getElem hl, Option.getD_some]
  exact dgs_bd hp k t _ (List.getElem_mem _)
/-- the next list: behind the last place that is not full all is 0 -/
theorem dg_next {p : Nat} (hp : 2 ≤ p) : ∀ k t, t < p ^ k → (t + 1 = p ^ k ∧ ∀ i, i < k → dg p k t i = (p : Int) - 1) ∨
    (t + 1 < p ^ k ∧ ∃ a, a < k ∧ (∀ i, a < i → i < k → dg p k t i = (p : Int) - 1) ∧ dg p k t a ≠ (p : Int) - 1 ∧ ∀ i, i < k → dg p k (t + 1) i = if a < i then 0 else if i = a then dg p k t a + 1 else dg p k t i)
  | 0, t, h => by
    rw [Nat.pow_zero] at h ⊢
    exact .inl ⟨by omega, fun i hi => absurd hi (by omega)⟩
  | k + 1, t, h => by
    have hpk : p ^ (k + 1) = p ^ k * p := Nat.pow_succ p k
    have hq : t / p < p ^ k := by rw [Nat.div_lt_iff_lt_mul (by omega)]; rw [← hpk]; exact h
    have hdm := Nat.div_add_mod t p
    have hml := Nat.mod_lt t (show 0 < p by omega)
    by_cases hr : t % p + 1 < p
    · have e1 : (t + 1) / p = t / p := by
        have e : t + 1 = t % p + 1 + p * (t / p) := by omega
        rw [e, Nat.add_mul_div_left _ _ (by omega), Nat.div_eq_of_lt hr]; omega
      have e2 : (t + 1) % p = t % p + 1 := by
        have e : t + 1 = t % p + 1 + p * (t / p) := by omega
        rw [e, Nat.add_mul_mod_self_left, Nat.mod_eq_of_lt hr]
      right
      refine ⟨?_, k, by omega, fun i h1 h2 => absurd h1 (by omega), ?_, fun i hi => ?_⟩
      · have h3 : (t / p + 1) * p ≤ p ^ k * p := Nat.mul_le_mul_right p hq
        rw [← hpk, Nat.add_mul, Nat.one_mul, Nat.mul_comm (t / p) p] at h3
        omega
      · rw [dg_top]; omega
      · rw [if_neg (by omega)]
        by_cases e : i = k
        · subst e
          rw [if_pos rfl, dg_top, dg_top, e2]; push_cast; rfl
        · rw [if_neg e, dg_low (by omega), dg_low (by omega), e1]
    · have hr1 : t % p = p - 1 := by omega
      have e0 : t + 1 = p * (t / p + 1) := by rw [Nat.mul_add]; omega
      have e1 : (t + 1) / p = t / p + 1 := by rw [e0, Nat.mul_div_cancel_left _ (by omega)]
      have e2 : (t + 1) % p = 0 := by rw [e0, Nat.mul_mod_right]
      rcases dg_next hp k (t / p) hq with ⟨g1, g2⟩ | ⟨g1, a, g2, g3, g4, g5⟩
      · left
        refine ⟨by rw [e0, g1, hpk, Nat.mul_comm], fun i hi => ?_⟩
        by_cases e : i = k
        · subst e; rw [dg_top, hr1]; omega
        · rw [dg_low (by omega), g2 i (by omega)]
      · right
        refine ⟨?_, a, by omega, fun i h1 h2 => ?_, by rw [dg_low g2]; exact g4, fun i hi => ?_⟩
        · rw [e0, hpk, Nat.mul_comm]
          exact Nat.mul_lt_mul_of_pos_right g1 (by omega)
        · by_cases e : i = k
          · subst e; rw [dg_top, hr1]; omega
          · rw [dg_low (by omega), g3 i h1 (by omega)]
        · by_cases e : i = k
          · subst e
            rw [if_pos g2, dg_top, e2]; rfl
          · rw [dg_low (by omega), e1, g5 i (by omega)]
            by_cases h1 : a < i
            · rw [if_pos h1, if_pos h1]
            · rw [if_neg h1, if_neg h1, dg_low g2, dg_low (by omega)]
end Go.Proofs.Ytcalfblghblhcaa
