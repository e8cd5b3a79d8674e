/-
  What the least amount is, in plain Lean. Conditions: none.
-/
import Derived.Test.YtfnbnpjedhcmgaaLeast2
namespace Go.Proofs.Ytfnbnpjedhcmgaa
open Go.RowKit

theorem firstFrom_spec {f : Int → Int} {amount : Int} : ∀ (n : Nat) (x0 : Int), (firstFrom f amount n x0).2 = true →
    x0 ≤ (firstFrom f amount n x0).1 ∧ (firstFrom f amount n x0).1 < x0 + n ∧ amount ≤ f (firstFrom f amount n x0).1 ∧ ∀ y, x0 ≤ y → y < (firstFrom f amount n x0).1 → f y < amount
  | 0, _, h => by simp [firstFrom] at h
  | n + 1, x0, h => by
    by_cases hc : amount ≤ f x0
    · rw [first_hit hc]
      exact ⟨by simp, by simp; omega, hc, fun y h1 h2 => absurd h2 (by simp; omega)⟩
    · rw [first_step (by omega)] at h ⊢
      obtain ⟨a1, a2, a3, a4⟩ := firstFrom_spec n (x0 + 1) h
      refine ⟨by omega, by omega, a3, fun y h1 h2 => ?_⟩
      by_cases e : y = x0
      · subst e; omega
      · exact a4 y (by omega) h2

theorem leastS_spec {nd ne ak k s amount : Int} (h : (leastS nd ne ak k s amount).2 = true) : ∃ x, (leastS nd ne ak k s amount).1 = x ∧ vSt nd ne ak k s = true ∧ 0 ≤ x ∧ x ≤ 20 ∧ 0 ≤ amount ∧ amount ≤ 120 ∧ amount ≤ capOf nd ne ak k x ∧ (0 < x → capOf nd ne ak k (x - 1) < amount) := by
  unfold leastS at h ⊢
  cases hc : vSt nd ne ak k s && inR amount 0 120
  · simp [hc] at h
  rw [hc] at h
  simp only [if_true] at h ⊢
  rw [Bool.and_eq_true, inR_true] at hc
  obtain ⟨a1, a2, a3, a4⟩ := firstFrom_spec 21 0 h
  refine ⟨_, rfl, hc.1, a1, by omega, hc.2.1, hc.2.2, ?_, fun h0 => ?_⟩
  · rw [capOf, if_pos (vSt_sent hc.1 (by omega) (by omega))]; exact a3
  · rw [capOf, if_pos (vSt_sent hc.1 (by omega) (by omega))]; exact a4 _ (by omega) (by omega)

theorem leastK_spec {nd ne ak k s amount : Int} (h : (leastK nd ne ak k s amount).2 = true) : ∃ x, (leastK nd ne ak k s amount).1 = x ∧ vSt nd ne ak k s = true ∧ 0 ≤ x ∧ x ≤ 20 ∧ 0 ≤ amount ∧ amount ≤ 120 ∧ amount ≤ capOf nd ne ak x s ∧ (0 < x → capOf nd ne ak (x - 1) s < amount) := by
  unfold leastK at h ⊢
  cases hc : vSt nd ne ak k s && inR amount 0 120
  · simp [hc] at h
  rw [hc] at h
  simp only [if_true] at h ⊢
  rw [Bool.and_eq_true, inR_true] at hc
  obtain ⟨a1, a2, a3, a4⟩ := firstFrom_spec 21 0 h
  refine ⟨_, rfl, hc.1, a1, by omega, hc.2.1, hc.2.2, ?_, fun h0 => ?_⟩
  · rw [capOf, if_pos (vSt_kept hc.1 (by omega) (by omega))]; exact a3
  · rw [capOf, if_pos (vSt_kept hc.1 (by omega) (by omega))]; exact a4 _ (by omega) (by omega)
end Go.Proofs.Ytfnbnpjedhcmgaa
