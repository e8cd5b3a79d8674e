/-
  CliquesOf: both ways come to the same. Plain mathematics, no program in sight.
-/
import Derived.Test.YtecmihmopiepfaaCliques2
namespace Go.Proofs.Ytecmihmopiepfaa
open Go.RowKit

def idx (i j : Nat) : Nat := i + j * (j - 1) / 2
/-- S is a clique, by the pairs' bits -/
def clC (P S : Nat) : Bool := [(0, 1), (0, 2), (1, 2), (0, 3), (1, 3), (2, 3)].all fun (x : Nat × Nat) => !(bt S x.1 && bt S x.2) || bt P (idx x.1 x.2)
theorem clC_true {P S : Nat} : clC P S = true ↔ ∀ j, j < 4 → ∀ i, i < j → bt S i = true → bt S j = true → bt P (idx i j) = true := by
  simp only [clC, List.all_cons, List.all_nil, Bool.and_true, Bool.and_eq_true, Bool.or_eq_true, Bool.not_eq_true', Bool.and_eq_false_iff]
  constructor
  · rintro ⟨h1, h2, h3, h4, h5, h6⟩ j hj i hi a b
    have : (i = 0 ∧ j = 1) ∨ (i = 0 ∧ j = 2) ∨ (i = 1 ∧ j = 2) ∨ (i = 0 ∧ j = 3) ∨ (i = 1 ∧ j = 3) ∨ (i = 2 ∧ j = 3) := by omega
    rcases this with ⟨rfl, rfl⟩ | ⟨rfl, rfl⟩ | ⟨rfl, rfl⟩ | ⟨rfl, rfl⟩ | ⟨rfl, rfl⟩ | ⟨rfl, rfl⟩ <;> simp_all
  · intro h
    have k := fun j hj i hi => h j hj i hi
    have e : ∀ i j, i < j → j < 4 → (bt S i = false ∨ bt S j = false) ∨ bt P (idx i j) = true := fun i j hij hj => by
      cases a : bt S i
      · exact .inl (.inl rfl)
      · cases b : bt S j
        · exact .inl (.inr rfl)
        · exact .inr (h j hj i hij a b)
    exact ⟨e 0 1 (by omega) (by omega), e 0 2 (by omega) (by omega), e 1 2 (by omega) (by omega), e 0 3 (by omega) (by omega), e 1 3 (by omega) (by omega), e 2 3 (by omega) (by omega)⟩
theorem row_fin' : ∀ y : Nat, y < 16 → ∀ i, i < 4 → ∀ S, S < 16 → ((y ||| 2 ^ i) &&& S == S) = ((List.range 4).all fun j => j == i || (!bt S j || bt y j)) := by decide +kernel
theorem row_fin (y : Nat) (hy : y < 16) (i : Nat) (hi : i < 4) (S : Nat) (hS : S < 16) : ((y ||| 2 ^ i) &&& S = S ↔ ∀ j, j < 4 → (j == i) = false → bt S j = true → bt y j = true) := by
  have h := row_fin' y hy i hi S hS
  rw [← beq_iff_eq, h, List.all_eq_true]
  constructor
  · intro k j hj hne hb
    have := k j (List.mem_range.2 hj)
    rw [hne, hb] at this
    simpa using this
  · intro k j hj
    have := k j (List.mem_range.1 hj)
    cases a : j == i
    · cases b : bt S j
      · rfl
      · simp [this a b]
    · rfl
theorem bt_lt : ∀ n, n < 5 → ∀ S, S < 2 ^ n → ∀ j, j < 4 → bt S j = true → j < n := by decide +kernel
theorem code_fin : ∀ a b c d e f : Bool, ∃ P, P < 64 ∧ bt P 0 = a ∧ bt P 1 = b ∧ bt P 2 = c ∧ bt P 3 = d ∧ bt P 4 = e ∧ bt P 5 = f := by
  intro a b c d e f
  refine ⟨a.toNat + 2 * b.toNat + 4 * c.toNat + 8 * d.toNat + 16 * e.toNat + 32 * f.toNat, ?_⟩
  revert a b c d e f; decide +kernel
def adj (n : Nat) (g : Nat → Nat) (i j : Nat) : Bool := decide (j < n) && bt (g i) j && bt (g j) i
theorem clB_code (n : Nat) (g : Nat → Nat) (hn : n ≤ 4) (hg : ∀ i, i < n → g i < 16) : ∃ P, P < 64 ∧ ((∀ j, j < 4 → ∀ i, i < j → bt P (idx i j) = adj n g i j) ∧ ∀ S, S < 2 ^ n → decide (clB n g S) = clC P S) := by
  obtain ⟨P, hP, h0, h1, h2, h3, h4, h5⟩ := code_fin (adj n g 0 1) (adj n g 0 2) (adj n g 1 2) (adj n g 0 3) (adj n g 1 3) (adj n g 2 3)
  have hb : ∀ j, j < 4 → ∀ i, i < j → bt P (idx i j) = adj n g i j := by
    intro j hj i hi
    have : (i = 0 ∧ j = 1) ∨ (i = 0 ∧ j = 2) ∨ (i = 1 ∧ j = 2) ∨ (i = 0 ∧ j = 3) ∨ (i = 1 ∧ j = 3) ∨ (i = 2 ∧ j = 3) := by omega
    rcases this with ⟨rfl, rfl⟩ | ⟨rfl, rfl⟩ | ⟨rfl, rfl⟩ | ⟨rfl, rfl⟩ | ⟨rfl, rfl⟩ | ⟨rfl, rfl⟩
    · exact h0
    · exact h1
    · exact h2
    · exact h3
    · exact h4
    · exact h5
  refine ⟨P, hP, hb, fun S hS => ?_⟩
  have h16 : S < 16 := Nat.lt_of_lt_of_le hS (by have := Nat.pow_le_pow_right (show 0 < 2 by omega) hn; omega)
  have hlt := bt_lt n (by omega) S hS
  have key : clB n g S ↔ clC P S = true := by
    rw [clC_true]
    constructor
    · intro h j hj i hi a b
      have hjn := hlt j hj b
      rw [hb j hj i hi]
      have r1 := (row_fin (g i) (hg i (by omega)) i (by omega) S h16).1 (h i (by omega) a) j hj (by simp; omega) b
      have r2 := (row_fin (g j) (hg j hjn) j hj S h16).1 (h j hjn b) i (by omega) (by simp; omega) a
      simp [adj, hjn, r1, r2]
    · intro h i hi a
      refine (row_fin (g i) (hg i hi) i (by omega) S h16).2 (fun j hj hne b => ?_)
      have hjn := hlt j hj b
      have hne' : j ≠ i := by simpa using hne
      by_cases hij : i < j
      · have := h j hj i hij a b
        rw [hb j hj i hij] at this
        simp only [adj, Bool.and_eq_true] at this
        exact this.1.2
      · have := h i (by omega) j (by omega) b a
        rw [hb i (by omega) j (by omega)] at this
        simp only [adj, Bool.and_eq_true] at this
        exact this.2
  cases hc : clC P S
  · exact decide_eq_false (fun h => by rw [key.1 h] at hc; cases hc)
  · exact decide_eq_true (key.2 hc)

theorem cfL_congr {c c' : Nat → Bool} {rec rec' : Nat → Nat} {l fi M : Nat} (hc : ∀ S, S < M → c S = c' S) (hr : ∀ m, m ≤ l → rec m = rec' m) : ∀ k, k ≤ M → cfL c rec l fi k = cfL c' rec' l fi k
  | 0, _ => rfl
  | k + 1, hk => by
    simp only [cfL]
    rw [cfL_congr hc hr k (by omega), hc k (by omega), hr (l - k) (by omega)]
theorem cf_congr {c c' : Nat → Bool} {M : Nat} (hc : ∀ S, S < M → c S = c' S) : ∀ fu l, l < M → cf c fu l = cf c' fu l
  | 0, _, _ => rfl
  | fu + 1, l, h => by
    simp only [cf]
    rw [cfL_congr hc (fun m hm => cf_congr hc fu m (by omega)) (l + 1) (by omega)]
theorem dpI_congr {c c' : Nat → Bool} {rec rec' : Nat → Nat} {S M : Nat} (hc : ∀ x, x < M → c x = c' x) (hr : ∀ m, rec m = rec' m) (hS : S < M) : ∀ fu p b, p ≤ S → dpI c rec S fu p b = dpI c' rec' S fu p b
  | 0, _, _, _ => rfl
  | fu + 1, p, b, hp => by
    simp only [dpI]
    rw [hc p (by omega), hr (an S p), dpI_congr hc hr hS fu _ _ Nat.and_le_right]
theorem tab_congr {c c' : Nat → Bool} {n M : Nat} (hc : ∀ x, x < M → c x = c' x) : ∀ k, k ≤ M → ∀ s, tab c n k s = tab c' n k s
  | 0, _, _ => rfl
  | k + 1, hk, s => by
    simp only [tab]
    rw [dpI_congr hc (tab_congr hc k (by omega)) (show k < M by omega) 16 k n (Nat.le_refl _), tab_congr hc k (by omega) s]

theorem both_fin : ∀ n, n < 5 → ∀ P, P < 64 → cf (clC P) 16 (2 ^ n - 1) = tab (clC P) n (2 ^ n) (2 ^ n - 1) := by decide +kernel
theorem clVW (n : Nat) (f : Nat → Int) : clW n f = clV n f := by
  unfold clW clV
  cases hv : vH n f
  · rfl
  · obtain ⟨h4, hg⟩ := vH_g hv
    obtain ⟨P, hP, _, hc⟩ := clB_code n (fun i => (f i).toNat) h4.2 (fun i hi => (hg i hi).2)
    have h2 := Nat.two_pow_pos n
    rw [if_pos rfl, if_pos rfl, cf_congr hc 16 (2 ^ n - 1) (by omega), tab_congr hc (2 ^ n) (Nat.le_refl _), both_fin n (by omega) P hP]
end Go.Proofs.Ytecmihmopiepfaa
