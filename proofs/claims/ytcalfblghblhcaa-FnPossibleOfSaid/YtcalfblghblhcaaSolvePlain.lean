/-
  Solving rows for a goal over a prime, plain: sums of multiples, what a good answer is, that there is at most one, and that both ways of elimination lead to it. No conditions: nothing is claimed of the program here.
-/
import Derived.Test.YtcalfblghblhcaaField
namespace Go.Proofs.Ytcalfblghblhcaa
open Go.RowKit

theorem dvd_l {p a : Int} (h : p ∣ a) (c : Int) : p ∣ a * c := by obtain ⟨q, rfl⟩ := h; exact ⟨q * c, by rw [Int.mul_assoc]⟩
theorem dvd_r {p a : Int} (c : Int) (h : p ∣ a) : p ∣ c * a := by rw [Int.mul_comm]; exact dvd_l h c
/-- the sum of multiples of the first n rows, at index k -/
def lc (c : Nat → Int) (R : Nat → Nat → Int) (k : Nat) : Nat → Int | 0 => 0 | n + 1 => lc c R k n + c n * R n k
theorem lc_zero (R : Nat → Nat → Int) (k : Nat) : ∀ n, lc (fun _ => 0) R k n = 0
  | 0 => rfl
  | n + 1 => by rw [lc, lc_zero R k n]; omega
theorem lc_congr {c d : Nat → Int} {R S : Nat → Nat → Int} {k : Nat} : ∀ {n : Nat}, (∀ j, j < n → c j = d j) → (∀ j, j < n → R j k = S j k) → lc c R k n = lc d S k n
  | 0, _, _ => rfl
  | n + 1, h, g => by rw [lc, lc, lc_congr (fun j hj => h j (by omega)) (fun j hj => g j (by omega)), h n (by omega), g n (by omega)]
theorem lc_add (a b : Nat → Int) (t : Int) (R : Nat → Nat → Int) (k : Nat) : ∀ n, lc (fun j => a j + t * b j) R k n = lc a R k n + t * lc b R k n
  | 0 => by simp [lc]
  | n + 1 => by
    rw [lc, lc, lc, lc_add a b t R k n, Int.add_mul, Int.mul_add, Int.mul_assoc]
    omega
/-- one factor more -/
theorem lc_one (c : Nat → Int) (R : Nat → Nat → Int) (k i : Nat) (t : Int) : ∀ n, i < n → lc (fun j => c j + if j = i then t else 0) R k n = lc c R k n + t * R i k
  | 0, h => by omega
  | n + 1, h => by
    rw [lc, lc]
    by_cases e : i = n
    · subst e
      rw [lc_congr (d := c) (S := R) (fun j hj => by rw [if_neg (by omega)]; omega) (fun _ _ => rfl), if_pos rfl, Int.add_mul]
      omega
    · rw [lc_one c R k i t n (by omega), if_neg (fun h => e h.symm), Int.add_zero]
      omega
theorem lc_mod {p : Int} {c d : Nat → Int} {R S : Nat → Nat → Int} {k : Nat} : ∀ {n : Nat}, (∀ j, j < n → p ∣ c j - d j) → (∀ j, j < n → p ∣ R j k - S j k) → p ∣ lc c R k n - lc d S k n
  | 0, _, _ => by simp [lc]
  | n + 1, h, g => by
    rw [lc, lc]
    have h1 := lc_mod (fun j hj => h j (by omega)) (fun j hj => g j (by omega)) (n := n) (c := c) (d := d) (R := R) (S := S) (k := k)
    have h2 := h n (by omega)
    have h3 := g n (by omega)
    have h4 : p ∣ (c n - d n) * R n k + d n * (R n k - S n k) := Int.dvd_add (dvd_l h2 _) (dvd_r _ h3)
    have e : lc c R k n + c n * R n k - (lc d S k n + d n * S n k) = (lc c R k n - lc d S k n) + ((c n - d n) * R n k + d n * (R n k - S n k)) := by rw [Int.sub_mul, Int.mul_sub]; omega
    rw [e]
    exact Int.dvd_add h1 h4

/-- a list is a sum of multiples of the first n rows -/
def Spn (p : Int) (m : Nat) (R : Nat → Nat → Int) (n : Nat) (v : Nat → Int) : Prop := ∃ c, ∀ k, k < m → p ∣ lc c R k n - v k
theorem Spn.zero (p : Int) (m : Nat) (R : Nat → Nat → Int) (n : Nat) {v : Nat → Int} (h : ∀ k, k < m → p ∣ v k) : Spn p m R n v :=
  ⟨fun _ => 0, fun k hk => by rw [lc_zero, Int.zero_sub]; exact (Int.dvd_neg).2 (h k hk)⟩
theorem Spn.add {p : Int} {m n : Nat} {R : Nat → Nat → Int} {u v w : Nat → Int} {t : Int} (hu : Spn p m R n u) (hv : Spn p m R n v) (hw : ∀ k, k < m → p ∣ w k - (u k + t * v k)) : Spn p m R n w := by
  obtain ⟨a, ha⟩ := hu
  obtain ⟨b, hb⟩ := hv
  refine ⟨fun j => a j + t * b j, fun k hk => ?_⟩
  rw [lc_add]
  have h1 := ha k hk
  have h2 := dvd_r (t) (hb k hk)
  have h3 := hw k hk
  have e : lc a R k n + t * lc b R k n - w k = (lc a R k n - u k) + t * (lc b R k n - v k) - (w k - (u k + t * v k)) := by rw [Int.mul_sub]; omega
  rw [e]
  exact Int.dvd_sub (Int.dvd_add h1 h2) h3
theorem Spn.congr {p : Int} {m n : Nat} {R : Nat → Nat → Int} {u w : Nat → Int} (hu : Spn p m R n u) (hw : ∀ k, k < m → p ∣ w k - u k) : Spn p m R n w :=
  Spn.add (t := 0) hu hu fun k hk => by have := hw k hk; rw [Int.zero_mul, Int.add_zero]; exact this
theorem Spn.row {p : Int} {m n i : Nat} {R : Nat → Nat → Int} (hi : i < n) : Spn p m R n (R i) :=
  ⟨fun j => 0 + if j = i then 1 else 0, fun k _ => by rw [lc_one (fun _ => 0) R k i 1 n hi, lc_zero, Int.one_mul, Int.zero_add, Int.sub_self]; exact Int.dvd_zero p⟩
theorem Spn.mono {p : Int} {m n : Nat} {R : Nat → Nat → Int} {v : Nat → Int} (h : Spn p m R n v) : Spn p m R (n + 1) v := by
  obtain ⟨c, hc⟩ := h
  refine ⟨fun j => if j < n then c j else 0, fun k hk => ?_⟩
  rw [lc, if_neg (by omega), Int.zero_mul, Int.add_zero, lc_congr (d := c) (S := R) (fun j hj => by rw [if_pos hj]) (fun _ _ => rfl)]
  exact hc k hk
theorem Spn.mono_le {p : Int} {m n n' : Nat} {R : Nat → Nat → Int} {v : Nat → Int} (h : Spn p m R n v) (hn : n ≤ n') : Spn p m R n' v := by
  induction n' with
  | zero => rw [show (0 : Nat) = n by omega]; exact h
  | succ k ih =>
    by_cases e : n = k + 1
    · rw [← e]; exact h
    · exact (ih (by omega)).mono
/-- sums of sums -/
theorem Spn.trans {p : Int} {m t : Nat} {R K : Nat → Nat → Int} : ∀ {n : Nat} {v : Nat → Int}, (∀ j, j < n → Spn p m K t (R j)) → Spn p m R n v → Spn p m K t v := by
  intro n v hR ⟨c, hc⟩
  have key : ∀ i, i ≤ n → Spn p m K t (fun k => lc c R k i) := by
    intro i
    induction i with
    | zero => exact fun _ => Spn.zero p m K t fun k _ => by rw [lc]; exact Int.dvd_zero p
    | succ i ih => exact fun hi => Spn.add (t := c i) (ih (by omega)) (hR i (by omega)) fun k _ => by rw [lc, Int.sub_self]; exact Int.dvd_zero p
  exact (key n (Nat.le_refl n)).congr fun k hk => by
    have := (Int.dvd_neg).2 (hc k hk)
    rwa [Int.neg_sub] at this

/-- what an answer is: the multiples add up to the goal, and no row that is a sum of those ahead is used -/
def Good (p : Int) (n m : Nat) (R : Nat → Nat → Int) (g f : Nat → Int) : Prop :=
  (∀ j, j < n → 0 ≤ f j ∧ f j < p) ∧ (∀ k, k < m → p ∣ lc f R k n - g k) ∧ ∀ j, j < n → f j ≠ 0 → ¬ Spn p m R j (R j)
theorem prime_inv {p x : Int} (hp : isP p = true) (h : ¬ p ∣ x) : ∃ y, p ∣ x * y - 1 := by
  have hp0 : 0 < p := by rcases isP_true.1 hp with rfl | rfl | rfl | rfl <;> omega
  have h1 := Int.emod_nonneg x (show p ≠ 0 by omega)
  have h2 := Int.emod_lt_of_pos x hp0
  have h3 : x % p ≠ 0 := fun e => h (Int.dvd_of_emod_eq_zero e)
  obtain ⟨_, _, h4, _⟩ := inv_ok hp (show 1 ≤ x % p by omega) (by omega)
  refine ⟨inv p (x % p), ?_⟩
  refine Int.dvd_of_emod_eq_zero ?_
  generalize inv p (x % p) = z at *
  have e : x * z % p = 1 := by
    rw [Int.mul_emod, Int.emod_emod_of_dvd x (Int.dvd_refl p)] at h4
    rw [Int.mul_emod]; exact h4
  rw [Int.sub_emod, e]
  have : (2 : Int) ≤ p := by rcases isP_true.1 hp with rfl | rfl | rfl | rfl <;> omega
  rw [Int.emod_eq_of_lt (by omega) (show (1 : Int) < p by omega)]
  rfl
theorem small_dvd {p x : Int} (h : p ∣ x) (h1 : -p < x) (h2 : x < p) : x = 0 := by
  obtain ⟨q, rfl⟩ := h
  have hq : q = 0 := by
    rcases Int.lt_trichotomy q 0 with h0 | h0 | h0
    · have : p * q ≤ p * (-1) := Int.mul_le_mul_of_nonneg_left (by omega) (by omega)
      omega
    · exact h0
    · have : p * 1 ≤ p * q := Int.mul_le_mul_of_nonneg_left (by omega) (by omega)
      omega
  rw [hq]; omega
/-- there is at most one answer -/
theorem Good.uniq {p : Int} {n m : Nat} {R : Nat → Nat → Int} {g f f' : Nat → Int} (hp : isP p = true) (h : Good p n m R g f) (h' : Good p n m R g f') : ∀ j, j < n → f j = f' j := by
  obtain ⟨a1, a2, a3⟩ := h
  obtain ⟨b1, b2, b3⟩ := h'
  have key : ∀ t, t ≤ n → (∀ j, n - t ≤ j → j < n → f j = f' j) ∧ ∀ k, k < m → p ∣ lc (fun j => f j + (-1) * f' j) R k (n - t) := by
    intro t
    induction t with
    | zero =>
      refine fun _ => ⟨fun j h1 h2 => by omega, fun k hk => ?_⟩
      rw [Nat.sub_zero, lc_add]
      have := Int.dvd_sub (a2 k hk) (b2 k hk)
      have e : lc f R k n + -1 * lc f' R k n = lc f R k n - g k - (lc f' R k n - g k) := by omega
      rw [e]; exact this
    | succ t ih =>
      intro ht
      obtain ⟨i1, i2⟩ := ih (by omega)
      obtain ⟨q, hq⟩ : ∃ q, n - t = q + 1 := ⟨n - t - 1, by omega⟩
      have hq2 : n - (t + 1) = q := by omega
      rw [hq] at i1 i2
      rw [hq2]
      have he : f q = f' q := by
        refine Classical.byContradiction fun hne => ?_
        have r1 := a1 q (by omega)
        have r2 := b1 q (by omega)
        have hnd : ¬ p ∣ f q + (-1) * f' q := fun hd => hne (by have := small_dvd hd (by omega) (by omega); omega)
        obtain ⟨y, hy⟩ := prime_inv hp hnd
        have hs : Spn p m R q (R q) := by
          refine ⟨fun j => 0 + (-y) * (f j + (-1) * f' j), fun k hk => ?_⟩
          rw [lc_add (fun _ => 0) (fun j => f j + (-1) * f' j) (-y) R k q, lc_zero]
          have h1 := dvd_r (-y) (i2 k hk)
          rw [lc] at h1
          have h2 := dvd_l hy (R q k)
          generalize lc (fun j => f j + (-1) * f' j) R k q = L at *
          generalize f q + (-1) * f' q = d at *
          have e : 0 + -y * L - R q k = -y * (L + d * R q k) + (d * y - 1) * R q k := by
            rw [Int.mul_add, Int.sub_mul, Int.one_mul, Int.mul_comm d y, Int.mul_assoc, Int.neg_mul y (d * R q k)]
            omega
          rw [e]
          exact Int.dvd_add h1 h2
        by_cases h0 : f q = 0
        · exact b3 q (by omega) (by omega) hs
        · exact a3 q (by omega) h0 hs
      refine ⟨fun j h1 h2 => ?_, fun k hk => ?_⟩
      · by_cases e : j = q
        · subst e; exact he
        · exact i1 j (by omega) h2
      · have := i2 k hk
        rw [lc, he] at this
        have e : f' q + -1 * f' q = 0 := by omega
        rw [e, Int.zero_mul, Int.add_zero] at this
        exact this
  intro j hj
  exact (key n (Nat.le_refl n)).1 j (by omega) hj
end Go.Proofs.Ytcalfblghblhcaa
