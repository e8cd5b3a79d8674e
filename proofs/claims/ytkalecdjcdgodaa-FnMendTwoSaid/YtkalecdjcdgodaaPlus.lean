/-
  Arrays with two columns more, plain. No conditions: nothing is claimed of the program here.
-/
import Derived.Test.YtkalecdjcdgodaaTabC
import Derived.Test.YtkalecdjcdgodaaBits
namespace Go.Proofs.Ytkalecdjcdgodaa
open Go.RowKit

/-- the sum of the first k numbers -/
def tot (f : Nat → Int) : Nat → Int | 0 => 0 | i + 1 => tot f i + f i
theorem tot_bd {f : Nat → Int} {n : Nat} {B : Nat} (h : ∀ i, i < n → 0 ≤ f i ∧ f i ≤ B) : ∀ j, j ≤ n → 0 ≤ tot f j ∧ tot f j ≤ B * j
  | 0, _ => by simp [tot]
  | j + 1, hj => by
    have h1 := tot_bd h j (by omega)
    have h2 := h j (by omega)
    have e : (B : Int) * ((j + 1 : Nat) : Int) = B * j + B := by push_cast; rw [Int.mul_add, Int.mul_one]
    rw [tot, e]
    omega
theorem tot_congr {f g : Nat → Int} : ∀ {n : Nat}, (∀ i, i < n → f i = g i) → tot f n = tot g n
  | 0, _ => rfl
  | n + 1, h => by rw [tot, tot, tot_congr (fun i hi => h i (by omega)), h n (by omega)]
/-- with a column more: the rest of the row's sum -/
def W1 (q : Nat) (M : Nat → Nat → Int) (i j : Nat) : Int := if j < q then M i j else tot (M i) q % 2
/-- what row r gives to diagonal i, its first k numbers -/
def dg1 (p : Nat) (W : Nat → Nat → Int) (i r : Nat) : Nat → Int | 0 => 0 | k + 1 => dg1 p W i r k + (if (r + k) % p = i then W r k else 0)
/-- what the first r rows give -/
def dg2 (p : Nat) (W : Nat → Nat → Int) (i : Nat) : Nat → Int | 0 => 0 | r + 1 => dg2 p W i r + dg1 p W i r p
/-- with two columns more -/
def W2 (p : Nat) (W : Nat → Nat → Int) (i j : Nat) : Int := if j < p then W i j else dg2 p W i (p - 1) % 2
def plusF (p : Nat) (M : Nat → Nat → Int) : Nat → Nat → Int := W2 p (W1 (p - 1) M)
/-- all numbers are 0 or 1 -/
def Bin (n m : Nat) (M : Nat → Nat → Int) : Prop := ∀ i j, i < n → j < m → 0 ≤ M i j ∧ M i j ≤ 1
theorem W1_bin {n q : Nat} {M : Nat → Nat → Int} (h : Bin n q M) (m : Nat) : Bin n m (W1 q M) := fun i j hi _ => by
  unfold W1
  split
  · rename_i h1; exact h i j hi h1
  · have := Int.emod_nonneg (tot (M i) q) (show (2 : Int) ≠ 0 by omega)
    have := Int.emod_lt_of_pos (tot (M i) q) (show (0 : Int) < 2 by omega)
    omega
theorem dg1_bd {p n : Nat} {W : Nat → Nat → Int} (h : Bin n p W) {i r : Nat} (hr : r < n) : ∀ k, k ≤ p → 0 ≤ dg1 p W i r k ∧ dg1 p W i r k ≤ k
  | 0, _ => by simp [dg1]
  | k + 1, hk => by
    have h1 := dg1_bd h (i := i) hr k (by omega)
    have h2 := h r k hr (by omega)
    rw [dg1]
    push_cast
    split <;> omega
theorem dg2_bd {p n : Nat} {W : Nat → Nat → Int} (h : Bin n p W) (hp : p ≤ 5) {i : Nat} : ∀ r, r ≤ n → 0 ≤ dg2 p W i r ∧ dg2 p W i r ≤ 5 * r
  | 0, _ => by simp [dg2]
  | r + 1, hr => by
    have h1 := dg2_bd h hp (i := i) r (by omega)
    have h2 := dg1_bd h (i := i) (show r < n by omega) p (Nat.le_refl p)
    rw [dg2]
    push_cast
    omega
theorem W2_bin {p n : Nat} {W : Nat → Nat → Int} (h : Bin n p W) (m : Nat) : Bin n m (W2 p W) := fun i j hi _ => by
  unfold W2
  split
  · rename_i h1; exact h i j hi h1
  · have := Int.emod_nonneg (dg2 p W i (p - 1)) (show (2 : Int) ≠ 0 by omega)
    have := Int.emod_lt_of_pos (dg2 p W i (p - 1)) (show (0 : Int) < 2 by omega)
    omega
theorem bit_xor {x y : Int} (hx : 0 ≤ x ∧ x ≤ 1) (hy : 0 ≤ y ∧ y ≤ 1) : bits .xor .i64 x y = (x + y) % 2 := by
  have ex : x = 0 ∨ x = 1 := by omega
  have ey : y = 0 ∨ y = 1 := by omega
  rcases ex with rfl | rfl <;> rcases ey with rfl | rfl <;> decide
theorem rest2 (a b : Int) : (a % 2 + b) % 2 = (a + b) % 2 := Int.emod_add_emod ..
theorem rest2_bd (a : Int) : 0 ≤ a % 2 ∧ a % 2 ≤ 1 := by omega
end Go.Proofs.Ytkalecdjcdgodaa
