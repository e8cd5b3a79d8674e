/-
  Shares: the program and the reference agree. Conditions: the scheme and the list can be read.
-/
import Derived.Test.YthafmoofemfdmaaScheme
import Derived.Test.YthafmoofemfdmaaOwn5
import Derived.Deep.RegionWith
import Derived.Deep.DeepCutAuto
import Derived.Deep.QuietTactic
import Derived.BigQuiet
import Derived.RegionTactic
namespace Go.Proofs.Ythafmoofemfdmaa
open Go.RowKit

/-- behind a call that was made behind a box and a draw -/
theorem box_draw {w w1 : World} {t : TypeId} {cs : Array Value} (hb : Below (w.alloc (.cells cs t)).drew.heap.size (w.alloc (.cells cs t)).drew w1) : Below w.heap.size w w1 ∧ Blk w1 w.heap.size t cs := by
  have hz : (w.alloc (.cells cs t)).drew.heap.size = w.heap.size + 1 := by show (w.alloc (.cells cs t)).heap.size = _; simp
  refine ⟨(Below.drew ((Below.refl w.heap.size w).alloc (Nat.le_refl _) (.cells cs t))).trans (hb.mono (by omega)), ?_⟩
  exact Blk.below (w := (w.alloc (.cells cs t)).drew) (Blk.new w t cs).drew hb (by omega)
theorem box_plain {w w1 : World} {t : TypeId} {cs : Array Value} (hb : Below (w.alloc (.cells cs t)).heap.size (w.alloc (.cells cs t)) w1) : Below w.heap.size w w1 ∧ Blk w1 w.heap.size t cs :=
  ⟨((Below.refl w.heap.size w).alloc (Nat.le_refl _) (.cells cs t)).trans (hb.mono (by simp)), Blk.below (Blk.new w t cs) hb (by simp)⟩
theorem below_box_draw {w : World} (o : Obj) : Below w.heap.size w (w.alloc o).drew := Below.drew ((Below.refl w.heap.size w).alloc (Nat.le_refl _) o)
theorem below_box {w : World} (o : Obj) : Below w.heap.size w (w.alloc o) := (Below.refl w.heap.size w).alloc (Nat.le_refl _) o

/-- a row times a list, the first k -/
def dsum (f g : Nat → Int) : Nat → Int | 0 => 0 | k + 1 => dsum f g k + f k * g k
theorem mul_bd6 {a b : Int} (ha : 0 ≤ a ∧ a ≤ 6) (hb : 0 ≤ b ∧ b ≤ 6) : 0 ≤ a * b ∧ a * b ≤ 36 := by
  refine ⟨Int.mul_nonneg ha.1 hb.1, ?_⟩
  have h1 : a * b ≤ 6 * b := Int.mul_le_mul_of_nonneg_right ha.2 hb.1
  omega
theorem dsum_bd {f g : Nat → Int} {n : Nat} (h : ∀ i, i < n → (0 ≤ f i ∧ f i ≤ 6) ∧ (0 ≤ g i ∧ g i ≤ 6)) : ∀ k, k ≤ n → 0 ≤ dsum f g k ∧ dsum f g k ≤ 36 * k
  | 0, _ => by simp [dsum]
  | k + 1, hk => by
    have h1 := dsum_bd h k (by omega)
    have h2 := mul_bd6 (h k (by omega)).1 (h k (by omega)).2
    rw [dsum]
    push_cast
    omega



/-- the scheme is valid and the list fits -/
def shIn (p : Int) (n : Nat) (L : Nat → Nat) (M : Nat → Nat → Int) (m : Nat) (f : Nat → Int) (n1 : Nat) (g : Nat → Int) : Bool := vSch p n L M m f && (decide ((n1 : Int) = L 0) && allR n1 g p)
def shN (p : Int) (n : Nat) (L : Nat → Nat) (M : Nat → Nat → Int) (m : Nat) (f : Nat → Int) (n1 : Nat) (g : Nat → Int) : Nat := if shIn p n L M m f n1 g then n else 0
def shF (p : Int) (L : Nat → Nat) (M : Nat → Nat → Int) (g : Nat → Int) (i : Nat) : Int := dsum (M i) g (L 0) % p
def shL (p : Int) (L : Nat → Nat) (M : Nat → Nat → Int) (g : Nat → Int) (k : Nat) : List Int := (List.range k).map (shF p L M g)
theorem shL_succ (p : Int) (L : Nat → Nat) (M : Nat → Nat → Int) (g : Nat → Int) (k : Nat) : shL p L M g (k + 1) = shL p L M g k ++ [shF p L M g k] := by simp [shL, List.range_succ]
def ShPost (p : Int) (n : Nat) (L : Nat → Nat) (M : Nat → Nat → Int) (m : Nat) (f : Nat → Int) (n1 : Nat) (g : Nat → Int) (w : World) (e : Ending) (w' : World) : Prop :=
  ∃ A' c', e = .returned (.slice A' (shN p n L M m f n1 g) c') ∧ Row w' w.heap.size A' (shN p n L M m f n1 g) c' (shL p L M g (shN p n L M m f n1 g)) ∧ Below w.heap.size w w'
theorem sh_no {p : Int} {n m n1 : Nat} {L : Nat → Nat} {M : Nat → Nat → Int} {f g : Nat → Int} {w w' : World} (h : shIn p n L M m f n1 g = false) (hb : Below w.heap.size w w') : ShPost p n L M m f n1 g w (.returned (.slice none 0 0)) w' := by
  have : shN p n L M m f n1 g = 0 := by simp [shN, h]
  exact ⟨none, 0, by rw [this], by rw [this]; exact Row.nil _ _, hb⟩
/-- what a valid scheme's rows are -/
theorem vSch_rows {p : Int} {n m : Nat} {L : Nat → Nat} {M : Nat → Nat → Int} {f : Nat → Int} (h : vSch p n L M m f = true) :
    (2 ≤ p ∧ p ≤ 7) ∧ (1 ≤ n ∧ n ≤ 6) ∧ (1 ≤ L 0 ∧ L 0 ≤ 7) ∧ m = n ∧ ∀ i, i < n → L i = L 0 ∧ ∀ j, j < L 0 → 0 ≤ M i j ∧ M i j ≤ p - 1 := by
  obtain ⟨h1, h2, h3⟩ := vSch_true.1 h
  obtain ⟨hp, hn, hl, hr⟩ := vTab_true.1 h1
  have hpp : 2 ≤ p ∧ p ≤ 7 := by rcases isP_true.1 hp with rfl | rfl | rfl | rfl <;> omega
  have a := inR_true.1 hn
  have b := inR_true.1 hl
  refine ⟨hpp, by omega, by omega, h2, fun i hi => ?_⟩
  obtain ⟨r1, r2⟩ := hr i hi
  refine ⟨r1, fun j hj => ?_⟩
  have := inR_true.1 (allR_true.1 r2 j (by omega))
  exact this
theorem allR_bd {n : Nat} {g : Nat → Int} {p : Int} (h : allR n g p = true) (i : Nat) (hi : i < n) : 0 ≤ g i ∧ g i ≤ p - 1 := inR_true.1 (allR_true.1 h i hi)

end Go.Proofs.Ythafmoofemfdmaa
