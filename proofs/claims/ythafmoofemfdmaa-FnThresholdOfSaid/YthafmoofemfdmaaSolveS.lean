/-
  Solving rows, the reference's. Conditions: the rows and the goal can be read, at most 6 rows and 7 columns, of numbers over a prime.
-/
import Derived.Test.YthafmoofemfdmaaRed
namespace Go.Proofs.Ythafmoofemfdmaa
open Go.RowKit

theorem listOf_set (n : Nat) (f : Nat → Int) (j : Nat) (v : Int) : (listOf n f).set j v = listOf n (fun i => if i = j then v else f i) := by
  refine List.ext_getElem? fun i => ?_
  rw [List.getElem?_set]
  by_cases hi : i < n
  · by_cases e : j = i
    · subst e
      rw [if_pos rfl, if_pos (by rw [listOf_len]; exact hi), listOf_get _ hi]; simp
    · rw [if_neg e, listOf_get _ hi, listOf_get _ hi, if_neg (fun h => e h.symm)]
  · rw [List.getElem?_eq_none (l := listOf n (fun i => if i = j then v else f i)) (by rw [listOf_len]; omega)]
    split
    · rw [if_neg (by rw [listOf_len]; omega)]
    · exact List.getElem?_eq_none (by rw [listOf_len]; omega)
theorem listOf_zero (n : Nat) : listOf n (fun _ => 0) = List.replicate n 0 := by
  refine List.ext_getElem? fun i => ?_
  by_cases hi : i < n
  · rw [listOf_get _ hi, List.getElem?_replicate, if_pos hi]
  · rw [List.getElem?_eq_none (by rw [listOf_len]; omega), List.getElem?_eq_none (by simp; omega)]
theorem listOf_congr {n : Nat} {f g : Nat → Int} (h : ∀ i, i < n → f i = g i) : listOf n f = listOf n g :=
  List.map_congr_left fun i hi => h i (List.mem_range.1 hi)
theorem listOf_succ (n : Nat) (f : Nat → Int) : listOf (n + 1) f = listOf n f ++ [f n] := by simp [listOf, List.range_succ]
theorem aug_row {n : Nat} {R : Nat → Nat → Int} {g : Nat → Int} {k : Nat} : ∀ j, j < n + 1 → (listOf n (fun i => R i k) ++ [g k]).getD j 0 = aug n R g k j := fun j hj => by
  unfold aug
  by_cases h : j < n
  · rw [if_pos h, List.getD, List.getElem?_append_left (by rw [listOf_len]; exact h), listOf_get _ h]; rfl
  · have e : j = n := by omega
    subst e
    rw [if_neg h]
    simp [List.getD, listOf_len]

/-- the answer while the rows are read -/
def outF (l : Nat → Nat) (X : Nat → Nat → Int) (n : Nat) : Nat → Nat → Int | 0 => fun _ => 0 | i + 1 => fun j => if j = l i then X i n else outF l X n i j
theorem outF_lead {l : Nat → Nat} {X : Nat → Nat → Int} {n : Nat} : ∀ {s : Nat}, (∀ i j, i < s → j < s → l i = l j → i = j) → ∀ i, i < s → outF l X n s (l i) = X i n
  | 0, _, i, hi => by omega
  | s + 1, h, i, hi => by
    rw [outF]
    by_cases e : i = s
    · subst e; simp
    · have hne : l i ≠ l s := fun hh => e (h i s hi (by omega) hh)
      simp only [if_neg hne]
      exact outF_lead (fun i j h1 h2 => h i j (by omega) (by omega)) i (by omega)
theorem outF_none {l : Nat → Nat} {X : Nat → Nat → Int} {n j : Nat} : ∀ {s : Nat}, (∀ i, i < s → l i ≠ j) → outF l X n s j = 0
  | 0, _ => rfl
  | s + 1, h => by
    rw [outF]
    simp only [if_neg (show ¬ j = l s from fun e => h s (by omega) e.symm)]
    exact outF_none fun i hi => h i (by omega)
theorem Rdc.apart {p : Int} {m N t : Nat} {A0 A : Nat → Nat → Int} {c : Nat} {l : Nat → Nat} (h : Rdc p m N A0 A c t l) : ∀ i j, i < t → j < t → l i = l j → i = j := fun i j hi hj e =>
  Classical.byContradiction fun hne => by
    have h1 := h.col i hi j (by have := h.le; omega) (fun h => hne h.symm)
    rw [e, (h.one j hj).2] at h1
    omega
/-- the place where a number stands that is not 0 and has only 0 ahead of it -/
theorem Rdc.place {p : Int} {m N t : Nat} {A0 A : Nat → Nat → Int} {c : Nat} {l : Nat → Nat} (h : Rdc p m N A0 A c t l) {i k : Nat} (hi : i < t) : (A i k ≠ 0 ∧ ahd (A i) k = true) ↔ k = l i := by
  constructor
  · rintro ⟨h1, h2⟩
    rw [ahd_true] at h2
    rcases Nat.lt_trichotomy k (l i) with h3 | h3 | h3
    · exact absurd (h.low i hi k h3) h1
    · exact h3
    · have := h2 (l i) h3
      rw [(h.one i hi).2] at this
      omega
  · rintro rfl
    exact ⟨by rw [(h.one i hi).2]; omega, ahd_true.2 fun j hj => h.low i hi j hj⟩

/-- what solve gives -/
def SolPost (p : Int) (n m : Nat) (R : Nat → Nat → Int) (g : Nat → Int) (w : World) (e : Ending) (w' : World) : Prop :=
  Below w.heap.size w w' ∧ ((∃ f A' c', Good p n m R g f ∧ e = .returned (.tuple #[.slice A' n c', .bool true]) ∧ Row w' w.heap.size A' n c' (listOf n f)) ∨
    ((∀ f, ¬ Good p n m R g f) ∧ e = .returned (.tuple #[.slice none 0 0, .bool false])))

end Go.Proofs.Ythafmoofemfdmaa
