/-
  PossibleOf in plain numbers: what it answers, round by round. No conditions: nothing is claimed of the program here.
-/
import Derived.Test.YtcalfblghblhcaaPossLaw
import Derived.Test.YtcalfblghblhcaaSecretI
namespace Go.Proofs.Ytcalfblghblhcaa
open Go.RowKit

/-- the rows of a group, the first j of them, have their shares -/
def fineK (p : Int) (k : Nat) (M : Nat → Nat → Int) (g x : Nat → Int) (l : List Nat) : Nat → Bool | 0 => true | j + 1 => fineK p k M g x l j && decide (dsum (M (l.getD j 0)) x k % p = g (l.getD j 0))
theorem fineK_true {p : Int} {k : Nat} {M : Nat → Nat → Int} {g x : Nat → Int} {l : List Nat} : ∀ j, fineK p k M g x l j = true ↔ ∀ i, i < j → dsum (M (l.getD i 0)) x k % p = g (l.getD i 0)
  | 0 => by simp [fineK]
  | j + 1 => by
    rw [fineK, Bool.and_eq_true, fineK_true j, decide_eq_true_eq]
    constructor
    · rintro ⟨h1, h2⟩ i hi
      by_cases e : i = j
      · subst e; exact h2
      · exact h1 i (by omega)
    · exact fun h => ⟨fun i hi => h i (by omega), h j (by omega)⟩
theorem fine_fit {p : Int} {n k s : Nat} {M : Nat → Nat → Int} {f g : Nat → Int} {xs : List Int} : fineK p k M g (lf xs) (ownL f s n) (ownL f s n).length = fitB p n k M f s g xs := by
  rw [Bool.eq_iff_iff, fineK_true, fit_true]
  constructor
  · intro h i hi hb
    obtain ⟨j, hj, ej⟩ := ownL_ix hi hb
    have := h j hj
    rwa [ej] at this
  · intro h j hj
    obtain ⟨a1, a2⟩ := ownL_at hj
    exact h _ a1 a2
/-- the reference's way: all rows, those of the group alone count -/
def fineR (p : Int) (k : Nat) (M : Nat → Nat → Int) (f : Nat → Int) (s : Nat) (g x : Nat → Int) : Nat → Bool | 0 => true | j + 1 => fineR p k M f s g x j && (!bt s (f j).toNat || decide (dsum (M j) x k % p = g j))
theorem fineR_true {p : Int} {k s : Nat} {M : Nat → Nat → Int} {f g x : Nat → Int} : ∀ j, fineR p k M f s g x j = true ↔ ∀ i, i < j → bt s (f i).toNat = true → dsum (M i) x k % p = g i
  | 0 => by simp [fineR]
  | j + 1 => by
    rw [fineR, Bool.and_eq_true, fineR_true j, Bool.or_eq_true, decide_eq_true_eq, Bool.not_eq_true']
    constructor
    · rintro ⟨h1, h2⟩ i hi hb
      by_cases e : i = j
      · subst e
        rcases h2 with h | h
        · rw [hb] at h; cases h
        · exact h
      · exact h1 i (by omega) hb
    · refine fun h => ⟨fun i hi => h i (by omega), ?_⟩
      cases hb : bt s (f j).toNat
      · exact .inl rfl
      · exact .inr (h j (by omega) hb)
theorem fineR_fit {p : Int} {n k s : Nat} {M : Nat → Nat → Int} {f g : Nat → Int} {xs : List Int} : fineR p k M f s g (lf xs) n = fitB p n k M f s g xs := by
  rw [Bool.eq_iff_iff, fineR_true, fit_true]

/-- the first t lists, counted -/
def ctF (P n k : Nat) (M : Nat → Nat → Int) (f : Nat → Int) (s : Nat) (g : Nat → Int) (t x : Nat) : Int := ((pct P k (fitB P n k M f s g) x t : Nat) : Int)
def ctL (P n k : Nat) (M : Nat → Nat → Int) (f : Nat → Int) (s : Nat) (g : Nat → Int) (t : Nat) : List Int := listOf P (ctF P n k M f s g t)
theorem ctL_zero {P n k : Nat} {M : Nat → Nat → Int} {f g : Nat → Int} {s : Nat} : ctL P n k M f s g 0 = List.replicate P 0 := by
  refine List.ext_getElem? fun i => ?_
  by_cases h : i < P
  · rw [ctL, listOf_get _ h]
    simp [h, ctF, pct, sm]
  · rw [List.getElem?_eq_none (by rw [ctL, listOf_len]; omega), List.getElem?_eq_none (by simp; omega)]
theorem ct_bd {P n k : Nat} {M : Nat → Nat → Int} {f g : Nat → Int} {s x : Nat} : ∀ t, 0 ≤ ctF P n k M f s g t x ∧ ctF P n k M f s g t x ≤ t
  | 0 => by simp [ctF, pct, sm]
  | t + 1 => by
    have h := @ct_bd P n k M f g s x t
    simp only [ctF, pct, sm] at h ⊢
    have h2 : ∀ b, one0 b ≤ 1 := fun b => by cases b <;> simp [one0]
    have := h2 (fitB (P : Int) n k M f s g (dgs P k t) && ((dgs P k t).getD 0 0 == ((x : Nat) : Int)))
    omega
/-- a list that does not fit -/
theorem ct_no {P n k : Nat} {M : Nat → Nat → Int} {f g : Nat → Int} {s t : Nat} (h : fitB P n k M f s g (dgs P k t) = false) : ctL P n k M f s g (t + 1) = ctL P n k M f s g t := by
  have e : ctF P n k M f s g (t + 1) = ctF P n k M f s g t := by
    funext x
    simp only [ctF, pct, sm, h, Bool.false_and]
    rfl
  rw [ctL, e]; rfl
/-- one that fits -/
theorem ct_yes {P n k : Nat} {M : Nat → Nat → Int} {f g : Nat → Int} {s t d : Nat} (h : fitB P n k M f s g (dgs P k t) = true) (hd : (dgs P k t).getD 0 0 = ((d : Nat) : Int)) : ctL P n k M f s g (t + 1) = (ctL P n k M f s g t).set d (ctF P n k M f s g t d + 1) := by
  refine List.ext_getElem? fun i => ?_
  by_cases hi : i < P
  · rw [ctL, listOf_get _ hi]
    by_cases e : i = d
    · subst e
      rw [List.getElem?_set_self (by rw [ctL, listOf_len]; exact hi)]
      simp only [ctF, pct, sm, h, hd, Bool.true_and, beq_self_eq_true]
      push_cast [one0]
      rfl
    · rw [List.getElem?_set_ne (fun h => e h.symm), ctL, listOf_get _ hi]
      have hne : (((d : Nat) : Int) == ((i : Nat) : Int)) = false := by simp; omega
      simp only [ctF, pct, sm, h, hd, Bool.true_and, hne]
      rfl
  · rw [List.getElem?_eq_none (by rw [ctL, listOf_len]; omega), List.getElem?_eq_none (by rw [List.length_set, ctL, listOf_len]; omega)]

/-- what is asked of the arguments -/
def posB (p : Int) (n : Nat) (L : Nat → Nat) (M : Nat → Nat → Int) (m : Nat) (f : Nat → Int) (n1 : Nat) (g : Nat → Int) (s : Int) : Bool := askB p n L M m f n1 g s && decide (L 0 ≤ 4)
def posN (p : Int) (n : Nat) (L : Nat → Nat) (M : Nat → Nat → Int) (m : Nat) (f : Nat → Int) (n1 : Nat) (g : Nat → Int) (s : Int) : Nat := if posB p n L M m f n1 g s then p.toNat else 0
def posF (p : Int) (n : Nat) (L : Nat → Nat) (M : Nat → Nat → Int) (f : Nat → Int) (g : Nat → Int) (s : Int) : Nat → Int := ctF p.toNat n (L 0) M f s.toNat g (p.toNat ^ L 0)
def PsPost (p : Int) (n : Nat) (L : Nat → Nat) (M : Nat → Nat → Int) (m : Nat) (f : Nat → Int) (n1 : Nat) (g : Nat → Int) (s : Int) (w : World) (e : Ending) (w' : World) : Prop :=
  ∃ A' c', e = .returned (.slice A' (posN p n L M m f n1 g s) c') ∧ Row w' w.heap.size A' (posN p n L M m f n1 g s) c' (listOf (posN p n L M m f n1 g s) (posF p n L M f g s)) ∧ Below w.heap.size w w'
theorem ps_no {p : Int} {n m n1 : Nat} {L : Nat → Nat} {M : Nat → Nat → Int} {f g : Nat → Int} {s : Int} {w w' : World} (h : posB p n L M m f n1 g s = false) (hb : Below w.heap.size w w') : PsPost p n L M m f n1 g s w (.returned (.slice none 0 0)) w' := by
  have : posN p n L M m f n1 g s = 0 := by simp [posN, h]
  exact ⟨none, 0, by rw [this], by rw [this]; exact Row.nil _ _, hb⟩
theorem ps_yes {P : Nat} {n m n1 : Nat} {L : Nat → Nat} {M : Nat → Nat → Int} {f g : Nat → Int} {t : Nat} {w w' : World} {A' : Option Addr} {c' : Nat} (h : posB P n L M m f n1 g t = true) (hr : Row w' w.heap.size A' P c' (ctL P n (L 0) M f t g (P ^ L 0))) (hb : Below w.heap.size w w') : PsPost P n L M m f n1 g t w (.returned (.slice A' P c')) w' := by
  have : posN P n L M m f n1 g t = P := by simp [posN, h]
  exact ⟨A', c', by rw [this], by rw [this]; exact hr, hb⟩
end Go.Proofs.Ytcalfblghblhcaa
