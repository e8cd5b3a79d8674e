/-
  SecretOf in plain numbers. No conditions: nothing is claimed of the program here.
-/
import Derived.Test.YtcalfblghblhcaaDoesKnow
namespace Go.Proofs.Ytcalfblghblhcaa
open Go.RowKit

/-- the sum of the first j factors times the shares of the rows in a list -/
def sacc (fac sh : Nat → Int) (l : List Nat) : Nat → Int | 0 => 0 | j + 1 => sacc fac sh l j + fac j * sh (l.getD j 0)
theorem sacc_bd {fac sh : Nat → Int} {l : List Nat} {n : Nat} (h : ∀ j, j < n → (0 ≤ fac j ∧ fac j ≤ 6) ∧ (0 ≤ sh (l.getD j 0) ∧ sh (l.getD j 0) ≤ 6)) : ∀ j, j ≤ n → 0 ≤ sacc fac sh l j ∧ sacc fac sh l j ≤ 36 * j
  | 0, _ => by simp [sacc]
  | j + 1, hj => by
    have h1 := sacc_bd h j (by omega)
    have h2 := h j (by omega)
    have h3 := mul_bd6 h2.1 h2.2
    rw [sacc]
    push_cast
    omega
theorem ownL_less {f : Nat → Int} {s i : Nat} (hb : bt s (f i).toNat = true) : ∀ k, i < k → (ownL f s i).length < (ownL f s k).length := fun k => by
  induction k with
  | zero => intro h; omega
  | succ k ih =>
    intro hk
    rw [ownL_succ, List.length_append]
    by_cases e2 : k = i
    · subst e2; rw [hb, if_pos rfl]; simp
    · have := ih (by omega); omega
/-- a row of the group stands where the rows of the group ahead of it end -/
theorem ownL_place {f : Nat → Int} {s i : Nat} (hb : bt s (f i).toNat = true) : ∀ n, i < n → (ownL f s n).getD (ownL f s i).length 0 = i
  | 0, h => by omega
  | n + 1, h => by
    rw [ownL_succ]
    by_cases e : i = n
    · subst e
      rw [hb, if_pos rfl]
      simp [List.getD]
    · have hp : ∀ k, i + 1 ≤ k → (ownL f s i).length < (ownL f s k).length := fun k => by
        induction k with
        | zero => intro h; omega
        | succ k ih =>
          intro hk
          rw [ownL_succ, List.length_append]
          by_cases e2 : k = i
          · subst e2; rw [hb, if_pos rfl]; simp
          · have := ih (by omega); omega
      have hlt := hp n (by omega)
      have h1 := ownL_place hb n (by omega)
      simp only [List.getD] at h1 ⊢
      rw [List.getElem?_append_left hlt]
      exact h1
/-- SecretOf -/
noncomputable def secB (p : Int) (n : Nat) (L : Nat → Nat) (M : Nat → Nat → Int) (m : Nat) (f : Nat → Int) (n1 : Nat) (g : Nat → Int) (s : Int) : Bool := vSch p n L M m f && ((decide ((n1 : Int) = n) && allR n1 g p) && (inR s 0 31 && knB p n (L 0) M f s.toNat))
noncomputable def facF (p : Int) (n m : Nat) (M : Nat → Nat → Int) (f : Nat → Int) (s : Nat) : Nat → Int := (solF p (ownL f s n).length m (gR M f s n) unitF).getD (fun _ => 0)
noncomputable def secI (p : Int) (n : Nat) (L : Nat → Nat) (M : Nat → Nat → Int) (m : Nat) (f : Nat → Int) (n1 : Nat) (g : Nat → Int) (s : Int) : Int := if secB p n L M m f n1 g s then sacc (facF p n (L 0) M f s.toNat) g (ownL f s.toNat n) (ownL f s.toNat n).length % p else 0
def SecPost (p : Int) (n : Nat) (L : Nat → Nat) (M : Nat → Nat → Int) (m : Nat) (f : Nat → Int) (n1 : Nat) (g : Nat → Int) (s : Int) (w : World) (e : Ending) (w' : World) : Prop :=
  e = .returned (.tuple #[.int .i64 (secI p n L M m f n1 g s), .bool (secB p n L M m f n1 g s)]) ∧ Below w.heap.size w w'
theorem sec_no {p : Int} {n m n1 : Nat} {L : Nat → Nat} {M : Nat → Nat → Int} {f g : Nat → Int} {s : Int} {w w' : World} (h : secB p n L M m f n1 g s = false) (hb : Below w.heap.size w w') : SecPost p n L M m f n1 g s w (.returned (.tuple #[.int .i64 0, .bool false])) w' :=
  ⟨by rw [secI, h]; rfl, hb⟩
theorem fac_bd {p : Int} {n m s : Nat} {M : Nat → Nat → Int} {f : Nat → Int} (hp : isP p = true) (h : knB p n m M f s = true) : ∃ g, solF p (ownL f s n).length m (gR M f s n) unitF = some g ∧ facF p n m M f s = g ∧ ∀ j, j < (ownL f s n).length → 0 ≤ g j ∧ g j ≤ 6 := by
  rw [knB, Option.isSome_iff_exists] at h
  obtain ⟨g, hg⟩ := h
  refine ⟨g, hg, by rw [facF, hg]; rfl, ?_⟩
  have hx : ∃ f0, Good p (ownL f s n).length m (gR M f s n) unitF f0 := Classical.byContradiction fun hn => by
    rw [solF_none (fun f0 h0 => hn ⟨f0, h0⟩)] at hg; cases hg
  obtain ⟨f0, h0⟩ := hx
  obtain ⟨f1, e1, g1, _⟩ := solF_good hp h0
  have : f1 = g := by rw [e1] at hg; injection hg
  subst this
  have hb := isP_pos hp
  exact fun j hj => by have := g1.1 j hj; omega
end Go.Proofs.Ytcalfblghblhcaa
