/-
  Whether a group knows, the reference's. Conditions: the scheme is valid and can be read, the group is a number below 32.
-/
import Derived.Test.YthafmoofemfdmaaGroup
import Derived.Deep.RegionHeld3
namespace Go.Proofs.Ythafmoofemfdmaa
open Go.RowKit

/-- what holds of a valid scheme -/
structure SchV (p : Int) (n m : Nat) (M : Nat → Nat → Int) (f : Nat → Int) : Prop where
  hp : isP p = true
  hn : 1 ≤ n ∧ n ≤ 6
  hm : 1 ≤ m ∧ m ≤ 7
  rng : ∀ i, i < n → ∀ k, k < m → 0 ≤ M i k ∧ M i k < p
  own : ∀ i, i < n → 0 ≤ f i ∧ f i ≤ 4
theorem SchV.grng {p : Int} {n m : Nat} {M : Nat → Nat → Int} {f : Nat → Int} (h : SchV p n m M f) (s : Nat) : ∀ j, j < (ownL f s n).length → ∀ k, k < m → 0 ≤ gR M f s n j k ∧ gR M f s n j k < p := fun j hj k hk => h.rng _ (ownL_lt hj) k hk
theorem unit_rng {p : Int} (hp : isP p = true) (k : Nat) : 0 ≤ unitF k ∧ unitF k < p := by
  have := isP_pos hp
  unfold unitF; split <;> omega




/-- a valid scheme, by what is asked of it -/
theorem vSch_sch {p : Int} {n m : Nat} {L : Nat → Nat} {M : Nat → Nat → Int} {f : Nat → Int} (h : vSch p n L M m f = true) : SchV p n (L 0) M f ∧ m = n ∧ ∀ i, i < n → L i = L 0 := by
  obtain ⟨h1, h2, h3⟩ := vSch_true.1 h
  obtain ⟨hp, hn, hl, hr⟩ := vTab_rows h1
  refine ⟨⟨hp, hn, hl, fun i hi k hk => (hr i hi).2 k hk, fun i hi => ?_⟩, h2, fun i hi => (hr i hi).1⟩
  have := noneB_true.1 h3 i (by omega)
  simp only [badO, Bool.not_eq_false', inR_true] at this
  omega
/-- DoesKnow -/
noncomputable def dkV (p : Int) (n : Nat) (L : Nat → Nat) (M : Nat → Nat → Int) (m : Nat) (f : Nat → Int) (s : Int) : Bool := vSch p n L M m f && (inR s 0 31 && knB p n (L 0) M f s.toNat)

end Go.Proofs.Ythafmoofemfdmaa
