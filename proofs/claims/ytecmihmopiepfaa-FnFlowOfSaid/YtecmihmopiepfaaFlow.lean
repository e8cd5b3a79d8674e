/-
  Flows: the program and the reference agree on what flows. Conditions: the net can be read.
-/
import Derived.Test.YtecmihmopiepfaaWays2
import Derived.Test.YtecmihmopiepfaaCut2
import Derived.Test.YtecmihmopiepfaaOwn3
import Derived.RegionTactic
namespace Go.Proofs.Ytecmihmopiepfaa
open Go.RowKit

/-- the table of n rows of n numbers C -/
def FlM (R : List Sl) (n : Nat) (C : Nat → Nat → Int) : Prop := R.length = n ∧ ∀ i r, R[i]? = some r → r.xs.length = n ∧ ∀ j, j < n → r.xs.getD j 0 = C i j
theorem FlM.of_copied {R : List Sl} {n : Nat} {L : Nat → Nat} {M : Nat → Nat → Int} (h : Copied R n L M) (hL : ∀ i, i < n → L i = n) : FlM R n M := by
  refine ⟨h.len, fun i r hr => ?_⟩
  obtain ⟨h1, h2⟩ := h.at_ hr
  rw [h2, hL i h1]
  exact ⟨listOf_len _ _, fun j hj => listOf_getD _ hj⟩
theorem FlM.row {R : List Sl} {n i : Nat} {C : Nat → Nat → Int} (h : FlM R n C) (hi : i < n) : ∃ r, R[i]? = some r ∧ r.xs.length = n ∧ ∀ j, j < n → r.xs.getD j 0 = C i j := by
  have hi' : i < R.length := by rw [h.1]; exact hi
  exact ⟨R[i], List.getElem?_eq_getElem hi', h.2 i _ (List.getElem?_eq_getElem hi')⟩
theorem FlM.set {R : List Sl} {n i j : Nat} {C : Nat → Nat → Int} {r : Sl} {v : Int} (h : FlM R n C) (hr : R[i]? = some r) (hj : j < n) : FlM (R.set i ⟨r.A, r.c, r.xs.set j v⟩) n (upd C i j v) := by
  obtain ⟨h1, h2⟩ := h.2 i r hr
  refine ⟨by simp [h.1], fun a s hs => ?_⟩
  rw [List.getElem?_set] at hs
  split at hs
  · rename_i e
    subst e
    split at hs
    · injection hs with hs
      subst hs
      refine ⟨by simp [h1], fun b hb => ?_⟩
      by_cases e : b = j
      · subst e
        rw [upd_at]
        simp [List.getD, h1, hb]
      · rw [upd_ne (by rintro ⟨_, h⟩; exact e h), ← h2 b hb]
        simp only [List.getD, List.getElem?_set]
        rw [if_neg (fun h => e h.symm)]
    · cases hs
  · rename_i e
    obtain ⟨h3, h4⟩ := h.2 a s hs
    exact ⟨h3, fun b hb => by rw [upd_ne (by rintro ⟨h, _⟩; exact e h.symm)]; exact h4 b hb⟩
theorem FlM.mat {R : List Sl} {w : World} {base top n c : Nat} {A : Option Addr} {C : Nat → Nat → Int} (h : FlM R n C) (ht : TabD w base top A n c R) : Mat w w.heap.size A n (fun _ => n) C := fun h0 => by
  obtain ⟨b, off, e, hb, hc⟩ := ht.tab.mat h0
  refine ⟨b, off, e, hb, fun i hi => ?_⟩
  obtain ⟨r, hr, h1, h2⟩ := h.row hi
  obtain ⟨R1, C1, h3, h4⟩ := hc i hi
  simp only [List.getD, hr, Option.getD_some] at h3 h4
  rw [h1] at h3 h4
  exact ⟨R1, C1, h3, h4.congr (fun j hj => h2 j hj)⟩

/-- a row and a number in it, as the walk reads and writes them -/
structure At (w : World) (base top : Nat) (b : Nat) (n c : Nat) (R : List Sl) (C : Nat → Nat → Int) (i j : Nat) (b0 c0 : Nat) : Prop where
  row : w.cell? ⟨b, i, none⟩ = some (.slice (some ⟨b0, 0, none⟩) n c0)
  cell : w.cell? ⟨b0, j, none⟩ = some (.int .i64 (C i j))
  fz : w.frozen? ⟨b0, j, none⟩ = false
  lo : base ≤ b0
  hi : b0 < top
  set : ∀ v, ∃ R', TabD (w.setCell ⟨b0, j, none⟩ (.int .i64 v)) base top (some ⟨b, 0, none⟩) n c R' ∧ FlM R' n (upd C i j v)
theorem FlM.at_ {R : List Sl} {w : World} {base top n b c : Nat} {C : Nat → Nat → Int} (h : FlM R n C) (ht : TabD w base top (some ⟨b, 0, none⟩) n c R) {i j : Nat} (hi : i < n) (hj : j < n) : ∃ b0 c0, At w base top b n c R C i j b0 c0 := by
  obtain ⟨r, hr, h1, h2⟩ := h.row hi
  obtain ⟨b', r', e, _, _, hr', hc, _, _⟩ := ht.tab.at_ hi
  obtain rfl : b = b' := by simpa using e
  obtain rfl : r = r' := by rw [hr] at hr'; injection hr'
  obtain ⟨b0, e0, p1, p2, d0, g0, hs⟩ := ht.setIn hr (j := j) (by omega)
  rw [e0, h1] at hc
  rw [h2 j hj] at d0
  refine ⟨b0, r.c, hc, d0, g0, p1, ht.under r (List.mem_of_getElem? hr) b0 (by rw [Sl.blk, e0]; rfl), fun v => ⟨_, hs v, h.set hr hj⟩⟩

/-- the state of a flow -/
structure FlS (w : World) (base top b n c : Nat) (R : List Sl) (C : Nat → Nat → Int) : Prop where
  tab : TabD w base top (some ⟨b, 0, none⟩) n c R
  is : FlM R n C
theorem FlS.keep {w w' : World} {base top b n c : Nat} {R : List Sl} {C : Nat → Nat → Int} (h : FlS w base top b n c R C) (hb : Below w.heap.size w w') : FlS w' base top b n c R C := ⟨h.tab.keep hb, h.is⟩
theorem FlS.mono {w : World} {base top top' b n c : Nat} {R : List Sl} {C : Nat → Nat → Int} (h : FlS w base top b n c R C) (ht : top ≤ top') : FlS w base top' b n c R C := ⟨h.tab.mono (Nat.le_refl _) ht, h.is⟩

/-- one step of a way, pushed: both stores, whichever is read behind the other -/
theorem push1_def (C : Nat → Nat → Int) (x : Int) (a b : Nat) : upd (upd C a b (C a b - x)) b a (upd C a b (C a b - x) b a + x) = push1 C x a b := rfl

def flowOfV (n : Nat) (L : Nat → Nat) (M : Nat → Nat → Int) (to : Int) : Int := if vNet n L M && inR to 1 ((n : Int) - 1) then flowV n to.toNat (fun a b => if a < n ∧ b < n then M a b else 0) else -1
end Go.Proofs.Ytecmihmopiepfaa
