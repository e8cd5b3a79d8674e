/-
  Threshold schemes, plain: just the groups of so many owners know. No conditions: nothing is claimed of the program here.
-/
import Derived.Test.YthafmoofemfdmaaPossLaw
import Derived.Test.YthafmoofemfdmaaThresh
namespace Go.Proofs.Ythafmoofemfdmaa
open Go.RowKit

/-- what owner x's row is taken times, among the owners xs -/
def lgc (P : Nat) (xs : List Nat) (x : Nat) : Int := xs.foldl (fun a y => if y = x then a else a * ((y : Int) + 1) * inv P (((y : Int) - x) % P) % P) 1
def thC (P K : Nat) (l : List Nat) (j : Nat) : Int := if j < K then lgc P (l.take K) (l.getD j 0) else 0
def tkA (P N K s : Nat) : Bool := (List.range K).all fun k => (lc (thC P K (ownL thO s N)) (gR (thM P N K) thO s N) k (ownL thO s N).length - unitF k) % (P : Int) == 0
/-- the numbers of the polynomial that is 0 for all of xs -/
def polX (P : Nat) : List Nat → List Int | [] => [1] | x :: xs => List.zipWith (fun a b => (a - ((x : Int) + 1) * b) % (P : Int)) (0 :: polX P xs) (polX P xs ++ [0])
def tkB (P N K s : Nat) : Bool := ((List.range N).all fun i => !(bt s (thO i).toNat) || dsum (thM P N K i) (lf (polX P (ownL thO s N))) K % (P : Int) == 0) && !(lf (polX P (ownL thO s N)) 0 % (P : Int) == 0)
def tkT (P N K : Nat) : Bool := (List.range 32).all fun s => if K ≤ (ownL thO s N).length then tkA P N K s else tkB P N K s
def tkTs : Bool := [2, 3, 5, 7].all fun P => (List.range 6).all fun N => (List.range 5).all fun K => !(decide (1 ≤ N ∧ N + 1 ≤ P) && decide (1 ≤ K ∧ K ≤ N)) || tkT P N K
set_option maxRecDepth 100000 in
theorem tkTs_ok : tkTs = true := by decide +kernel
theorem th_knows {P N K s : Nat} (h : thIn P N K = true) (hs : s < 32) : knB P N K (thM P N K) thO s = decide (K ≤ (ownL thO s N).length) := by
  obtain ⟨hp, hn, hk⟩ := th_bd h
  have hP : isP P = true := by simp only [thIn, Bool.and_eq_true] at h; exact h.1.1
  have hc := tkTs_ok
  simp only [tkTs, List.all_eq_true, List.mem_range] at hc
  have hmem : P ∈ [2, 3, 5, 7] := by rcases isP_nat hP with rfl | rfl | rfl | rfl <;> simp
  have h1 := hc P hmem N (by omega) K (by omega)
  rw [decide_eq_true (show 1 ≤ N ∧ N + 1 ≤ P by omega), decide_eq_true (show 1 ≤ K ∧ K ≤ N by omega)] at h1
  simp only [Bool.and_self, Bool.not_true, Bool.false_or, tkT, List.all_eq_true, List.mem_range] at h1
  have h2 := h1 s hs
  by_cases hl : K ≤ (ownL thO s N).length
  · rw [if_pos hl] at h2
    rw [decide_eq_true hl, kn_spn hP]
    simp only [tkA, List.all_eq_true, List.mem_range, beq_iff_eq] at h2
    exact ⟨_, fun k hk => Int.dvd_of_emod_eq_zero (h2 k hk)⟩
  · rw [if_neg hl] at h2
    rw [decide_eq_false hl, ← Bool.not_eq_true]
    intro hkn
    obtain ⟨x, hx⟩ := fit_known hP (h := fun _ => 0) (by omega) hkn
    simp only [tkB, Bool.and_eq_true, List.all_eq_true, List.mem_range, Bool.or_eq_true, Bool.not_eq_true', beq_iff_eq, beq_eq_false_iff_ne] at h2
    have h3 := hx (polX P (ownL thO s N)) (fit_true.2 fun i hi hb => by
      rcases h2.1 i hi with h | h
      · rw [hb] at h; cases h
      · exact h)
    have h4 := hx [] (fit_true.2 fun i hi hb => by
      have e : ∀ t, dsum (thM P N K i) (lf []) t = 0 := by
        intro t; induction t with
        | zero => rfl
        | succ t ih => rw [dsum, ih]; simp [lf]
      rw [e]; rfl)
    have h5 := Int.dvd_sub h3 h4
    have e0 : lf [] 0 = 0 := rfl
    rw [e0] at h5
    have e1 : lf (polX P (ownL thO s N)) 0 - x - (0 - x) = lf (polX P (ownL thO s N)) 0 := by omega
    rw [e1] at h5
    exact h2.2 (Int.emod_eq_zero_of_dvd h5)
theorem ldo_congr {H H' : Nat → Bool} (h : ∀ s, s < 32 → H s = H' s) (l : List Nat) (t : Nat) : ldo H l t = ldo H' l t := by
  rw [ldo, ldo, h (t % 32) (Nat.mod_lt _ (by omega))]
theorem lst_congr {H H' : Nat → Bool} (h : ∀ s, s < 32 → H s = H' s) : ∀ t, lst H t = lst H' t
  | 0 => rfl
  | t + 1 => by rw [lst, lst, lst_congr h t, ldo_congr h]
/-- how many sets of k of n there are -/
def nCk : Nat → Nat → Nat | _, 0 => 1 | 0, _ + 1 => 0 | n + 1, k + 1 => nCk n k + nCk n (k + 1)
def tkL : Bool := (List.range 6).all fun N => (List.range 5).all fun K => !(decide (1 ≤ K ∧ K ≤ N)) || (((lst (fun s => decide (K ≤ (ownL thO s N).length)) 192).all fun x => wt x == K && decide (x < 2 ^ N)) && (lst (fun s => decide (K ≤ (ownL thO s N).length)) 192).length == nCk N K)
set_option maxRecDepth 100000 in
theorem tkL_ok : tkL = true := by decide +kernel
theorem th_list {P N K : Nat} (h : thIn P N K = true) : (∀ i, i < (lst (knB P N K (thM P N K) thO) 192).length → wt ((lst (knB P N K (thM P N K) thO) 192).getD i 0) = K ∧ (lst (knB P N K (thM P N K) thO) 192).getD i 0 < 2 ^ N) ∧ (lst (knB P N K (thM P N K) thO) 192).length = nCk N K := by
  obtain ⟨hp, hn, hk⟩ := th_bd h
  rw [lst_congr (fun s hs => th_knows h hs) 192]
  have hc := tkL_ok
  simp only [tkL, List.all_eq_true, List.mem_range] at hc
  have h1 := hc N (by omega) K (by omega)
  rw [decide_eq_true (show 1 ≤ K ∧ K ≤ N by omega)] at h1
  simp only [Bool.not_true, Bool.false_or, Bool.and_eq_true, List.all_eq_true, beq_iff_eq, decide_eq_true_eq] at h1
  generalize lst (fun s => decide (K ≤ (ownL thO s N).length)) 192 = l at *
  refine ⟨fun i hi => ?_, h1.2⟩
  have hm : l.getD i 0 ∈ l := by
    simp only [List.getD, List.getElem?_eq_getElem hi, Option.getD_some]
    exact List.getElem_mem _
  exact h1.1 _ hm
end Go.Proofs.Ythafmoofemfdmaa
