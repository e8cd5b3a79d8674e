/-
  What ripples tell, plain: the numbers that sums tell one by one. No conditions: nothing is claimed of the program here.
-/
import Derived.Test.YtkalecdjcdgodaaSize
import Derived.Test.YtkalecdjcdgodaaSums
namespace Go.Proofs.Ytkalecdjcdgodaa
open Go.RowKit

/-- number i of a set is unknown -/
def un1 (l : Nat → Int) (s i : Nat) : Bool := bt s i && decide (l i < 0)
/-- how many numbers of a set are unknown -/
def unk (l : Nat → Int) (s : Nat) : Nat → Nat | 0 => 0 | i + 1 => unk l s i + if un1 l s i then 1 else 0
/-- the unknown numbers of a set, as bits -/
def um (l : Nat → Int) (s : Nat) : Nat → Nat | 0 => 0 | i + 1 => if un1 l s i then um l s i + 2 ^ i else um l s i
/-- number i of a set is known -/
def kn1 (l : Nat → Int) (s i : Nat) : Bool := bt s i && decide (0 ≤ l i)
/-- the sum of the known numbers of a set -/
def kn (l : Nat → Int) (s : Nat) : Nat → Nat | 0 => 0 | i + 1 => if kn1 l s i then kn l s i ^^^ (l i).toNat else kn l s i
/-- all numbers are unknown or digits -/
def Dg (n : Nat) (l : Nat → Int) : Prop := ∀ i, i < n → -1 ≤ l i ∧ l i < 256
theorem unk_le (l : Nat → Int) (s : Nat) : ∀ n, unk l s n ≤ n
  | 0 => Nat.le_refl _
  | n + 1 => by have := unk_le l s n; rw [unk]; split <;> omega
theorem um_lt (l : Nat → Int) (s : Nat) : ∀ n, um l s n < 2 ^ n
  | 0 => by show 0 < 1; omega
  | n + 1 => by have := um_lt l s n; rw [um, Nat.pow_succ]; split <;> omega
theorem kn_lt {n : Nat} {l : Nat → Int} (s : Nat) (h : Dg n l) : ∀ i, i ≤ n → kn l s i < 2 ^ 8
  | 0, _ => by show 0 < 2 ^ 8; decide
  | i + 1, hi => by
    have h1 := kn_lt s h i (by omega)
    have h2 := h i (by omega)
    rw [kn]
    split
    · exact Nat.xor_lt_two_pow h1 (by omega)
    · exact h1
def chkU : Bool := (List.range 7).all fun i => (List.range 128).all fun x => !(decide (x < 2 ^ i)) || ((x ||| 2 ^ i == x + 2 ^ i) && (wt (x + 2 ^ i) == wt x + 1) && (List.range 7).all fun j => bt (x + 2 ^ i) j == (if j = i then true else bt x j))
theorem chkU_ok : chkU = true := by decide +kernel
theorem um_fin {i x : Nat} (hi : i < 7) (hx : x < 2 ^ i) : x ||| 2 ^ i = x + 2 ^ i ∧ wt (x + 2 ^ i) = wt x + 1 ∧ ∀ j, j < 7 → bt (x + 2 ^ i) j = if j = i then true else bt x j := by
  have h := chkU_ok
  simp only [chkU, List.all_eq_true, List.mem_range] at h
  have h0 : 2 ^ i ≤ 2 ^ 7 := Nat.pow_le_pow_right (by omega) (by omega)
  have h2 := h i hi x (by have : (2 : Nat) ^ 7 = 128 := rfl; omega)
  simp only [Bool.and_eq_true, beq_iff_eq, Bool.or_eq_true, Bool.not_eq_true', decide_eq_false_iff_not, List.all_eq_true, List.mem_range] at h2
  have h3 := h2.resolve_left (fun hh => hh hx)
  exact ⟨h3.1.1, h3.1.2, h3.2⟩
theorem um_wt (l : Nat → Int) (s : Nat) : ∀ n, n ≤ 7 → wt (um l s n) = unk l s n
  | 0, _ => by rw [um, unk]; decide
  | n + 1, h => by
    have h1 := um_wt l s n (by omega)
    have h2 := um_fin (show n < 7 by omega) (um_lt l s n)
    rw [um, unk]
    split
    · rw [h2.2.1, h1]
    · rw [h1, Nat.add_zero]
theorem bt_big {x i : Nat} (h : x < 2 ^ i) : bt x i = false := by simp [bt, Nat.div_eq_of_lt h]
theorem um_bt (l : Nat → Int) (s : Nat) : ∀ n, n ≤ 7 → ∀ j, j < 7 → bt (um l s n) j = (decide (j < n) && un1 l s j)
  | 0, _, j, _ => by rw [um]; simp [bt]
  | n + 1, h, j, hj => by
    have h1 := um_bt l s n (by omega) j hj
    have h2 := um_fin (show n < 7 by omega) (um_lt l s n)
    rw [um]
    by_cases e : j = n
    · subst e
      split
      · rename_i hu
        rw [h2.2.2 j hj, if_pos rfl, hu]; simp
      · rename_i hu
        rw [h1, Bool.not_eq_true] at *
        rw [hu]; simp
    · have e2 : decide (j < n + 1) = decide (j < n) := by
        by_cases h5 : j < n
        · rw [decide_eq_true h5, decide_eq_true (by omega)]
        · rw [decide_eq_false h5, decide_eq_false (by omega)]
      rw [e2]
      split
      · rw [h2.2.2 j hj, if_neg e, h1]
      · exact h1

/-- the first index below m at which u holds, or m -/
def nx (u : Nat → Bool) : Nat → Nat | 0 => 0 | m + 1 => if nx u m < m then nx u m else if u m then m else m + 1
theorem nx_ok (u : Nat → Bool) : ∀ m, nx u m ≤ m ∧ (∀ t, t < nx u m → u t = false) ∧ (nx u m < m → u (nx u m) = true)
  | 0 => ⟨Nat.le_refl _, fun t ht => absurd ht (by rw [nx]; omega), fun h => absurd h (by rw [nx]; omega)⟩
  | m + 1 => by
    obtain ⟨h1, h2, h3⟩ := nx_ok u m
    rw [nx]
    split
    · rename_i h; exact ⟨by omega, h2, fun _ => h3 h⟩
    · rename_i h
      have e : nx u m = m := by omega
      rw [e] at h2
      split
      · rename_i hu; exact ⟨by omega, h2, fun _ => hu⟩
      · rename_i hu
        refine ⟨Nat.le_refl _, fun t ht => ?_, fun h => absurd h (by omega)⟩
        by_cases e2 : t = m
        · subst e2; simpa using hu
        · exact h2 t (by omega)
theorem nx_uniq {u : Nat → Bool} {m j : Nat} (h1 : j ≤ m) (h2 : ∀ t, t < j → u t = false) (h3 : j < m → u j = true) : nx u m = j := by
  obtain ⟨a1, a2, a3⟩ := nx_ok u m
  rcases Nat.lt_trichotomy (nx u m) j with h | h | h
  · have := a3 (by omega)
    rw [h2 _ h] at this; cases this
  · exact h
  · have := h3 (by omega)
    rw [a2 _ h] at this; cases this

/-- the unknown number of a set is told -/
def stp (l : Nat → Int) (s : Nat) (x : Int) (i : Nat) : Int := if un1 l s i then x else l i
/-- set j has just one unknown number -/
def one1 (n : Nat) (l : Nat → Int) (g : Nat → Int) (j : Nat) : Bool := decide (unk l (g j).toNat n = 1)
/-- what the known numbers and the sum of set j tell -/
def tol (n : Nat) (l : Nat → Int) (g h : Nat → Int) (j : Nat) : Nat := kn l (g j).toNat n ^^^ (h j).toNat
/-- one ripple -/
def rst (n : Nat) (g : Nat → Int) (m : Nat) (h : Nat → Int) (l : Nat → Int) : Nat → Int :=
  if nx (one1 n l g) m < m then stp l (g (nx (one1 n l g) m)).toNat (tol n l g h (nx (one1 n l g) m) : Nat) else l
def rp (n : Nat) (g : Nat → Int) (m : Nat) (h : Nat → Int) : Nat → Nat → Int | 0 => fun _ => -1 | t + 1 => rst n g m h (rp n g m h t)
/-- no set has just one unknown number -/
def Stl (n : Nat) (g : Nat → Int) (m : Nat) (l : Nat → Int) : Prop := nx (one1 n l g) m = m
theorem rp_stay {n m t : Nat} {g h : Nat → Int} (hs : Stl n g m (rp n g m h t)) : ∀ k, rp n g m h (t + k) = rp n g m h t
  | 0 => rfl
  | k + 1 => by
    rw [show t + (k + 1) = (t + k) + 1 by omega, rp, rp_stay hs k, rst, if_neg (by rw [hs]; omega)]
theorem rp_same {n m t t' : Nat} {g h : Nat → Int} (hs : Stl n g m (rp n g m h t)) (hs' : Stl n g m (rp n g m h t')) : rp n g m h t = rp n g m h t' := by
  rcases Nat.le_total t t' with h1 | h1
  · have := rp_stay hs (t' - t); rw [show t + (t' - t) = t' by omega] at this; exact this.symm
  · have := rp_stay hs' (t - t'); rw [show t' + (t - t') = t by omega] at this; exact this
open Classical in
/-- what is told in the end -/
noncomputable def rpE (n : Nat) (g : Nat → Int) (m : Nat) (h : Nat → Int) : Nat → Int := if hh : ∃ t, Stl n g m (rp n g m h t) then rp n g m h (Classical.choose hh) else fun _ => -1
theorem rpE_eq {n m t : Nat} {g h : Nat → Int} (hs : Stl n g m (rp n g m h t)) : rpE n g m h = rp n g m h t := by
  have hh : ∃ t, Stl n g m (rp n g m h t) := ⟨t, hs⟩
  rw [rpE, dif_pos hh]
  exact rp_same (Classical.choose_spec hh) hs
/-- how many numbers are unknown -/
def cu (l : Nat → Int) : Nat → Nat | 0 => 0 | i + 1 => cu l i + if l i < 0 then 1 else 0
theorem cu_le {l k : Nat → Int} : ∀ {n}, (∀ i, i < n → l i < 0 → k i < 0) → cu l n ≤ cu k n
  | 0, _ => Nat.le_refl _
  | n + 1, h => by
    have h1 := cu_le (l := l) (k := k) (n := n) (fun i hi => h i (by omega))
    have h2 := h n (by omega)
    rw [cu, cu]
    by_cases e : l n < 0
    · rw [if_pos e, if_pos (h2 e)]; omega
    · rw [if_neg e]; omega
theorem cu_lt {l k : Nat → Int} : ∀ {n}, (∀ i, i < n → l i < 0 → k i < 0) → (∃ i, i < n ∧ 0 ≤ l i ∧ k i < 0) → cu l n < cu k n
  | 0, _, ⟨i, hi, _⟩ => absurd hi (by omega)
  | n + 1, h, ⟨i, hi, h3, h4⟩ => by
    rw [cu, cu]
    by_cases e : i = n
    · subst e
      have h1 := cu_le (l := l) (k := k) (n := i) (fun j hj => h j (by omega))
      rw [if_neg (by omega), if_pos h4]; omega
    · have h1 := cu_lt (l := l) (k := k) (n := n) (fun j hj => h j (by omega)) ⟨i, by omega, h3, h4⟩
      have h2 := h n (by omega)
      by_cases e : l n < 0
      · rw [if_pos e, if_pos (h2 e)]; omega
      · rw [if_neg e]; omega
theorem unk_ex {l : Nat → Int} {s : Nat} : ∀ {n}, unk l s n ≠ 0 → ∃ i, i < n ∧ un1 l s i = true
  | 0, h => absurd rfl h
  | n + 1, h => by
    by_cases e : un1 l s n = true
    · exact ⟨n, by omega, e⟩
    · rw [unk, if_neg e] at h
      obtain ⟨i, hi, hh⟩ := unk_ex (n := n) (by omega)
      exact ⟨i, by omega, hh⟩
theorem stp_cu {n s : Nat} {l : Nat → Int} {x : Int} (hx : 0 ≤ x) (h : unk l s n ≠ 0) : cu (stp l s x) n < cu l n := by
  obtain ⟨i, hi, hu⟩ := unk_ex h
  refine cu_lt (fun j _ hj => ?_) ⟨i, hi, ?_, ?_⟩
  · unfold stp at hj
    split at hj
    · omega
    · exact hj
  · rw [stp, if_pos hu]; exact hx
  · simp only [un1, Bool.and_eq_true, decide_eq_true_eq] at hu; exact hu.2
theorem stp_dg {n s : Nat} {l : Nat → Int} {x : Int} (hx : 0 ≤ x ∧ x < 256) (h : Dg n l) : Dg n (stp l s x) := fun i hi => by
  rw [stp]; split
  · omega
  · exact h i hi
theorem rp_zero {n m : Nat} {g h : Nat → Int} : Dg n (rp n g m h 0) := fun i _ => by simp [rp]
/-- the numbers as they are given -/
structure RpIn (n : Nat) (g : Nat → Int) (m : Nat) (h : Nat → Int) : Prop where
  hn : n ≤ 7
  hm : m ≤ 12
  set : ∀ j, j < m → ∃ s : Nat, g j = s ∧ s < 128 ∧ (g j).toNat = s ∧ s < 2 ^ n
  dig : ∀ j, j < m → ∃ d : Nat, h j = d ∧ d < 2 ^ 8 ∧ (h j).toNat = d
/-- one ripple more, from the place where it is -/
theorem rp_next {n m t j : Nat} {g h : Nat → Int} (hin : RpIn n g m h) (hd : Dg n (rp n g m h t)) (hj : j < m) (h1 : ∀ i, i < j → one1 n (rp n g m h t) g i = false) (h2 : one1 n (rp n g m h t) g j = true) :
    rp n g m h (t + 1) = stp (rp n g m h t) (g j).toNat (tol n (rp n g m h t) g h j : Nat) ∧ Dg n (rp n g m h (t + 1)) ∧ cu (rp n g m h (t + 1)) n < cu (rp n g m h t) n := by
  have e : nx (one1 n (rp n g m h t) g) m = j := nx_uniq (by omega) h1 (fun _ => h2)
  have e2 : rp n g m h (t + 1) = stp (rp n g m h t) (g j).toNat (tol n (rp n g m h t) g h j : Nat) := by
    rw [rp, rst, e, if_pos hj]
  obtain ⟨d, q1, q2, q3⟩ := hin.dig j hj
  have hk := kn_lt (g j).toNat hd n (Nat.le_refl n)
  have ht : tol n (rp n g m h t) g h j < 2 ^ 8 := by rw [tol, q3]; exact Nat.xor_lt_two_pow hk q2
  have ht2 : (2 : Nat) ^ 8 = 256 := rfl
  have hu : unk (rp n g m h t) (g j).toNat n ≠ 0 := by simp only [one1, decide_eq_true_eq] at h2; omega
  rw [e2]
  exact ⟨rfl, stp_dg (by omega) hd, stp_cu (by omega) hu⟩
theorem stl_of {n m : Nat} {g l : Nat → Int} (h1 : ∀ i, i < m → one1 n l g i = false) : Stl n g m l := nx_uniq (Nat.le_refl _) h1 (fun h => absurd h (by omega))
theorem stl_at {n m : Nat} {g l : Nat → Int} (h : Stl n g m l) : ∀ i, i < m → one1 n l g i = false := by
  have := (nx_ok (one1 n l g) m).2.1
  rw [h] at this
  exact this
end Go.Proofs.Ytkalecdjcdgodaa
