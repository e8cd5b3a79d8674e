/-
  Solving rows, the program's way in plain numbers: rows are kept one behind the other, each less multiples of those ahead. No conditions: nothing is claimed of the program here.
-/
import Derived.Test.YtcalfblghblhcaaSolvePlain
namespace Go.Proofs.Ytcalfblghblhcaa
open Go.RowKit

theorem isP_pos {p : Int} (hp : isP p = true) : 2 ≤ p ∧ p ≤ 7 := by rcases isP_true.1 hp with rfl | rfl | rfl | rfl <;> omega
/-- a multiple of a list is added to another one -/
def addm (p : Int) (x : Nat → Int) (t : Int) (y : Nat → Int) (k : Nat) : Int := (x k + t * y k) % p
theorem addm_bd {p : Int} (hp : isP p = true) (x : Nat → Int) (t : Int) (y : Nat → Int) (k : Nat) : 0 ≤ addm p x t y k ∧ addm p x t y k < p := by
  have := isP_pos hp
  exact ⟨Int.emod_nonneg _ (by omega), Int.emod_lt_of_pos _ (by omega)⟩
theorem addm_mod (p : Int) (x : Nat → Int) (t : Int) (y : Nat → Int) (k : Nat) : p ∣ addm p x t y k - (x k + t * y k) := by
  refine Int.dvd_of_emod_eq_zero ?_
  rw [addm, Int.sub_emod, Int.emod_emod_of_dvd _ (Int.dvd_refl p), Int.sub_self]
  rfl
theorem lc_addm (p : Int) (f : Nat → Int) (t : Int) (g : Nat → Int) (R : Nat → Nat → Int) (k n : Nat) : p ∣ lc (addm p f t g) R k n - (lc f R k n + t * lc g R k n) := by
  rw [← lc_add]
  exact lc_mod (fun j _ => addm_mod p f t g j) (fun j _ => by rw [Int.sub_self]; exact Int.dvd_zero p)

/-- rows that are kept: sums of the rows up to i, each with 1 at its lead, and with 0 at the leads of those ahead -/
structure Kp (p : Int) (n m : Nat) (R : Nat → Nat → Int) (i t : Nat) (K F : Nat → Nat → Int) (l : Nat → Nat) : Prop where
  sum : ∀ a, a < t → ∀ k, k < m → p ∣ lc (F a) R k n - K a k
  one : ∀ a, a < t → l a < m ∧ K a (l a) = 1
  low : ∀ a, a < t → ∀ k, k < l a → K a k = 0
  tri : ∀ a b, a < b → b < t → K b (l a) = 0
  sup : ∀ a, a < t → ∀ j, j < n → F a j ≠ 0 → j < i ∧ ¬ Spn p m R j (R j)
  all : ∀ j, j < i → Spn p m K t (R j)
theorem Kp.start (p : Int) (n m : Nat) (R K F : Nat → Nat → Int) (l : Nat → Nat) : Kp p n m R 0 0 K F l := ⟨by simp, by simp, by simp, by simp, by simp, by simp⟩
/-- a list less multiples of the first a rows that are kept -/
structure Ls (p : Int) (n m : Nat) (R : Nat → Nat → Int) (t : Nat) (K : Nat → Nat → Int) (l : Nat → Nat) (P : Nat → Prop) (D x0 : Nat → Int) (a : Nat) (x f : Nat → Int) : Prop where
  sum : ∀ k, k < m → p ∣ lc f R k n - x k + D k
  zer : ∀ b, b < a → x (l b) = 0
  spn : Spn p m K t (fun k => x k - x0 k)
  sup : ∀ j, j < n → f j ≠ 0 → P j
section
variable {p : Int} {n m i t : Nat} {R K F : Nat → Nat → Int} {l : Nat → Nat} {P : Nat → Prop} {D x0 x f : Nat → Int} {a : Nat}
theorem Ls.start_row (hi : i < n) : Ls p n m R t K l (fun j => j = i ∨ (j < i ∧ ¬ Spn p m R j (R j))) (fun _ => 0) (R i) 0 (R i) (fun j => if j = i then 1 else 0) := by
  refine ⟨fun k _ => ?_, by simp, Spn.zero p m K t fun k _ => by rw [Int.sub_self]; exact Int.dvd_zero p, fun j _ h => ?_⟩
  · have := lc_one (fun _ => 0) R k i 1 n hi
    rw [lc_zero] at this
    have e : (fun j => if j = i then (1 : Int) else 0) = fun j => 0 + if j = i then 1 else 0 := by funext j; omega
    rw [e, this, Int.one_mul, Int.zero_add, Int.sub_self, Int.add_zero]
    exact Int.dvd_zero p
  · by_cases e : j = i
    · exact .inl e
    · rw [if_neg e] at h; exact absurd rfl h
theorem Ls.start_goal {g : Nat → Int} : Ls p n m R t K l (fun j => ¬ Spn p m R j (R j)) g g 0 g (fun _ => 0) :=
  ⟨fun k _ => by rw [lc_zero, Int.zero_sub, Int.add_left_neg]; exact Int.dvd_zero p, by simp, Spn.zero p m K t fun k _ => by rw [Int.sub_self]; exact Int.dvd_zero p, fun j _ h => absurd rfl h⟩
/-- one more row is taken off -/
theorem Ls.step (hk : Kp p n m R i t K F l) (hP : ∀ j, j < n → (j < i ∧ ¬ Spn p m R j (R j)) → P j) (h : Ls p n m R t K l P D x0 a x f) (ha : a < t) : Ls p n m R t K l P D x0 (a + 1) (addm p x (-x (l a)) (K a)) (addm p f (-x (l a)) (F a)) := by
  refine ⟨fun k hkm => ?_, fun b hb => ?_, ?_, fun j hj hne => ?_⟩
  · have h1 := h.sum k hkm
    have h2 := lc_addm p f (-x (l a)) (F a) R k n
    have h3 := addm_mod p x (-x (l a)) (K a) k
    have h4 := dvd_r (-x (l a)) (hk.sum a ha k hkm)
    generalize addm p x (-x (l a)) (K a) k = X at *
    generalize lc (addm p f (-x (l a)) (F a)) R k n = Y at *
    generalize -x (l a) = t0 at *
    generalize lc f R k n = Z at *
    generalize lc (F a) R k n = V at *
    have e : Y - X + D k = (Z - x k + D k) + (Y - (Z + t0 * V)) - (X - (x k + t0 * K a k)) + t0 * (V - K a k) := by rw [Int.mul_sub]; omega
    rw [e]
    exact Int.dvd_add (Int.dvd_sub (Int.dvd_add h1 h2) h3) h4
  · by_cases e : b = a
    · subst e
      rw [addm, (hk.one b ha).2]
      have : x (l b) + -x (l b) * 1 = 0 := by omega
      rw [this]; exact Int.zero_emod p
    · rw [addm, h.zer b (by omega), hk.tri b a (by omega) ha]
      simp
  · refine Spn.add h.spn (Spn.row ha) (t := -x (l a)) fun k _ => ?_
    have := addm_mod p x (-x (l a)) (K a) k
    generalize addm p x (-x (l a)) (K a) k = X at *
    generalize -x (l a) = t0 at *
    have e : X - x0 k - (x k - x0 k + t0 * K a k) = X - (x k + t0 * K a k) := by omega
    rw [e]; exact this
  · by_cases e1 : f j = 0
    · by_cases e2 : F a j = 0
      · refine absurd ?_ hne
        rw [addm, e1, e2]; simp
      · exact hP j hj (hk.sup a ha j hj e2)
    · exact h.sup j hj e1
/-- a sum of the rows kept that is 0 at all leads is 0 -/
theorem Kp.zero (hk : Kp p n m R i t K F l) {v : Nat → Int} (h : Spn p m K t v) (hz : ∀ a, a < t → p ∣ v (l a)) : ∀ k, k < m → p ∣ v k := by
  obtain ⟨c, hc⟩ := h
  have part : ∀ a, a < t → (∀ b, b < a → p ∣ c b) → ∀ s, s ≤ t → p ∣ lc c K (l a) s - (if a < s then c a else 0) := by
    intro a ha hb s
    induction s with
    | zero => intro _; simp [lc]
    | succ s ih =>
      intro hs
      have h1 := ih (by omega)
      rw [lc]
      rcases Nat.lt_trichotomy s a with h0 | h0 | h0
      · rw [if_neg (by omega)] at h1 ⊢
        have h2 := dvd_l (hb s h0) (K s (l a))
        have e : lc c K (l a) s + c s * K s (l a) - 0 = (lc c K (l a) s - 0) + c s * K s (l a) := by omega
        rw [e]; exact Int.dvd_add h1 h2
      · subst h0
        rw [if_neg (by omega)] at h1
        rw [if_pos (by omega), (hk.one s ha).2]
        have e : lc c K (l s) s + c s * 1 - c s = lc c K (l s) s - 0 := by omega
        rw [e]; exact h1
      · rw [if_pos h0] at h1
        rw [if_pos (by omega), hk.tri a s h0 (by omega)]
        have e : lc c K (l a) s + c s * 0 - c a = lc c K (l a) s - c a := by omega
        rw [e]; exact h1
  have hall : ∀ a, a ≤ t → ∀ b, b < a → p ∣ c b := by
    intro a
    induction a with
    | zero => intro _ b hb; omega
    | succ a ih =>
      intro ha b hb
      have i1 := ih (by omega)
      by_cases e : b = a
      · subst e
        have h1 := part b (by omega) i1 t (Nat.le_refl t)
        rw [if_pos (by omega)] at h1
        have h2 := hc (l b) (hk.one b (by omega)).1
        have h3 := hz b (by omega)
        have e : c b = (lc c K (l b) t - v (l b)) - (lc c K (l b) t - c b) + v (l b) := by omega
        rw [e]
        exact Int.dvd_add (Int.dvd_sub h2 h1) h3
      · exact i1 b (by omega)
  intro k hkm
  have h1 := lc_mod (p := p) (c := c) (d := fun _ => 0) (R := K) (S := K) (k := k) (n := t) (fun j hj => by rw [Int.sub_zero]; exact hall t (Nat.le_refl t) j hj) (fun j _ => by rw [Int.sub_self]; exact Int.dvd_zero p)
  rw [lc_zero, Int.sub_zero] at h1
  have h2 := hc k hkm
  have e : v k = lc c K k t - (lc c K k t - v k) := by omega
  rw [e]; exact Int.dvd_sub h1 h2
/-- nothing is left: the list is a sum of the rows kept -/
theorem Ls.in_ (h : Ls p n m R t K l P D x0 a x f) (hz : ∀ k, k < m → x k = 0) : Spn p m K t x0 := by
  refine Spn.add (t := -1) (Spn.zero p m K t (v := fun _ => 0) fun k _ => Int.dvd_zero p) h.spn fun k hk => ?_
  have e : x0 k - (0 + -1 * (x k - x0 k)) = 0 := by rw [hz k hk]; omega
  rw [e]; exact Int.dvd_zero p
/-- something is left: it is none -/
theorem Ls.out_ (hk : Kp p n m R i t K F l) (h : Ls p n m R t K l P D x0 t x f) (hr : ∀ k, k < m → 0 ≤ x k ∧ x k < p) (hz : ∃ k, k < m ∧ x k ≠ 0) : ¬ Spn p m K t x0 := by
  intro hs
  obtain ⟨k, hkm, hne⟩ := hz
  have h1 : Spn p m K t x := Spn.add (t := 1) h.spn hs fun k _ => by
    have e : x k - (x k - x0 k + 1 * x0 k) = 0 := by omega
    rw [e]; exact Int.dvd_zero p
  have h2 := hk.zero h1 (fun a ha => by rw [h.zer a ha]; exact Int.dvd_zero p) k hkm
  have := hr k hkm
  exact hne (small_dvd h2 (by omega) (by omega))
/-- a row that is a sum of those ahead -/
theorem Kp.skip (hk : Kp p n m R i t K F l) (hs : Spn p m K t (R i)) : Kp p n m R (i + 1) t K F l :=
  ⟨hk.sum, hk.one, hk.low, hk.tri, fun a ha j hj hne => by have := hk.sup a ha j hj hne; exact ⟨by omega, this.2⟩, fun j hj => by
    by_cases e : j = i
    · subst e; exact hs
    · exact hk.all j (by omega)⟩
/-- a row that is none is kept -/
theorem Kp.keep (hp : isP p = true) (hk : Kp p n m R i t K F l) (h : Ls p n m R t K l (fun j => j = i ∨ (j < i ∧ ¬ Spn p m R j (R j))) (fun _ => 0) (R i) t x f) (hr : ∀ k, k < m → 0 ≤ x k ∧ x k < p) {q : Nat} (hq : q < m) (hxq : x q ≠ 0) (hlo : ∀ k, k < q → x k = 0) {y : Int} (hy : x q * y % p = 1)
    {K' F' : Nat → Nat → Int} {l' : Nat → Nat} (eK : ∀ a, a < t → ∀ k, k < m → K' a k = K a k) (eF : ∀ a, a < t → ∀ j, j < n → F' a j = F a j) (el : ∀ a, a < t → l' a = l a) (nK : ∀ k, k < m → K' t k = addm p x (y - 1) x k) (nF : ∀ j, j < n → F' t j = addm p f (y - 1) f j) (nl : l' t = q) :
    Kp p n m R (i + 1) (t + 1) K' F' l' := by
  have hn : ¬ Spn p m R i (R i) := fun hs => Ls.out_ hk h hr ⟨q, hq, hxq⟩ (Spn.trans hk.all hs)
  have hsK : ∀ {v}, Spn p m K t v → Spn p m K' (t + 1) v := fun {v} ⟨c, hc⟩ => by
    refine Spn.mono ⟨c, fun k hkm => ?_⟩
    rw [lc_congr (d := c) (S := K) (fun _ _ => rfl) (fun j hj => eK j hj k hkm)]
    exact hc k hkm
  have hmul : ∀ k, p ∣ addm p x (y - 1) x k - y * x k := fun k => by
    have := addm_mod p x (y - 1) x k
    have e : x k + (y - 1) * x k = y * x k := by rw [Int.sub_mul, Int.one_mul]; omega
    rwa [e] at this
  refine ⟨fun a ha k hkm => ?_, fun a ha => ?_, fun a ha k hkl => ?_, fun a b hab hb => ?_, fun a ha j hj hne => ?_, fun j hj => ?_⟩
  · by_cases e : a = t
    · subst e
      rw [nK k hkm, lc_congr (d := addm p f (y - 1) f) (S := R) (fun j hj => nF j hj) (fun _ _ => rfl)]
      have h1 := h.sum k hkm
      have h2 := lc_addm p f (y - 1) f R k n
      have h3 := hmul k
      generalize addm p x (y - 1) x k = X at *
      generalize lc (addm p f (y - 1) f) R k n = Y at *
      generalize lc f R k n = Z at *
      have h4 := dvd_r (y) h1
      have e : Y - X = (Y - (Z + (y - 1) * Z)) - (X - y * x k) + y * (Z - x k + 0) := by rw [Int.add_zero, Int.mul_sub, Int.sub_mul, Int.one_mul]; omega
      rw [e]
      exact Int.dvd_add (Int.dvd_sub h2 h3) h4
    · rw [eK a (by omega) k hkm, lc_congr (d := F a) (S := R) (fun j hj => eF a (by omega) j hj) (fun _ _ => rfl)]
      exact hk.sum a (by omega) k hkm
  · by_cases e : a = t
    · subst e
      rw [nl, nK q hq]
      refine ⟨hq, ?_⟩
      have e : x q + (y - 1) * x q = x q * y := by rw [Int.sub_mul, Int.one_mul, Int.mul_comm y]; omega
      rw [addm, e]; exact hy
    · rw [el a (by omega)]
      have h1 := hk.one a (by omega)
      exact ⟨h1.1, by rw [eK a (by omega) _ h1.1]; exact h1.2⟩
  · by_cases e : a = t
    · subst e
      rw [nl] at hkl
      rw [nK k (by omega), addm, hlo k hkl]; simp
    · rw [el a (by omega)] at hkl
      have h1 := hk.one a (by omega)
      rw [eK a (by omega) k (by omega)]
      exact hk.low a (by omega) k hkl
  · rw [el a (by omega)]
    have h1 := hk.one a (by omega)
    by_cases e : b = t
    · subst e
      rw [nK _ h1.1, addm, h.zer a hab]; simp
    · rw [eK b (by omega) _ h1.1]
      exact hk.tri a b hab (by omega)
  · by_cases e : a = t
    · subst e
      rw [nF j hj] at hne
      have hf : f j ≠ 0 := fun h0 => hne (by rw [addm, h0]; simp)
      rcases h.sup j hj hf with rfl | ⟨h1, h2⟩
      · exact ⟨by omega, hn⟩
      · exact ⟨by omega, h2⟩
    · rw [eF a (by omega) j hj] at hne
      have := hk.sup a (by omega) j hj hne
      exact ⟨by omega, this.2⟩
  · by_cases e : j = i
    · subst e
      have h1 := hsK h.spn
      have h2 : Spn p m K' (t + 1) (K' t) := Spn.row (by omega)
      have h3 : Spn p m K' (t + 1) x := Spn.add (t := x q) (Spn.zero p m K' (t + 1) (v := fun _ => 0) fun k _ => Int.dvd_zero p) h2 fun k hkm => by
        rw [nK k hkm]
        have a1 := dvd_r (x q) (hmul k)
        have a2 : p ∣ x q * y - 1 := by
          refine Int.dvd_of_emod_eq_zero ?_
          rw [Int.sub_emod, hy]
          have := isP_pos hp
          rw [Int.emod_eq_of_lt (by omega) (show (1 : Int) < p by omega)]
          simp
        have a3 := dvd_l a2 (x k)
        generalize addm p x (y - 1) x k = X at *
        have e : x k - (0 + x q * X) = -(x q * (X - y * x k)) - (x q * y - 1) * x k := by
          rw [Int.mul_sub, Int.sub_mul, Int.one_mul, Int.mul_assoc]; omega
        rw [e]
        exact Int.dvd_sub ((Int.dvd_neg).2 a1) a3
      exact Spn.add (t := -1) h3 h1 fun k _ => by
        have e : R j k - (x k + -1 * (x k - R j k)) = 0 := by omega
        rw [e]; exact Int.dvd_zero p
    · exact hsK (hk.all j (by omega))
/-- the goal is reached: the answer -/
theorem Kp.good (hp : isP p = true) {g : Nat → Int} (_hk : Kp p n m R n t K F l) (h : Ls p n m R t K l (fun j => ¬ Spn p m R j (R j)) g g t x f) (hz : ∀ k, k < m → x k = 0) : Good p n m R g (fun j => (-f j) % p) := by
  have hb := isP_pos hp
  refine ⟨fun j _ => ⟨Int.emod_nonneg _ (by omega), Int.emod_lt_of_pos _ (by omega)⟩, fun k hkm => ?_, fun j hj hne => ?_⟩
  · have h1 := h.sum k hkm
    rw [hz k hkm] at h1
    have h2 := lc_mod (p := p) (c := fun j => (-f j) % p) (d := fun j => 0 + (-1) * f j) (R := R) (S := R) (k := k) (n := n) (fun j _ => by
      refine Int.dvd_of_emod_eq_zero ?_
      rw [Int.sub_emod, Int.emod_emod_of_dvd _ (Int.dvd_refl p), ← Int.sub_emod]
      have e : -f j - (0 + -1 * f j) = 0 := by omega
      rw [e]; exact Int.zero_emod p) (fun j _ => by rw [Int.sub_self]; exact Int.dvd_zero p)
    rw [lc_add (fun _ => 0) f (-1) R k n, lc_zero] at h2
    generalize lc (fun j => (-f j) % p) R k n = Y at *
    generalize lc f R k n = Z at *
    have e : Y - g k = (Y - (0 + -1 * Z)) - (Z - 0 + g k) := by omega
    rw [e]
    exact Int.dvd_sub h2 h1
  · refine h.sup j hj fun h0 => hne ?_
    show (-f j) % p = 0
    rw [h0]; simp
/-- the goal is not reached: there is no answer -/
theorem Kp.none_ {g f' : Nat → Int} (hk : Kp p n m R n t K F l) (h : Ls p n m R t K l (fun j => ¬ Spn p m R j (R j)) g g t x f) (hr : ∀ k, k < m → 0 ≤ x k ∧ x k < p) (hz : ∃ k, k < m ∧ x k ≠ 0) : ¬ Good p n m R g f' := fun hg =>
  Ls.out_ hk h hr hz (Spn.trans hk.all ⟨f', hg.2.1⟩)
end
end Go.Proofs.Ytcalfblghblhcaa
