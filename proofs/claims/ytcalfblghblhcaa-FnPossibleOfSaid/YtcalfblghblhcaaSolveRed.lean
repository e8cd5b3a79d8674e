/-
  Solving rows, the reference's way in plain numbers: the reduced rows of the columns with the goal behind them. No conditions: nothing is claimed of the program here.
-/
import Derived.Test.YtcalfblghblhcaaSolveElim
namespace Go.Proofs.Ytcalfblghblhcaa
open Go.RowKit

/-- the product of row i with a list -/
def dv (v : Nat → Int) (A : Nat → Nat → Int) (i N : Nat) : Int := lc v (fun k i => A i k) i N
theorem lc_term {c d : Nat → Int} {R S : Nat → Nat → Int} {k k' : Nat} : ∀ {n : Nat}, (∀ j, j < n → c j * R j k = d j * S j k') → lc c R k n = lc d S k' n
  | 0, _ => rfl
  | n + 1, h => by rw [lc, lc, lc_term (fun j hj => h j (by omega)), h n (by omega)]
theorem dv_row {p : Int} {v : Nat → Int} {A B C : Nat → Nat → Int} {i a b N : Nat} {t : Int} (h : ∀ k, k < N → p ∣ C i k - (A a k + t * B b k)) : p ∣ dv v C i N - (dv v A a N + t * dv v B b N) := by
  induction N with
  | zero => simp [dv, lc]
  | succ N ih =>
    have h1 := ih fun k hk => h k (by omega)
    have h2 := dvd_r (v N) (h N (by omega))
    have e : dv v C i (N + 1) - (dv v A a (N + 1) + t * dv v B b (N + 1)) = (dv v C i N - (dv v A a N + t * dv v B b N)) + v N * (C i N - (A a N + t * B b N)) := by
      show dv v C i N + v N * C i N - (dv v A a N + v N * A a N + t * (dv v B b N + v N * B b N)) = _
      have e1 : t * (dv v B b N + v N * B b N) = t * dv v B b N + v N * (t * B b N) := by rw [Int.mul_add, Int.mul_left_comm]
      rw [e1, Int.mul_sub, Int.mul_add]
      omega
    rw [e]; exact Int.dvd_add h1 h2
theorem dv_same {v : Nat → Int} {A C : Nat → Nat → Int} {i a N : Nat} (h : ∀ k, k < N → C i k = A a k) : dv v C i N = dv v A a N :=
  lc_term fun j hj => by show v j * C i j = v j * A a j; rw [h j hj]

/-- rows while they are reduced: c columns are done, t rows have a lead -/
structure Rdc (p : Int) (m N : Nat) (A0 A : Nat → Nat → Int) (c t : Nat) (l : Nat → Nat) : Prop where
  nul : ∀ v, (∀ i, i < m → p ∣ dv v A i N) ↔ (∀ i, i < m → p ∣ dv v A0 i N)
  le : t ≤ m ∧ t ≤ c
  one : ∀ i, i < t → l i < c ∧ A i (l i) = 1
  low : ∀ i, i < t → ∀ k, k < l i → A i k = 0
  col : ∀ i, i < t → ∀ j, j < m → j ≠ i → A j (l i) = 0
  zer : ∀ i, t ≤ i → i < m → ∀ k, k < c → A i k = 0
  rng : ∀ i, i < m → ∀ k, k < N → 0 ≤ A i k ∧ A i k < p
section
variable {p : Int} {m N c t : Nat} {A0 A : Nat → Nat → Int} {l : Nat → Nat}
theorem Rdc.start (h : ∀ i, i < m → ∀ k, k < N → 0 ≤ A0 i k ∧ A0 i k < p) : Rdc p m N A0 A0 0 0 l :=
  ⟨fun _ => Iff.rfl, by omega, by simp, by simp, by simp, fun i _ _ k hk => by omega, h⟩
theorem Rdc.skip (h : Rdc p m N A0 A c t l) (hz : ∀ i, t ≤ i → i < m → A i c = 0) : Rdc p m N A0 A (c + 1) t l :=
  ⟨h.nul, by have := h.le; omega, fun i hi => by have := h.one i hi; exact ⟨by omega, this.2⟩, h.low, h.col, fun i h1 h2 k hk => by
    by_cases e : k = c
    · subst e; exact hz i h1 h2
    · exact h.zer i h1 h2 k (by omega), h.rng⟩
/-- row q goes to the place t, times y; the row there goes to q -/
def swp (p : Int) (t q : Nat) (y : Int) (A : Nat → Nat → Int) (i k : Nat) : Int := if i = t then A q k * y % p else if i = q then A t k else A i k
/-- the rows up to r, but row t, lose row t -/
def clr (p : Int) (t c r : Nat) (B : Nat → Nat → Int) (i k : Nat) : Int := if i < r ∧ i ≠ t then (B i k + (p - B i c) * B t k) % p else B i k
theorem clr_bd {p : Int} (hp : isP p = true) {t c r m N : Nat} {B : Nat → Nat → Int} (h : ∀ i, i < m → ∀ k, k < N → 0 ≤ B i k ∧ B i k < p) : ∀ i, i < m → ∀ k, k < N → 0 ≤ clr p t c r B i k ∧ clr p t c r B i k < p := fun i hi k hk => by
  have := isP_pos hp
  unfold clr
  split
  · exact ⟨Int.emod_nonneg _ (by omega), Int.emod_lt_of_pos _ (by omega)⟩
  · exact h i hi k hk
theorem swp_bd {p : Int} (hp : isP p = true) {t q m N : Nat} {y : Int} {A : Nat → Nat → Int} (ht : t < m) (h : ∀ i, i < m → ∀ k, k < N → 0 ≤ A i k ∧ A i k < p) : ∀ i, i < m → ∀ k, k < N → 0 ≤ swp p t q y A i k ∧ swp p t q y A i k < p := fun i hi k hk => by
  have := isP_pos hp
  unfold swp
  split
  · exact ⟨Int.emod_nonneg _ (by omega), Int.emod_lt_of_pos _ (by omega)⟩
  · split
    · exact h t ht k hk
    · exact h i hi k hk
theorem emod_dvd (p a : Int) : p ∣ a % p - a := by
  refine Int.dvd_of_emod_eq_zero ?_
  rw [Int.sub_emod, Int.emod_emod_of_dvd _ (Int.dvd_refl p), Int.sub_self]
  rfl
theorem Rdc.pivot (hp : isP p = true) (h : Rdc p m N A0 A c t l) {q : Nat} (hc : c < N) (hq : t ≤ q ∧ q < m) {y : Int} (hy : A q c * y % p = 1) {C : Nat → Nat → Int} {l' : Nat → Nat}
    (eC : ∀ i, i < m → ∀ k, k < N → C i k = clr p t c m (swp p t q y A) i k) (el : ∀ i, i < t → l' i = l i) (nl : l' t = c) : Rdc p m N A0 C (c + 1) (t + 1) l' := by
  have hb := isP_pos hp
  have htm : t < m := by omega
  generalize hB : swp p t q y A = B at *
  have bt_ : ∀ k, B t k = A q k * y % p := fun k => by rw [← hB, swp, if_pos rfl]
  have bq_ : q ≠ t → ∀ k, B q k = A t k := fun hne k => by rw [← hB, swp, if_neg hne, if_pos rfl]
  have bi_ : ∀ i, i ≠ t → i ≠ q → ∀ k, B i k = A i k := fun i h1 h2 k => by rw [← hB, swp, if_neg h1, if_neg h2]
  have ct_ : ∀ k, k < N → C t k = B t k := fun k hk => by rw [eC t htm k hk, clr, if_neg (by omega)]
  have ci_ : ∀ i, i < m → i ≠ t → ∀ k, k < N → C i k = (B i k + (p - B i c) * B t k) % p := fun i hi hne k hk => by rw [eC i hi k hk, clr, if_pos ⟨hi, hne⟩]
  have btc : B t c = 1 := by rw [bt_]; exact hy
  have ay : p ∣ A q c * y - 1 := by
    refine Int.dvd_of_emod_eq_zero ?_
    rw [Int.sub_emod, hy, Int.emod_eq_of_lt (by omega) (show (1 : Int) < p by omega)]
    simp
  -- the rows below t are 0 up to c
  have bz : ∀ i, t ≤ i → i < m → ∀ k, k < c → B i k = 0 := fun i h1 h2 k hk => by
    by_cases e1 : i = t
    · subst e1; rw [bt_, h.zer q hq.1 hq.2 k hk]; simp
    · by_cases e2 : i = q
      · subst e2; rw [bq_ e1]; exact h.zer t (Nat.le_refl t) htm k hk
      · rw [bi_ i e1 e2]; exact h.zer i h1 h2 k hk
  have bl : ∀ i, i < t → ∀ k, B i k = A i k := fun i hi k => bi_ i (by omega) (by omega) k
  refine ⟨fun v => ?_, by have := h.le; omega, fun i hi => ?_, fun i hi k hk => ?_, fun i hi j hj hne => ?_, fun i h1 h2 k hk => ?_, fun i hi k hk => ?_⟩
  · rw [← h.nul v]
    have d0 : dv v C t N = dv v B t N := dv_same ct_
    have d1 : p ∣ dv v B t N - (0 + y * dv v A q N) := by
      have := dv_row (p := p) (v := v) (A := fun _ _ => 0) (B := A) (C := B) (i := t) (a := 0) (b := q) (N := N) (t := y) fun k _ => by
        rw [bt_, Int.zero_add, Int.mul_comm y]; exact emod_dvd p _
      have e : dv v (fun _ _ => 0) 0 N = 0 := by
        show lc v (fun _ _ => 0) 0 N = 0
        rw [lc_term (d := fun _ => 0) (S := fun _ _ => 0) (k' := 0) (fun j _ => by simp), lc_zero]
      rwa [e] at this
    have d2 : ∀ i, i < m → i ≠ t → p ∣ dv v C i N - (dv v B i N + (p - B i c) * dv v B t N) := fun i hi hne =>
      dv_row fun k hk => by rw [ci_ i hi hne k hk]; exact emod_dvd p _
    constructor
    · intro hC i hi
      have ht0 : p ∣ dv v B t N := by rw [← d0]; exact hC t htm
      have hB' : ∀ i, i < m → i ≠ t → p ∣ dv v B i N := fun i hi hne => by
        have e : dv v B i N = dv v C i N - (dv v C i N - (dv v B i N + (p - B i c) * dv v B t N)) - (p - B i c) * dv v B t N := by omega
        rw [e]
        exact Int.dvd_sub (Int.dvd_sub (hC i hi) (d2 i hi hne)) (dvd_r _ ht0)
      have hq0 : p ∣ dv v A q N := by
        have a1 := dvd_r (A q c) (Int.dvd_sub ht0 d1)
        have a2 := dvd_l ay (dv v A q N)
        generalize dv v A q N = V at *
        generalize dv v B t N = U at *
        have e : V = A q c * (U - (U - (0 + y * V))) - (A q c * y - 1) * V := by
          rw [show U - (U - (0 + y * V)) = y * V by omega, Int.sub_mul, Int.one_mul, Int.mul_assoc]; omega
        rw [e]; exact Int.dvd_sub a1 a2
      by_cases e2 : i = q
      · subst e2; exact hq0
      · by_cases e1 : i = t
        · subst e1
          rw [← dv_same (v := v) (N := N) (C := B) (i := q) fun k _ => bq_ (fun h => e2 h.symm) k]
          exact hB' q hq.2 (fun h => e2 h.symm)
        · rw [← dv_same (v := v) (N := N) (C := B) (i := i) fun k _ => bi_ i e1 e2 k]
          exact hB' i hi e1
    · intro hA i hi
      have ht0 : p ∣ dv v B t N := by
        have a1 := dvd_r (y) (hA q hq.2)
        have e : dv v B t N = (dv v B t N - (0 + y * dv v A q N)) + y * dv v A q N := by omega
        rw [e]; exact Int.dvd_add d1 a1
      by_cases e1 : i = t
      · subst e1; rw [d0]; exact ht0
      · have hb0 : p ∣ dv v B i N := by
          by_cases e2 : i = q
          · subst e2; rw [dv_same fun k _ => bq_ e1 k]; exact hA t htm
          · rw [dv_same fun k _ => bi_ i e1 e2 k]; exact hA i hi
        have e : dv v C i N = (dv v C i N - (dv v B i N + (p - B i c) * dv v B t N)) + dv v B i N + (p - B i c) * dv v B t N := by omega
        rw [e]
        exact Int.dvd_add (Int.dvd_add (d2 i hi e1) hb0) (dvd_r _ ht0)
  · by_cases e : i = t
    · subst e; rw [nl, ct_ c hc]; exact ⟨by omega, btc⟩
    · rw [el i (by omega)]
      have h1 := h.one i (by omega)
      have hlN : l i < N := by omega
      rw [ci_ i (by omega) e _ hlN, bl i (by omega), bl i (by omega), h1.2, bz t (Nat.le_refl t) htm (l i) h1.1]
      refine ⟨by omega, ?_⟩
      rw [Int.mul_zero, Int.add_zero]
      exact Int.emod_eq_of_lt (by omega) (by omega)
  · by_cases e : i = t
    · subst e
      rw [nl] at hk
      rw [ct_ k (by omega)]; exact bz i (Nat.le_refl i) htm k hk
    · rw [el i (by omega)] at hk
      have h1 := h.one i (by omega)
      rw [ci_ i (by omega) e k (by omega), bl i (by omega), h.low i (by omega) k hk, bz t (Nat.le_refl t) htm k (by omega), Int.mul_zero]
      rfl
  · by_cases e : i = t
    · subst e
      rw [nl, ci_ j hj hne c hc, btc]
      have e2 : B j c + (p - B j c) * 1 = p := by omega
      rw [e2]; exact Int.emod_self
    · rw [el i (by omega)]
      have h1 := h.one i (by omega)
      by_cases e1 : j = t
      · subst e1; rw [ct_ _ (by omega)]; exact bz j (Nat.le_refl j) htm _ h1.1
      · rw [ci_ j hj e1 _ (by omega), bz t (Nat.le_refl t) htm (l i) h1.1, Int.mul_zero, Int.add_zero]
        have e3 : B j (l i) = 0 := by
          by_cases e2 : j = q
          · subst e2; rw [bq_ e1]; exact h.col i (by omega) t htm (by omega)
          · rw [bi_ j e1 e2]; exact h.col i (by omega) j hj hne
        rw [e3]; rfl
  · rw [ci_ i h2 (by omega)]
    · by_cases e : k = c
      · subst e
        rw [btc]
        have e2 : B i k + (p - B i k) * 1 = p := by omega
        rw [e2]; exact Int.emod_self
      · rw [bz i (by omega) h2 k (by omega), bz t (Nat.le_refl t) htm k (by omega), Int.mul_zero]; rfl
    · omega
  · rw [eC i hi k hk, ← hB]
    exact clr_bd hp (swp_bd hp htm h.rng) i hi k hk

/-- the augmented columns: what solve reduces -/
def aug (n : Nat) (R : Nat → Nat → Int) (g : Nat → Int) (i k : Nat) : Int := if k < n then R k i else g i
theorem aug_dv {n : Nat} {R : Nat → Nat → Int} {g v : Nat → Int} {i : Nat} : dv v (aug n R g) i (n + 1) = lc v R i n + v n * g i := by
  show lc v (fun k i => aug n R g i k) i n + v n * aug n R g i n = _
  rw [lc_term (d := v) (S := R) (k' := i) (fun j hj => by show v j * aug n R g i j = v j * R j i; rw [aug, if_pos hj]), aug, if_neg (by omega)]
theorem dv_split {v : Nat → Int} {A : Nat → Nat → Int} {i n : Nat} : dv v A i (n + 1) = dv v A i n + v n * A i n := rfl
theorem one_not {p : Int} (hp : isP p = true) : ¬ p ∣ -1 := fun h => by
  have := isP_pos hp
  have := small_dvd h (by omega) (by omega)
  omega
theorem dv_zero {v : Nat → Int} {A : Nat → Nat → Int} {i N : Nat} (h : ∀ k, k < N → v k * A i k = 0) : dv v A i N = 0 := by
  show lc v (fun k i => A i k) i N = 0
  rw [lc_term (d := fun _ => 0) (S := fun _ _ => 0) (k' := 0) (fun j hj => by show v j * A i j = 0 * 0; rw [h j hj]; rfl), lc_zero]
/-- a lead in the goal's column: no answer -/
theorem Rdc.none_ (hp : isP p = true) {n : Nat} {R : Nat → Nat → Int} {g f : Nat → Int} (h : Rdc p m (n + 1) (aug n R g) A (n + 1) t l) {i : Nat} (hi : i < t) (hl : l i = n) : ¬ Good p n m R g f := by
  rintro ⟨_, h2, _⟩
  have h3 := (h.nul (fun k => if k < n then f k else -1)).2 (fun a ha => by
    rw [aug_dv, lc_congr (d := f) (S := R) (fun j hj => by simp [hj]) (fun _ _ => rfl)]
    have := h2 a ha
    simp only [Nat.lt_irrefl, if_false]
    have e : lc f R a n + -1 * g a = lc f R a n - g a := by omega
    rw [e]; exact this) i (by have := h.le; omega)
  rw [dv_split, dv_zero (fun k hk => by rw [h.low i hi k (by omega)]; exact Int.mul_zero _)] at h3
  have h4 := (h.one i hi).2
  rw [hl] at h4
  rw [h4] at h3
  simp only [Nat.lt_irrefl, if_false] at h3
  exact one_not hp h3
/-- no lead there: the numbers in the goal's column are the answer -/
theorem Rdc.good (hp : isP p = true) {n : Nat} {R : Nat → Nat → Int} {g f : Nat → Int} (h : Rdc p m (n + 1) (aug n R g) A (n + 1) t l) (hl : ∀ i, i < t → l i ≠ n)
    (f1 : ∀ i, i < t → f (l i) = A i n) (f2 : ∀ j, j < n → (∀ i, i < t → l i ≠ j) → f j = 0) : Good p n m R g f := by
  have hb := isP_pos hp
  have hlt : ∀ i, i < t → l i < n := fun i hi => by have := (h.one i hi).1; have := hl i hi; omega
  have lead : ∀ j, j < n → f j ≠ 0 → ∃ i, i < t ∧ l i = j := fun j hj hne =>
    Classical.byContradiction fun hh => hne (f2 j hj fun i hi e => hh ⟨i, hi, e⟩)
  refine ⟨fun j hj => ?_, fun k hk => ?_, fun j hj hne hs => ?_⟩
  · by_cases h0 : f j = 0
    · omega
    · obtain ⟨i, hi, rfl⟩ := lead j hj h0
      rw [f1 i hi]; exact h.rng i (by have := h.le; omega) n (by omega)
  · have h3 := (h.nul (fun k => if k < n then f k else -1)).1 (fun a ha => by
      by_cases hat : a < t
      · rw [dv_split]
        have e1 : dv (fun k => if k < n then f k else -1) A a n = A a n := by
          show lc _ (fun k i => A i k) a n = _
          have e2 := lc_one (fun _ => 0) (fun _ _ => 1) 0 (l a) (A a n) n (hlt a hat)
          rw [lc_zero, Int.zero_add, Int.mul_one] at e2
          rw [← e2]
          refine lc_term fun j hj => ?_
          show (if j < n then f j else -1) * A a j = _
          rw [if_pos hj]
          by_cases e : j = l a
          · rw [if_pos e, e, f1 a hat, (h.one a hat).2]; omega
          · rw [if_neg e]
            by_cases h0 : f j = 0
            · rw [h0]; omega
            · obtain ⟨i, hi, rfl⟩ := lead j hj h0
              rw [h.col i hi a ha (fun e2 => e (by rw [e2]))]; omega
        rw [e1]
        simp only [Nat.lt_irrefl, if_false]
        have e : A a n + -1 * A a n = 0 := by omega
        rw [e]; exact Int.dvd_zero p
      · rw [dv_zero fun k hk => by rw [h.zer a (by omega) ha k hk]; exact Int.mul_zero _]
        exact Int.dvd_zero p) k hk
    rw [aug_dv, lc_congr (d := f) (S := R) (fun j hj => by simp [hj]) (fun _ _ => rfl)] at h3
    simp only [Nat.lt_irrefl, if_false] at h3
    have e : lc f R k n - g k = lc f R k n + -1 * g k := by omega
    rw [e]; exact h3
  · obtain ⟨i, hi, rfl⟩ := lead j hj hne
    obtain ⟨c, hc⟩ := hs
    have h3 := (h.nul (fun k => if k < l i then c k else if k = l i then -1 else 0)).2 (fun a ha => by
      rw [aug_dv]
      have key : ∀ N, l i < N → N ≤ n → lc (fun k => if k < l i then c k else if k = l i then -1 else 0) R a N = lc c R a (l i) - R (l i) a := by
        intro N h1 h2
        induction N with
        | zero => omega
        | succ N ih =>
          rw [lc]
          by_cases e : N = l i
          · rw [lc_congr (d := c) (S := R) (fun j hj => by rw [if_pos (by omega)]) (fun _ _ => rfl), if_neg (by omega), if_pos e, e]; omega
          · rw [ih (by omega) (by omega), if_neg (by omega), if_neg e]; omega
      rw [key n hj (Nat.le_refl n), if_neg (by omega), if_neg (by omega), Int.zero_mul, Int.add_zero]
      exact hc a ha) i (by have := h.le; omega)
    have e0 : dv (fun k => if k < l i then c k else if k = l i then -1 else 0) A i (n + 1) = -1 := by
      show lc _ (fun k i => A i k) i (n + 1) = _
      have e2 := lc_one (fun _ => 0) (fun _ _ => 1) 0 (l i) (-1) (n + 1) (by omega)
      rw [lc_zero, Int.zero_add, Int.mul_one] at e2
      refine Eq.trans (lc_term fun j _ => ?_) e2
      show (if j < l i then c j else if j = l i then -1 else 0) * A i j = _
      by_cases e1 : j < l i
      · rw [h.low i hi j e1, Int.mul_zero]; simp [Nat.ne_of_lt e1]
      · by_cases e3 : j = l i
        · rw [if_neg e1, if_pos e3, e3, (h.one i hi).2]; simp
        · rw [if_neg e1, if_neg e3]; simp [e3]
    rw [e0] at h3
    exact one_not hp h3
end
end Go.Proofs.Ytcalfblghblhcaa
