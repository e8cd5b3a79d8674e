/-
  MendTwo in plain numbers: the lost cells, the fillings, the test, the first filling that fits. No conditions: nothing is claimed of the program here.
-/
import Derived.Test.YtkalecdjcdgodaaPlus
import Derived.Test.YtkalecdjcdgodaaWeight
namespace Go.Proofs.Ytkalecdjcdgodaa
open Go.RowKit

/-- the lost cells among the first T places of q columns, in the order of the text -/
def clT (q s T : Nat) : List (Nat × Nat) := ((List.range T).filter fun t => bt s (t % q)).map fun t => (t / q, t % q)
theorem clT_step (q s T : Nat) : clT q s (T + 1) = clT q s T ++ if bt s (T % q) then [(T / q, T % q)] else [] := by
  rw [clT, clT, List.range_succ, List.filter_append, List.map_append]
  congr 1
  by_cases h : bt s (T % q) = true
  · simp [h]
  · simp [h]
theorem at_div {q r k : Nat} (hk : k < q) : (r * q + k) / q = r ∧ (r * q + k) % q = k := by
  constructor
  · rw [Nat.mul_comm, Nat.mul_add_div (by omega), Nat.div_eq_of_lt hk]; rfl
  · rw [Nat.mul_comm, Nat.mul_add_mod, Nat.mod_eq_of_lt hk]
theorem clT_in {q s r k : Nat} (hk : k < q) : clT q s (r * q + k + 1) = clT q s (r * q + k) ++ if bt s k then [(r, k)] else [] := by
  rw [clT_step, (at_div hk).1, (at_div hk).2]
theorem clT_mem {q s T : Nat} (hq : 0 < q) {x : Nat × Nat} (h : x ∈ clT q s T) : x.2 < q ∧ x.1 * q ≤ T ∧ bt s x.2 = true ∧ (T ≤ q * q → x.1 < q) := by
  simp only [clT, List.mem_map, List.mem_filter, List.mem_range] at h
  obtain ⟨t, ⟨h1, h2⟩, rfl⟩ := h
  refine ⟨Nat.mod_lt _ hq, ?_, h2, fun hT => ?_⟩
  · have := Nat.div_mul_le_self t q
    show t / q * q ≤ T
    omega
  · exact Nat.div_lt_of_lt_mul (by omega)
theorem clT_len (q s : Nat) (T : Nat) : (clT q s T).length ≤ T := by
  rw [clT, List.length_map]
  exact Nat.le_trans (List.length_filter_le _ _) (by simp)
/-- at most eight cells -/
theorem clT_8 : (∀ s, s < 16 → (clT 2 s 4).length ≤ 4) ∧ ∀ s, s < 64 → (decide (wt s ≤ 2) && decide (8 < (clT 4 s 16).length)) = false := by decide +kernel
/-- the bit of a guess -/
def gb (g n : Nat) : Int := ((g / 2 ^ n % 2 : Nat) : Int)
theorem gb_bd (g n : Nat) : 0 ≤ gb g n ∧ gb g n ≤ 1 := by unfold gb; omega
/-- the first n cells are filled by a guess -/
def fillT (cs : List (Nat × Nat)) (g : Nat) (M : Nat → Nat → Int) : Nat → Nat → Nat → Int | 0 => M | n + 1 => upd (fillT cs g M n) (cs.getD n (0, 0)).1 (cs.getD n (0, 0)).2 (gb g n)
theorem fillT_bin {q m : Nat} {cs : List (Nat × Nat)} {g : Nat} {M : Nat → Nat → Int} (h : Bin q m M) : ∀ n, Bin q m (fillT cs g M n)
  | 0 => h
  | n + 1 => fun i j hi hj => by
    rw [fillT, upd]
    split
    · exact gb_bd g n
    · exact fillT_bin h n i j hi hj
/-- a cell that is not lost stays -/
theorem fillT_keep {q s T g : Nat} (hq : 0 < q) {M : Nat → Nat → Int} {i k : Nat} (hk : bt s k = false) : ∀ n, n ≤ (clT q s T).length → fillT (clT q s T) g M n i k = M i k
  | 0, _ => rfl
  | n + 1, hn => by
    rw [fillT, upd_ne, fillT_keep hq hk n (by omega)]
    rintro ⟨_, h2⟩
    have hx : (clT q s T).getD n (0, 0) ∈ clT q s T := by
      simp only [List.getD, List.getElem?_eq_getElem (show n < (clT q s T).length by omega), Option.getD_some]
      exact List.getElem_mem _
    have := (clT_mem hq hx).2.2.1
    rw [← h2, hk] at this
    cases this
/-- the filling fits in all columns that are not lost -/
def okT (p s : Nat) (M A : Nat → Nat → Int) : Bool := (List.range (p - 1)).all fun i => (List.range (p + 1)).all fun k => bt s k || plusF p A i k == M i k
theorem okT_true {p s : Nat} {M A : Nat → Nat → Int} : okT p s M A = true ↔ ∀ i, i < p - 1 → ∀ k, k < p + 1 → bt s k = false → plusF p A i k = M i k := by
  simp only [okT, List.all_eq_true, List.mem_range, Bool.or_eq_true, beq_iff_eq]
  exact ⟨fun h i hi k hk hb => by
    rcases h i hi k hk with h | h
    · rw [hb] at h; cases h
    · exact h, fun h i hi k hk => by
    cases hb : bt s k
    · exact .inr (h i hi k hk hb)
    · exact .inl rfl⟩
theorem plusF_low {p : Nat} {A : Nat → Nat → Int} {i k : Nat} (hk : k < p - 1) : plusF p A i k = A i k := by
  rw [plusF, W2, if_pos (by omega), W1, if_pos hk]
/-- the filling of a guess -/
def fillA (p s g : Nat) (M : Nat → Nat → Int) : Nat → Nat → Int := fillT (clT (p - 1) s ((p - 1) * (p - 1))) g M (clT (p - 1) s ((p - 1) * (p - 1))).length
/-- the reference looks at the last two columns alone -/
theorem okT_two {p s g : Nat} (hp : 2 ≤ p) {M : Nat → Nat → Int} : okT p s M (fillA p s g M) = true ↔ ∀ i, i < p - 1 → ∀ k, p - 1 ≤ k → k < p + 1 → bt s k = false → plusF p (fillA p s g M) i k = M i k := by
  rw [okT_true]
  constructor
  · exact fun h i hi k _ hk hb => h i hi k hk hb
  · intro h i hi k hk hb
    by_cases hl : k < p - 1
    · rw [plusF_low hl, fillA]
      exact fillT_keep (by omega) hb _ (Nat.le_refl _)
    · exact h i hi k (by omega) hk hb
/-- the test: row i up to column k, from column k0 on; all rows up to i -/
def okc (p s k0 : Nat) (M A : Nat → Nat → Int) (i : Nat) : Nat → Bool | 0 => true | k + 1 => okc p s k0 M A i k && (decide (k < k0) || (bt s k || plusF p A i k == M i k))
def okr (p s k0 : Nat) (M A : Nat → Nat → Int) : Nat → Bool | 0 => true | i + 1 => okr p s k0 M A i && okc p s k0 M A i (p + 1)
theorem okc_true {p s k0 : Nat} {M A : Nat → Nat → Int} {i : Nat} : ∀ {n : Nat}, okc p s k0 M A i n = true ↔ ∀ k, k < n → k0 ≤ k → bt s k = false → plusF p A i k = M i k
  | 0 => by simp [okc]
  | n + 1 => by
    rw [okc, Bool.and_eq_true, okc_true, Bool.or_eq_true, Bool.or_eq_true, decide_eq_true_eq, beq_iff_eq]
    constructor
    · rintro ⟨h1, h2⟩ k hk h0 hb
      by_cases e : k = n
      · subst e
        rcases h2 with h2 | h2 | h2
        · omega
        · rw [hb] at h2; cases h2
        · exact h2
      · exact h1 k (by omega) h0 hb
    · intro h
      refine ⟨fun k hk => h k (by omega), ?_⟩
      by_cases h0 : n < k0
      · exact .inl h0
      · cases hb : bt s n
        · exact .inr (.inr (h n (by omega) (by omega) hb))
        · exact .inr (.inl rfl)
theorem okc_low {p s k0 : Nat} {M A : Nat → Nat → Int} {i n : Nat} (h : n ≤ k0) : okc p s k0 M A i n = true := okc_true.2 fun k hk h0 => by omega
theorem okr_true {p s k0 : Nat} {M A : Nat → Nat → Int} : ∀ {n : Nat}, okr p s k0 M A n = true ↔ ∀ i, i < n → ∀ k, k < p + 1 → k0 ≤ k → bt s k = false → plusF p A i k = M i k
  | 0 => by simp [okr]
  | n + 1 => by
    rw [okr, Bool.and_eq_true, okr_true, okc_true]
    constructor
    · rintro ⟨h1, h2⟩ i hi
      by_cases e : i = n
      · subst e; exact h2
      · exact h1 i (by omega)
    · intro h
      exact ⟨fun i hi => h i (by omega), h n (by omega)⟩
theorem okr_all {p s : Nat} {M A : Nat → Nat → Int} : okr p s 0 M A (p - 1) = okT p s M A := by
  rw [Bool.eq_iff_iff, okr_true, okT_true]
  exact ⟨fun h i hi k hk hb => h i hi k hk (by omega) hb, fun h i hi k hk _ hb => h i hi k hk hb⟩
theorem okr_two {p s g : Nat} (hp : 2 ≤ p) {M : Nat → Nat → Int} : okr p s (p - 1) M (fillA p s g M) (p - 1) = okT p s M (fillA p s g M) := by
  rw [Bool.eq_iff_iff, okr_true, okT_two hp]
  exact ⟨fun h i hi k h0 hk hb => h i hi k hk h0 hb, fun h i hi k hk h0 hb => h i hi k h0 hk hb⟩
/-- how many guesses there are -/
def cap2 (p s : Nat) : Nat := 2 ^ (clT (p - 1) s ((p - 1) * (p - 1))).length
/-- the first guess that fits -/
def mendG (p s : Nat) (M : Nat → Nat → Int) : Option Nat := (List.range (cap2 p s)).find? fun g => okT p s M (fillA p s g M)
theorem mendG_some {p s g : Nat} {M : Nat → Nat → Int} (hg : g < cap2 p s) (h : okT p s M (fillA p s g M) = true) (hn : ∀ t, t < g → okT p s M (fillA p s t M) = false) : mendG p s M = some g := by
  rw [mendG, List.find?_range_eq_some]
  exact ⟨h, List.mem_range.2 hg, fun t ht => by simp [hn t ht]⟩
theorem mendG_none {p s : Nat} {M : Nat → Nat → Int} (hn : ∀ t, t < cap2 p s → okT p s M (fillA p s t M) = false) : mendG p s M = none := by
  rw [mendG, List.find?_eq_none]
  intro t ht
  rw [List.mem_range] at ht
  simp [hn t ht]
end Go.Proofs.Ytkalecdjcdgodaa
