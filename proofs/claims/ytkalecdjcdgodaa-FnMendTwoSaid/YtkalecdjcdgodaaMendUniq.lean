/-
  Any two columns of the law's choice may be lost: there is one array alone that fits, and it is found. No conditions: nothing is claimed of the program here.
-/
import Derived.Test.YtkalecdjcdgodaaMendAgain
namespace Go.Proofs.Ytkalecdjcdgodaa
open Go.RowKit

/-- where two arrays differ -/
def dif (M N : Nat → Nat → Int) (i j : Nat) : Int := (M i j + N i j) % 2
theorem tot_dif (M N : Nat → Nat → Int) (i : Nat) : ∀ q, tot (dif M N i) q % 2 = (tot (M i) q + tot (N i) q) % 2
  | 0 => by simp [tot]
  | q + 1 => by
    have h := tot_dif M N i q
    simp only [tot, dif] at h ⊢
    omega
theorem W1_dif (q : Nat) (M N : Nat → Nat → Int) (i j : Nat) : W1 q (dif M N) i j = (W1 q M i j + W1 q N i j) % 2 := by
  unfold W1
  by_cases h : j < q
  · rw [if_pos h, if_pos h, if_pos h]; rfl
  · rw [if_neg h, if_neg h, if_neg h, tot_dif]; omega
theorem dg1_dif (p q : Nat) (M N : Nat → Nat → Int) (i r : Nat) : ∀ k, dg1 p (W1 q (dif M N)) i r k % 2 = (dg1 p (W1 q M) i r k + dg1 p (W1 q N) i r k) % 2
  | 0 => by simp [dg1]
  | k + 1 => by
    have h := dg1_dif p q M N i r k
    have h2 := W1_dif q M N r k
    simp only [dg1]
    by_cases e : (r + k) % p = i
    · rw [if_pos e, if_pos e, if_pos e]; omega
    · rw [if_neg e, if_neg e, if_neg e]; omega
theorem dg2_dif (p q : Nat) (M N : Nat → Nat → Int) (i : Nat) : ∀ r, dg2 p (W1 q (dif M N)) i r % 2 = (dg2 p (W1 q M) i r + dg2 p (W1 q N) i r) % 2
  | 0 => by simp [dg2]
  | r + 1 => by
    have h := dg2_dif p q M N i r
    have h2 := dg1_dif p q M N i r p
    simp only [dg2]
    omega
theorem plus_dif (p : Nat) (M N : Nat → Nat → Int) (i j : Nat) : plusF p (dif M N) i j = (plusF p M i j + plusF p N i j) % 2 := by
  unfold plusF W2
  by_cases h : j < p
  · rw [if_pos h, if_pos h, if_pos h, W1_dif]
  · rw [if_neg h, if_neg h, if_neg h, dg2_dif]; omega

theorem W1_congr {q n : Nat} {M N : Nat → Nat → Int} (h : ∀ i j, i < n → j < q → M i j = N i j) {i : Nat} (hi : i < n) (j : Nat) : W1 q M i j = W1 q N i j := by
  unfold W1
  by_cases hj : j < q
  · rw [if_pos hj, if_pos hj, h i j hi hj]
  · rw [if_neg hj, if_neg hj, tot_congr (fun k hk => h i k hi hk)]
theorem dg1_congr {p n : Nat} {V W : Nat → Nat → Int} (h : ∀ i j, i < n → V i j = W i j) {i r : Nat} (hr : r < n) : ∀ k, dg1 p V i r k = dg1 p W i r k
  | 0 => rfl
  | k + 1 => by rw [dg1, dg1, dg1_congr h hr k, h r k hr]
theorem dg2_congr {p n : Nat} {V W : Nat → Nat → Int} (h : ∀ i j, i < n → V i j = W i j) {i : Nat} : ∀ r, r ≤ n → dg2 p V i r = dg2 p W i r
  | 0, _ => rfl
  | r + 1, hr => by rw [dg2, dg2, dg2_congr h r (by omega), dg1_congr h (by omega)]
theorem plus_congr {p : Nat} {M N : Nat → Nat → Int} (h : ∀ i j, i < p - 1 → j < p - 1 → M i j = N i j) {i : Nat} (hi : i < p - 1) (j : Nat) : plusF p M i j = plusF p N i j := by
  have h1 : ∀ i j, i < p - 1 → W1 (p - 1) M i j = W1 (p - 1) N i j := fun i j hi => W1_congr h hi j
  unfold plusF W2
  by_cases hj : j < p
  · rw [if_pos hj, if_pos hj, h1 i j hi]
  · rw [if_neg hj, if_neg hj, dg2_congr h1 (p - 1) (Nat.le_refl _)]

/-- an array that is 0 but for two columns -/
def two (x y : Nat) (a b : Nat → Int) (i j : Nat) : Int := if j = x then a i else if j = y then b i else 0
def col4 (a0 a1 a2 a3 : Int) : Nat → Int | 0 => a0 | 1 => a1 | 2 => a2 | _ => a3
def bin2 : List Int := [0, 1]
def chkA (p x y : Nat) (a b : Nat → Int) : Bool :=
  !((List.range (p - 1)).all fun i => (List.range (p + 1)).all fun k => (k == x) || ((k == y) || (plusF p (two x y a b) i k == 0))) ||
  (List.range (p - 1)).all fun i => (List.range (p - 1)).all fun j => two x y a b i j == 0
def chkM (p x y : Nat) : Bool := bin2.all fun a0 => bin2.all fun a1 => bin2.all fun a2 => bin2.all fun a3 => bin2.all fun b0 => bin2.all fun b1 => bin2.all fun b2 => bin2.all fun b3 => chkA p x y (col4 a0 a1 a2 a3) (col4 b0 b1 b2 b3)
theorem chkM_3 : ((List.range 4).all fun x => chkM 3 x ((x + 2) % 4)) = true := by decide +kernel
theorem chkM_5 : ((List.range 6).all fun x => chkM 5 x ((x + 2) % 6)) = true := by decide +kernel
theorem mem_bin2 {z : Int} (h : 0 ≤ z ∧ z ≤ 1) : z ∈ bin2 := by
  have : z = 0 ∨ z = 1 := by omega
  rcases this with rfl | rfl <;> simp [bin2]
theorem chkM_at {p x y : Nat} (h : chkM p x y = true) {a b : Nat → Int} (ha : ∀ i, 0 ≤ a i ∧ a i ≤ 1) (hb : ∀ i, 0 ≤ b i ∧ b i ≤ 1) : chkA p x y (col4 (a 0) (a 1) (a 2) (a 3)) (col4 (b 0) (b 1) (b 2) (b 3)) = true := by
  simp only [chkM, List.all_eq_true] at h
  exact h _ (mem_bin2 (ha 0)) _ (mem_bin2 (ha 1)) _ (mem_bin2 (ha 2)) _ (mem_bin2 (ha 3)) _ (mem_bin2 (hb 0)) _ (mem_bin2 (hb 1)) _ (mem_bin2 (hb 2)) _ (mem_bin2 (hb 3))
theorem col4_eq {a : Nat → Int} {i : Nat} (h : i < 4) : col4 (a 0) (a 1) (a 2) (a 3) i = a i := by
  match i, h with
  | 0, _ => rfl
  | 1, _ => rfl
  | 2, _ => rfl
  | 3, _ => rfl

/-- what is lost by the law -/
def lo2 (p x : Nat) : Nat := 2 ^ x ||| 2 ^ ((x + 2) % (p + 1))
theorem lo2_3 : ((List.range 4).all fun x => decide (lo2 3 x < 16) && (decide (wt (lo2 3 x) ≤ 2) && (List.range 4).all fun k => bt (lo2 3 x) k == ((k == x) || (k == (x + 2) % 4)))) = true := by decide +kernel
theorem lo2_5 : ((List.range 6).all fun x => decide (lo2 5 x < 64) && (decide (wt (lo2 5 x) ≤ 2) && (List.range 6).all fun k => bt (lo2 5 x) k == ((k == x) || (k == (x + 2) % 6)))) = true := by decide +kernel
theorem lo2_ok {p x : Nat} (hp : p = 3 ∨ p = 5) (hx : x < p + 1) : lo2 p x < 2 ^ (p + 1) ∧ wt (lo2 p x) ≤ 2 ∧ ∀ k, k < p + 1 → bt (lo2 p x) k = ((k == x) || (k == (x + 2) % (p + 1))) := by
  rcases hp with rfl | rfl
  · have h := lo2_3
    simp only [List.all_eq_true, List.mem_range, Bool.and_eq_true, decide_eq_true_eq, beq_iff_eq] at h
    obtain ⟨h1, h2, h3⟩ := h x hx
    exact ⟨h1, h2, h3⟩
  · have h := lo2_5
    simp only [List.all_eq_true, List.mem_range, Bool.and_eq_true, decide_eq_true_eq, beq_iff_eq] at h
    obtain ⟨h1, h2, h3⟩ := h x hx
    exact ⟨h1, h2, h3⟩

theorem mend_uniq {p x : Nat} (hp : p = 3 ∨ p = 5) (hx : x < p + 1) {M N : Nat → Nat → Int} (hM : Bin (p - 1) (p - 1) M) (hN : Bin (p - 1) (p - 1) N)
    (h : ∀ i, i < p - 1 → ∀ k, k < p + 1 → bt (lo2 p x) k = false → plusF p M i k = plusF p N i k) : ∀ i j, i < p - 1 → j < p - 1 → M i j = N i j := by
  obtain ⟨y, hy⟩ : ∃ y, y = (x + 2) % (p + 1) := ⟨_, rfl⟩
  have hb := (lo2_ok hp hx).2.2
  rw [← hy] at hb
  have hc : chkM p x y = true := by
    subst hy
    rcases hp with rfl | rfl
    · have h := chkM_3; rw [List.all_eq_true] at h; exact h x (List.mem_range.2 hx)
    · have h := chkM_5; rw [List.all_eq_true] at h; exact h x (List.mem_range.2 hx)
  have hd : ∀ i j, 0 ≤ dif M N i j ∧ dif M N i j ≤ 1 := fun i j => by unfold dif; omega
  have h1 := chkM_at hc (a := fun i => dif M N i x) (b := fun i => dif M N i y) (fun i => hd i x) (fun i => hd i y)
  have hlow : ∀ i j, i < p - 1 → j < p - 1 → dif M N i j = two x y (col4 (dif M N 0 x) (dif M N 1 x) (dif M N 2 x) (dif M N 3 x)) (col4 (dif M N 0 y) (dif M N 1 y) (dif M N 2 y) (dif M N 3 y)) i j := fun i j hi hj => by
    have hi4 : i < 4 := by omega
    rw [two, col4_eq (a := fun i => dif M N i x) hi4, col4_eq (a := fun i => dif M N i y) hi4]
    by_cases e1 : j = x
    · rw [if_pos e1, e1]
    · rw [if_neg e1]
      by_cases e2 : j = y
      · rw [if_pos e2, e2]
      · rw [if_neg e2]
        have h2 := h i hi j (by omega) (by rw [hb j (by omega)]; simp [e1, e2])
        rw [plusF_low hj, plusF_low hj] at h2
        unfold dif; omega
  simp only [chkA, Bool.or_eq_true, Bool.not_eq_true'] at h1
  have h3 := h1.resolve_left (by
    rw [Bool.not_eq_false]
    simp only [List.all_eq_true, List.mem_range, Bool.or_eq_true, beq_iff_eq]
    intro i hi k hk
    by_cases e1 : k = x
    · exact .inl e1
    · by_cases e2 : k = y
      · exact .inr (.inl e2)
      · refine .inr (.inr ?_)
        rw [← plus_congr hlow hi, plus_dif, h i hi k hk (by rw [hb k hk]; simp [e1, e2])]
        omega)
  simp only [List.all_eq_true, List.mem_range, beq_iff_eq] at h3
  intro i j hi hj
  have h4 := h3 i hi j hj
  rw [← hlow i j hi hj] at h4
  have h5 := hM i j hi hj
  have h6 := hN i j hi hj
  unfold dif at h4
  omega

/-- a guess with given bits -/
theorem guess_ex {c : Nat → Int} : ∀ {n : Nat}, (∀ k, k < n → 0 ≤ c k ∧ c k ≤ 1) → ∃ g, g < 2 ^ n ∧ ∀ k, k < n → gb g k = c k
  | 0, _ => ⟨0, by decide, fun k hk => absurd hk (by omega)⟩
  | n + 1, h => by
    obtain ⟨g, hg, hk⟩ := guess_ex (n := n) (fun k hk => h k (by omega))
    have hn := h n (by omega)
    have e2 : 2 ^ (n + 1) = 2 * 2 ^ n := by rw [Nat.pow_succ]; omega
    have hpos : 0 < 2 ^ n := Nat.two_pow_pos n
    have hz : c n = 0 ∨ c n = 1 := by omega
    rcases hz with hz | hz
    · refine ⟨g, by omega, fun k hk2 => ?_⟩
      by_cases e : k = n
      · subst e; rw [gb, Nat.div_eq_of_lt hg, hz]; rfl
      · exact hk k (by omega)
    · refine ⟨g + 2 ^ n, by omega, fun k hk2 => ?_⟩
      by_cases e : k = n
      · subst e
        rw [gb, Nat.add_div_right _ hpos, Nat.div_eq_of_lt hg, hz]; rfl
      · have e3 : 2 ^ n = 2 ^ k * (2 * 2 ^ (n - k - 1)) := by
          rw [← Nat.pow_succ', ← Nat.pow_add]; congr 1; omega
        rw [gb, e3, Nat.add_mul_div_left _ _ (Nat.two_pow_pos k), Nat.add_mul_mod_self_left]
        exact hk k (by omega)
theorem fillT_all {cs : List (Nat × Nat)} {g : Nat} {M N : Nat → Nat → Int} (hg : ∀ k, k < cs.length → gb g k = N (cs.getD k (0, 0)).1 (cs.getD k (0, 0)).2) (i j : Nat) : ∀ n, n ≤ cs.length → ((i, j) ∈ cs.take n → fillT cs g M n i j = N i j) ∧ (¬ (i, j) ∈ cs.take n → fillT cs g M n i j = M i j)
  | 0, _ => ⟨fun h => absurd h (by simp), fun _ => rfl⟩
  | n + 1, hn => by
    have h := fillT_all (M := M) hg i j n (by omega)
    have e : cs.take (n + 1) = cs.take n ++ [cs.getD n (0, 0)] := by
      rw [List.take_add_one]; simp [List.getD, show n < cs.length by omega]
    have hgn := hg n (by omega)
    rw [e, fillT, upd]
    generalize cs.getD n (0, 0) = c at *
    obtain ⟨a, b⟩ := c
    dsimp only at hgn ⊢
    by_cases e1 : i = a ∧ j = b
    · obtain ⟨rfl, rfl⟩ := e1
      rw [if_pos ⟨rfl, rfl⟩, hgn]
      exact ⟨fun _ => rfl, fun h => absurd (by simp) h⟩
    · rw [if_neg e1]
      have : ((i, j) ∈ cs.take n ++ [(a, b)]) ↔ (i, j) ∈ cs.take n := by
        rw [List.mem_append, List.mem_singleton]
        exact ⟨fun h => h.resolve_right (fun h2 => e1 (by injection h2 with h3 h4; exact ⟨h3, h4⟩)), .inl⟩
      rw [this]
      exact h
theorem clT_has {q s i j : Nat} (hi : i < q) (hj : j < q) (hb : bt s j = true) : (i, j) ∈ clT q s (q * q) := by
  rw [clT, List.mem_map]
  refine ⟨i * q + j, ?_, ?_⟩
  · rw [List.mem_filter, List.mem_range, (at_div hj).2]
    refine ⟨?_, hb⟩
    have : i * q + q ≤ q * q := by rw [← Nat.succ_mul]; exact Nat.mul_le_mul_right q hi
    omega
  · rw [(at_div hj).1, (at_div hj).2]
/-- an array with two columns more, some lost, is mended to itself, if it alone fits -/
theorem mend_back {p x : Nat} (hp : p = 3 ∨ p = 5) (hx : x < p + 1) {N : Nat → Nat → Int} (hN : Bin (p - 1) (p - 1) N) :
    ∃ g, mendG p (lo2 p x) (plusF p N) = some g ∧ ∀ i j, i < p - 1 → j < p - 1 → fillA p (lo2 p x) g (plusF p N) i j = N i j := by
  generalize hs : lo2 p x = s at *
  have hq : 0 < p - 1 := by omega
  obtain ⟨cs, hcs⟩ : ∃ cs, cs = clT (p - 1) s ((p - 1) * (p - 1)) := ⟨_, rfl⟩
  have hin : ∀ k, k < cs.length → (cs.getD k (0, 0)).1 < p - 1 ∧ (cs.getD k (0, 0)).2 < p - 1 := fun k hk => by
    have hm : cs.getD k (0, 0) ∈ cs := by
      simp only [List.getD, List.getElem?_eq_getElem hk, Option.getD_some]
      exact List.getElem_mem _
    rw [hcs] at hm
    have := clT_mem hq hm
    rw [← hcs] at this
    exact ⟨this.2.2.2 (Nat.le_refl _), this.1⟩
  obtain ⟨g, hg, hgb⟩ := guess_ex (c := fun k => N (cs.getD k (0, 0)).1 (cs.getD k (0, 0)).2) (n := cs.length) (fun k hk => hN _ _ (hin k hk).1 (hin k hk).2)
  have hfill : ∀ i j, i < p - 1 → j < p - 1 → fillA p s g (plusF p N) i j = N i j := fun i j hi hj => by
    rw [fillA, ← hcs]
    have h := fillT_all (M := plusF p N) hgb i j cs.length (Nat.le_refl _)
    rw [List.take_length] at h
    by_cases hm : (i, j) ∈ cs
    · exact h.1 hm
    · rw [h.2 hm, plusF_low hj]
  have hok : okT p s (plusF p N) (fillA p s g (plusF p N)) = true := okT_true.2 fun i hi k hk _ => plus_congr hfill hi k
  have hlt : g < cap2 p s := by rw [cap2, ← hcs]; exact hg
  obtain ⟨g0, hg0⟩ : ∃ g0, mendG p s (plusF p N) = some g0 := by
    cases h : mendG p s (plusF p N) with
    | some g0 => exact ⟨g0, rfl⟩
    | none =>
      rw [mendG, List.find?_eq_none] at h
      exact absurd hok (h g (List.mem_range.2 hlt))
  refine ⟨g0, hg0, ?_⟩
  have hok0 : okT p s (plusF p N) (fillA p s g0 (plusF p N)) = true := by
    have := List.find?_some hg0
    exact this
  have hbin : Bin (p - 1) (p - 1) (fillA p s g0 (plusF p N)) := by
    refine fillT_bin (fun i j hi hj => ?_) _
    rw [plusF_low hj]; exact hN i j hi hj
  subst hs
  exact mend_uniq hp hx hbin hN fun i hi k hk hb => okT_true.1 hok0 i hi k hk hb
end Go.Proofs.Ytkalecdjcdgodaa
