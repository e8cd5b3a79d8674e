/-
  Possible secrets, plain: rows either add up to a goal, or a list tells them apart; what follows for the lists that fit. No conditions: nothing is claimed of the program here.
  Possible secrets, plain: the lists over a prime in order, how many of each secret fit, and that a group that does not know cannot tell them apart. No conditions: nothing is claimed of the program here.
-/
import Derived.Test.YtcalfblghblhcaaKnowPlain
namespace Go.Proofs.Ytcalfblghblhcaa
open Go.RowKit

/-- the digits of t over p, k of them, the first weighs most -/
def dgs (p : Nat) : Nat → Nat → List Int | 0, _ => [] | k + 1, t => dgs p k (t / p) ++ [((t % p : Nat) : Int)]
theorem dgs_len (p : Nat) : ∀ k t, (dgs p k t).length = k
  | 0, _ => rfl
  | k + 1, t => by rw [dgs, List.length_append, dgs_len p k]; rfl
theorem dgs_bd {p : Nat} (hp : 0 < p) : ∀ k t, ∀ y ∈ dgs p k t, 0 ≤ y ∧ y < p
  | 0, _, y, h => absurd h (by simp [dgs])
  | k + 1, t, y, h => by
    rw [dgs, List.mem_append, List.mem_singleton] at h
    rcases h with h | h
    · exact dgs_bd hp k _ y h
    · have := Nat.mod_lt t hp
      subst h; omega
theorem dgs_cons {p : Nat} (hp : 0 < p) : ∀ k a r, a < p → r < p ^ k → dgs p (k + 1) (a * p ^ k + r) = ((a : Nat) : Int) :: dgs p k r
  | 0, a, r, ha, hr => by
    have : r = 0 := by simpa using hr
    subst this
    simp [dgs, Nat.mod_eq_of_lt ha]
  | k + 1, a, r, ha, hr => by
    have e1 : a * p ^ (k + 1) + r = p * (a * p ^ k) + r := by rw [Nat.pow_succ]; congr 1; rw [← Nat.mul_assoc, Nat.mul_comm]
    have h1 : (a * p ^ (k + 1) + r) / p = a * p ^ k + r / p := by rw [e1, Nat.mul_add_div hp]
    have h2 : (a * p ^ (k + 1) + r) % p = r % p := by rw [e1, Nat.mul_add_mod]
    have h3 : r / p < p ^ k := Nat.div_lt_of_lt_mul (by rw [Nat.mul_comm, ← Nat.pow_succ]; exact hr)
    rw [dgs, h1, h2, dgs_cons hp k a (r / p) ha h3, List.cons_append]
    rfl

/-- a sum over the first numbers -/
def sm (F : Nat → Nat) : Nat → Nat | 0 => 0 | t + 1 => sm F t + F t
theorem sm_congr {F G : Nat → Nat} : ∀ {n}, (∀ i, i < n → F i = G i) → sm F n = sm G n
  | 0, _ => rfl
  | n + 1, h => by rw [sm, sm, sm_congr (fun i hi => h i (by omega)), h n (by omega)]
theorem sm_add (F : Nat → Nat) (a : Nat) : ∀ b, sm F (a + b) = sm F a + sm (fun r => F (a + r)) b
  | 0 => rfl
  | b + 1 => by rw [← Nat.add_assoc, sm, sm_add F a b, sm]; omega
theorem sm_mul (F : Nat → Nat) (q : Nat) : ∀ a, sm F (a * q) = sm (fun i => sm (fun r => F (i * q + r)) q) a
  | 0 => by simp [sm]
  | a + 1 => by rw [Nat.succ_mul, sm_add, sm_mul F q a, sm]
theorem sm_zero {F : Nat → Nat} : ∀ {n}, (∀ i, i < n → F i = 0) → sm F n = 0
  | 0, _ => rfl
  | n + 1, h => by rw [sm, sm_zero (fun i hi => h i (by omega)), h n (by omega)]
theorem sm_one {F : Nat → Nat} {x : Nat} : ∀ {n}, x < n → (∀ i, i < n → i ≠ x → F i = 0) → sm F n = F x
  | 0, h, _ => absurd h (by omega)
  | n + 1, h, h0 => by
    rw [sm]
    by_cases e : x = n
    · subst e
      rw [sm_zero (fun i hi => h0 i (by omega) (by omega)), Nat.zero_add]
    · rw [sm_one (by omega) (fun i hi => h0 i (by omega)), h0 n (by omega) (fun h => e h.symm), Nat.add_zero]
theorem sm_cyc {p c : Nat} (hp : p = 2 ∨ p = 3 ∨ p = 5 ∨ p = 7) (hc : c < p) (G : Nat → Nat) : sm G p = sm (fun a => G ((a + c) % p)) p := by
  rcases hp with rfl | rfl | rfl | rfl
  · match c, hc with
    | 0, _ => simp [sm]
    | 1, _ => simp [sm]; omega
  · match c, hc with
    | 0, _ => simp [sm]
    | 1, _ => simp [sm]; omega
    | 2, _ => simp [sm]; omega
  · match c, hc with
    | 0, _ => simp [sm]
    | 1, _ => simp [sm]; omega
    | 2, _ => simp [sm]; omega
    | 3, _ => simp [sm]; omega
    | 4, _ => simp [sm]; omega
  · match c, hc with
    | 0, _ => simp [sm]
    | 1, _ => simp [sm]; omega
    | 2, _ => simp [sm]; omega
    | 3, _ => simp [sm]; omega
    | 4, _ => simp [sm]; omega
    | 5, _ => simp [sm]; omega
    | 6, _ => simp [sm]; omega

def one0 (b : Bool) : Nat := if b then 1 else 0
/-- how many lists of k numbers below p fit -/
def cn (p : Nat) : Nat → (List Int → Bool) → Nat | 0, P => one0 (P []) | k + 1, P => sm (fun a => cn p k (fun l => P (((a : Nat) : Int) :: l))) p
theorem cn_congr {p : Nat} : ∀ {k} {P Q : List Int → Bool}, (∀ l, l.length = k → (∀ y : Int, y ∈ l → 0 ≤ y ∧ y < (p : Int)) → P l = Q l) → cn p k P = cn p k Q
  | 0, P, Q, h => by rw [cn, cn, h [] rfl (by simp)]
  | k + 1, P, Q, h => by
    rw [cn, cn]
    refine sm_congr fun a ha => cn_congr fun l hl hy => h _ (by simp [hl]) (fun y hm => ?_)
    rw [List.mem_cons] at hm
    rcases hm with rfl | hm
    · omega
    · exact hy y hm
theorem cn_sm {p : Nat} (hp : 0 < p) : ∀ k (P : List Int → Bool), sm (fun t => one0 (P (dgs p k t))) (p ^ k) = cn p k P
  | 0, P => by simp [sm, cn, dgs]
  | k + 1, P => by
    rw [Nat.pow_succ, Nat.mul_comm, sm_mul, cn]
    refine sm_congr fun a ha => ?_
    rw [← cn_sm hp k]
    refine sm_congr fun r hr => ?_
    rw [dgs_cons hp k a r ha hr]
/-- a list moved by another one -/
def shl (p : Nat) (l v : List Int) : List Int := List.zipWith (fun a b => (a + b) % p) l v
theorem cn_shift {p : Nat} (hp : p = 2 ∨ p = 3 ∨ p = 5 ∨ p = 7) : ∀ (v : List Int) (P : List Int → Bool), cn p v.length (fun l => P (shl p l v)) = cn p v.length P
  | [], P => rfl
  | b :: v, P => by
    have hp0 : (p : Int) ≠ 0 := by omega
    have hb0 := Int.emod_nonneg b hp0
    have hb1 := Int.emod_lt_of_pos b (show (0 : Int) < p by omega)
    obtain ⟨c, hc⟩ := Int.eq_ofNat_of_zero_le hb0
    rw [List.length_cons, cn, cn, sm_cyc hp (show c < p by omega) (fun a => cn p v.length (fun l => P (((a : Nat) : Int) :: l)))]
    refine sm_congr fun a _ => ?_
    have e : ((((a + c) % p : Nat)) : Int) = ((a : Int) + b) % p := by
      push_cast
      rw [← hc, Int.add_emod_emod]
    rw [e]
    exact cn_shift hp v (fun l => P ((((a : Int) + b) % p) :: l))

/-- how many of the first T lists fit and begin with x -/
def pct (p k : Nat) (P : List Int → Bool) (x T : Nat) : Nat := sm (fun t => one0 (P (dgs p k t) && ((dgs p k t).getD 0 0 == ((x : Nat) : Int)))) T
theorem pct_cn {p k : Nat} (hp : 0 < p) (P : List Int → Bool) {x : Nat} (hx : x < p) : pct p (k + 1) P x (p ^ (k + 1)) = cn p k (fun l => P (((x : Nat) : Int) :: l)) := by
  rw [pct, Nat.pow_succ, Nat.mul_comm, sm_mul, ← cn_sm hp k]
  rw [sm_one (x := x) hx]
  · refine sm_congr fun r hr => ?_
    rw [dgs_cons hp k x r hx hr]; simp
  · intro i hi hne
    refine sm_zero fun r hr => ?_
    rw [dgs_cons hp k i r hi hr]
    have : (((i : Nat) : Int) == ((x : Nat) : Int)) = false := by simp; omega
    simp only [List.getD_cons_zero, this, Bool.and_false]
    rfl
end Go.Proofs.Ytcalfblghblhcaa
namespace Go.Proofs.Ytcalfblghblhcaa
open Go.RowKit

theorem dsum_add (f a b : Nat → Int) (t : Int) : ∀ n, dsum f (fun k => a k + t * b k) n = dsum f a n + t * dsum f b n
  | 0 => by simp [dsum]
  | n + 1 => by
    rw [dsum, dsum, dsum, dsum_add f a b t n, Int.mul_add, Int.mul_add, Int.mul_left_comm (f n) t (b n)]
    omega
theorem dsum_addl (a b g : Nat → Int) (t : Int) : ∀ n, dsum (fun k => a k + t * b k) g n = dsum a g n + t * dsum b g n
  | 0 => by simp [dsum]
  | n + 1 => by
    rw [dsum, dsum, dsum, dsum_addl a b g t n, Int.add_mul, Int.mul_add, Int.mul_assoc]
    omega
theorem dsum_congr {f g a b : Nat → Int} : ∀ {n : Nat}, (∀ k, k < n → f k = g k) → (∀ k, k < n → a k = b k) → dsum f a n = dsum g b n
  | 0, _, _ => rfl
  | n + 1, h, h2 => by rw [dsum, dsum, dsum_congr (fun k hk => h k (by omega)) (fun k hk => h2 k (by omega)), h n (by omega), h2 n (by omega)]
theorem dsum_mod {p : Int} {f g a b : Nat → Int} : ∀ {n : Nat}, (∀ k, k < n → p ∣ f k - g k) → (∀ k, k < n → p ∣ a k - b k) → p ∣ dsum f a n - dsum g b n
  | 0, _, _ => by simp [dsum]
  | n + 1, h, h2 => by
    rw [dsum, dsum]
    have h3 := dsum_mod (fun k hk => h k (by omega)) (fun k hk => h2 k (by omega)) (n := n)
    have h4 : p ∣ (f n - g n) * a n + g n * (a n - b n) := Int.dvd_add (dvd_l (h n (by omega)) _) (dvd_r _ (h2 n (by omega)))
    have e : dsum f a n + f n * a n - (dsum g b n + g n * b n) = (dsum f a n - dsum g b n) + ((f n - g n) * a n + g n * (a n - b n)) := by rw [Int.sub_mul, Int.mul_sub]; omega
    rw [e]
    exact Int.dvd_add h3 h4
theorem dsum_unit {g : Nat → Int} {k0 : Nat} : ∀ {n}, k0 < n → dsum g (fun k => if k = k0 then 1 else 0) n = g k0
  | 0, h => absurd h (by omega)
  | n + 1, h => by
    rw [dsum]
    by_cases e : k0 = n
    · subst e
      have : ∀ m, m ≤ k0 → dsum g (fun k => if k = k0 then 1 else 0) m = 0 := by
        intro m
        induction m with
        | zero => exact fun _ => rfl
        | succ m ih => intro hm; rw [dsum, ih (by omega), if_neg (by omega)]; omega
      rw [this k0 (Nat.le_refl _), if_pos rfl]; omega
    · rw [dsum_unit (by omega), if_neg (fun h => e h.symm)]; omega
/-- rows add up to the goal, or a list tells the goal from them -/
theorem fredholm {p : Int} (hp : isP p = true) {m : Nat} {R : Nat → Nat → Int} : ∀ (n : Nat) (g : Nat → Int), Spn p m R n g ∨ ∃ v : Nat → Int, (∀ j, j < n → p ∣ dsum (R j) v m) ∧ ¬ p ∣ dsum g v m
  | 0, g => by
    by_cases h : ∀ k, k < m → p ∣ g k
    · exact .inl (Spn.zero p m R 0 h)
    · have : ∃ k, k < m ∧ ¬ p ∣ g k := Classical.byContradiction fun hh => h fun k hk => Classical.byContradiction fun h2 => hh ⟨k, hk, h2⟩
      obtain ⟨k, hk, h2⟩ := this
      exact .inr ⟨fun i => if i = k then 1 else 0, fun j hj => absurd hj (by omega), by rw [dsum_unit hk]; exact h2⟩
  | n + 1, g => by
    rcases fredholm hp n g with h | ⟨v, h1, h2⟩
    · exact .inl h.mono
    by_cases hn : p ∣ dsum (R n) v m
    · exact .inr ⟨v, fun j hj => by
        by_cases e : j = n
        · subst e; exact hn
        · exact h1 j (by omega), h2⟩
    obtain ⟨y, hy⟩ := prime_inv hp hn
    rcases fredholm hp n (fun k => g k + (-(dsum g v m * y)) * R n k) with h | ⟨u, u1, u2⟩
    · refine .inl (Spn.add h.mono (Spn.row (i := n) (by omega)) (t := dsum g v m * y) fun k _ => ?_)
      have e : g k - (g k + -(dsum g v m * y) * R n k + dsum g v m * y * R n k) = 0 := by rw [Int.neg_mul]; omega
      rw [e]; exact Int.dvd_zero p
    · refine .inr ⟨fun k => u k + (-(dsum (R n) u m * y)) * v k, fun j hj => ?_, fun hd => u2 ?_⟩
      · rw [dsum_add]
        by_cases e : j = n
        · subst e
          have h3 := dvd_r (-(dsum (R j) u m)) hy
          generalize dsum (R j) v m = d at *
          generalize dsum (R j) u m = b at *
          have e : b + -(b * y) * d = -b * (d * y - 1) := by
            rw [Int.mul_sub, Int.neg_mul, Int.neg_mul, Int.mul_assoc, Int.mul_comm y d, Int.neg_mul]; omega
          rw [e]; exact h3
        · exact Int.dvd_add (u1 j (by omega)) (dvd_r _ (h1 j (by omega)))
      · rw [dsum_add] at hd
        rw [dsum_addl]
        generalize dsum (R n) u m = b at *
        generalize dsum g v m = d at *
        have e : dsum g u m + -(d * y) * b = dsum g u m + -(b * y) * d := by
          rw [Int.neg_mul, Int.neg_mul, Int.mul_assoc, Int.mul_assoc, Int.mul_comm d (y * b), Int.mul_comm b (y * d), Int.mul_assoc, Int.mul_assoc, Int.mul_comm b d]
        rw [e]; exact hd

/-- a list as a function -/
def lf (l : List Int) (k : Nat) : Int := l.getD k 0
/-- the list fits the shares of the group -/
def fitB (p : Int) (n m : Nat) (M : Nat → Nat → Int) (f : Nat → Int) (s : Nat) (h : Nat → Int) (l : List Int) : Bool := decide (∀ i, i < n → bt s (f i).toNat = true → dsum (M i) (lf l) m % p = h i)
theorem fit_true {p : Int} {n m : Nat} {M : Nat → Nat → Int} {f h : Nat → Int} {s : Nat} {l : List Int} : fitB p n m M f s h l = true ↔ ∀ i, i < n → bt s (f i).toNat = true → dsum (M i) (lf l) m % p = h i := by simp [fitB]
/-- if the group knows, all lists that fit begin alike -/
theorem fit_known {p : Int} (hp : isP p = true) {n m : Nat} (hm : 1 ≤ m) {M : Nat → Nat → Int} {f h : Nat → Int} {s : Nat} (hk : knB p n m M f s = true) : ∃ x, ∀ l, fitB p n m M f s h l = true → p ∣ lf l 0 - x := by
  rw [kn_spn hp] at hk
  obtain ⟨c, hc⟩ := hk
  generalize hN : (ownL f s n).length = N at *
  refine ⟨lc c (fun j _ => h ((ownL f s n).getD j 0)) 0 N, fun l hl => ?_⟩
  rw [fit_true] at hl
  -- the sum of the rows, times the list
  have key : ∀ j, j ≤ N → p ∣ dsum (fun k => lc c (gR M f s n) k j) (lf l) m - lc c (fun j _ => h ((ownL f s n).getD j 0)) 0 j := by
    intro j
    induction j with
    | zero =>
      intro _
      have : dsum (fun k => lc c (gR M f s n) k 0) (lf l) m = dsum (fun _ => 0) (lf l) m := rfl
      rw [this]
      have hz : ∀ t, dsum (fun _ => (0 : Int)) (lf l) t = 0 := by
        intro t; induction t with
        | zero => rfl
        | succ t ih => rw [dsum, ih]; simp
      rw [hz, lc]; exact Int.dvd_zero p
    | succ j ih =>
      intro hj
      have e1 : dsum (fun k => lc c (gR M f s n) k (j + 1)) (lf l) m = dsum (fun k => lc c (gR M f s n) k j) (lf l) m + c j * dsum (gR M f s n j) (lf l) m := by
        rw [← dsum_addl]; rfl
      obtain ⟨a1, a2⟩ := ownL_at (f := f) (s := s) (n := n) (j := j) (by omega)
      have h2 := hl _ a1 a2
      have h3 : p ∣ dsum (gR M f s n j) (lf l) m - h ((ownL f s n).getD j 0) := by
        rw [← h2]; exact sub_emod_dvd _ _
      have h4 := Int.dvd_add (ih (by omega)) (dvd_r (c j) h3)
      rw [e1, lc]
      have e : dsum (fun k => lc c (gR M f s n) k j) (lf l) m + c j * dsum (gR M f s n j) (lf l) m - (lc c (fun j _ => h ((ownL f s n).getD j 0)) 0 j + c j * h ((ownL f s n).getD j 0)) = dsum (fun k => lc c (gR M f s n) k j) (lf l) m - lc c (fun j _ => h ((ownL f s n).getD j 0)) 0 j + c j * (dsum (gR M f s n j) (lf l) m - h ((ownL f s n).getD j 0)) := by rw [Int.mul_sub]; omega
      rw [e]; exact h4
  have h1 := key N (Nat.le_refl N)
  have h2 : p ∣ dsum (fun k => lc c (gR M f s n) k N) (lf l) m - dsum unitF (lf l) m := dsum_mod (fun k hk => hc k hk) (fun k _ => by rw [Int.sub_self]; exact Int.dvd_zero p)
  have h3 : dsum unitF (lf l) m = lf l 0 := by
    have e := dsum_unit (g := lf l) (k0 := 0) (n := m) (by omega)
    have comm : ∀ t, dsum unitF (lf l) t = dsum (lf l) (fun k => if k = 0 then 1 else 0) t := by
      intro t; induction t with
      | zero => rfl
      | succ t ih => rw [dsum, dsum, ih, Int.mul_comm]; rfl
    rw [comm, e]
  rw [h3] at h2
  have := Int.dvd_sub h1 h2
  generalize dsum (fun k => lc c (gR M f s n) k N) (lf l) m = A at *
  generalize lc c (fun j _ => h ((ownL f s n).getD j 0)) 0 N = B at *
  have e : A - B - (A - lf l 0) = lf l 0 - B := by omega
  rwa [e] at this
/-- if it does not, a list moves each secret by 1 and fits nothing less -/
theorem fit_move {p : Int} (hp : isP p = true) {n m : Nat} (hm : 1 ≤ m) {M : Nat → Nat → Int} {f : Nat → Int} {s : Nat} (hk : knB p n m M f s = false) : ∃ v : Nat → Int, p ∣ v 0 - 1 ∧ ∀ i, i < n → bt s (f i).toNat = true → p ∣ dsum (M i) v m := by
  rcases fredholm hp (ownL f s n).length unitF (R := gR M f s n) (m := m) with h | ⟨v, h1, h2⟩
  · rw [(kn_spn hp).2 h] at hk; cases hk
  · have h3 : dsum unitF v m = v 0 := by
      have e := dsum_unit (g := v) (k0 := 0) (n := m) (by omega)
      have comm : ∀ t, dsum unitF v t = dsum v (fun k => if k = 0 then 1 else 0) t := by
        intro t; induction t with
        | zero => rfl
        | succ t ih => rw [dsum, dsum, ih, Int.mul_comm]; rfl
      rw [comm, e]
    rw [h3] at h2
    obtain ⟨y, hy⟩ := prime_inv hp h2
    refine ⟨fun k => 0 + y * v k, ?_, fun i hi hb => ?_⟩
    · dsimp only
      rw [Int.zero_add, Int.mul_comm]; exact hy
    · have e := dsum_add (M i) (fun _ => 0) v y m
      rw [e]
      obtain ⟨j, hj, ej⟩ := ownL_ix hi hb
      have h4 := h1 j hj
      rw [gR, ej] at h4
      have hz : ∀ t, dsum (M i) (fun _ => 0) t = 0 := by
        intro t; induction t with
        | zero => rfl
        | succ t ih => rw [dsum, ih]; simp
      rw [hz, Int.zero_add]
      exact dvd_r y h4

theorem getD_zip {p : Nat} : ∀ (l v : List Int) (k : Nat), k < l.length → l.length = v.length → (shl p l v).getD k 0 = (l.getD k 0 + v.getD k 0) % p
  | [], _, k, h, _ => absurd h (by simp)
  | a :: l, [], _, _, h2 => by simp at h2
  | a :: l, b :: v, 0, _, _ => rfl
  | a :: l, b :: v, k + 1, h, h2 => by
    simp only [shl, List.zipWith_cons_cons, List.getD_cons_succ]
    exact getD_zip l v k (by simpa using h) (by simpa using h2)
/-- how many lists of each secret fit -/
def psN (P n m : Nat) (M : Nat → Nat → Int) (f : Nat → Int) (s : Nat) (h : Nat → Int) (x : Nat) : Nat := pct P m (fitB P n m M f s h) x (P ^ m)
theorem ps_cn {P n k : Nat} (hp : 0 < P) {M : Nat → Nat → Int} {f h : Nat → Int} {s x : Nat} (hx : x < P) : psN P n (k + 1) M f s h x = cn P k (fun l => fitB P n (k + 1) M f s h (((x : Nat) : Int) :: l)) := pct_cn hp _ hx
theorem isP_nat {P : Nat} (hp : isP P = true) : P = 2 ∨ P = 3 ∨ P = 5 ∨ P = 7 := by
  rcases isP_true.1 hp with h | h | h | h <;> omega
theorem ps_next {P n m : Nat} (hp : isP P = true) (hm : 1 ≤ m) {M : Nat → Nat → Int} {f h : Nat → Int} {s : Nat} (hk : knB P n m M f s = false) {x : Nat} (hx : x + 1 < P) : psN P n m M f s h (x + 1) = psN P n m M f s h x := by
  obtain ⟨v, hv0, hv⟩ := fit_move hp hm hk
  obtain ⟨k, rfl⟩ : ∃ k, m = k + 1 := ⟨m - 1, by omega⟩
  rw [ps_cn (by omega) hx, ps_cn (by omega) (by omega)]
  have hl : ((List.range k).map fun j => v (j + 1)).length = k := by simp
  have h1 := cn_shift (isP_nat hp) ((List.range k).map fun j => v (j + 1)) (fun l => fitB P n (k + 1) M f s h ((((x + 1 : Nat)) : Int) :: l))
  rw [hl] at h1
  rw [← h1]
  refine cn_congr fun l hll hly => ?_
  rw [Bool.eq_iff_iff, fit_true, fit_true]
  have key : ∀ i, i < n → bt s (f i).toNat = true → dsum (M i) (lf ((((x + 1 : Nat)) : Int) :: shl P l ((List.range k).map fun j => v (j + 1)))) (k + 1) % (P : Int) = dsum (M i) (lf (((x : Nat) : Int) :: l)) (k + 1) % (P : Int) := fun i hi hb => by
    have h2 := hv i hi hb
    have h3 : (P : Int) ∣ dsum (M i) (lf ((((x + 1 : Nat)) : Int) :: shl P l ((List.range k).map fun j => v (j + 1)))) (k + 1) - dsum (M i) (fun q => lf (((x : Nat) : Int) :: l) q + 1 * v q) (k + 1) := by
      refine dsum_mod (fun q _ => by rw [Int.sub_self]; exact Int.dvd_zero _) (fun q hq => ?_)
      match q, hq with
      | 0, _ =>
        simp only [lf, List.getD_cons_zero]
        have e : (((x + 1 : Nat)) : Int) - ((x : Int) + 1 * v 0) = -(v 0 - 1) := by push_cast; omega
        rw [e]; exact (Int.dvd_neg).2 hv0
      | q + 1, hq =>
        simp only [lf, List.getD_cons_succ]
        rw [getD_zip l _ q (by omega) (by rw [hl, hll])]
        have e2 : ((List.range k).map fun j => v (j + 1)).getD q 0 = v (q + 1) := by simp [List.getD, show q < k by omega]
        rw [e2, Int.one_mul]
        exact emod_dvd_sub _ _
    rw [dsum_add, Int.one_mul] at h3
    have h4 := Int.dvd_add h3 h2
    generalize dsum (M i) v (k + 1) = b at *
    generalize dsum (M i) (lf (((x : Nat) : Int) :: l)) (k + 1) = c at *
    generalize dsum (M i) (lf ((((x + 1 : Nat)) : Int) :: shl P l ((List.range k).map fun j => v (j + 1)))) (k + 1) = a at *
    have e : a - (c + b) + b = a - c := by omega
    rw [e] at h4
    exact emod_same h4
  exact ⟨fun h i hi hb => by rw [← key i hi hb]; exact h i hi hb, fun h i hi hb => by rw [key i hi hb]; exact h i hi hb⟩
theorem ps_same {P n m : Nat} (hp : isP P = true) (hm : 1 ≤ m) {M : Nat → Nat → Int} {f h : Nat → Int} {s : Nat} (hk : knB P n m M f s = false) : ∀ x, x < P → psN P n m M f s h x = psN P n m M f s h 0
  | 0, _ => rfl
  | x + 1, hx => by rw [ps_next hp hm hk hx, ps_same hp hm hk x (by omega)]
theorem cn_none {p : Nat} : ∀ {k} {P : List Int → Bool}, (∀ l, P l = false) → cn p k P = 0
  | 0, P, h => by rw [cn, h []]; rfl
  | k + 1, P, h => by rw [cn]; exact sm_zero fun a _ => cn_none fun l => h _
/-- if the group knows, there is one secret alone -/
theorem ps_known {P n m : Nat} (hp : isP P = true) (hm : 1 ≤ m) {M : Nat → Nat → Int} {f h : Nat → Int} {s : Nat} (hk : knB P n m M f s = true) : ∃ x0 : Nat, ∀ x, x < P → x ≠ x0 → psN P n m M f s h x = 0 := by
  obtain ⟨y, hy⟩ := fit_known (h := h) hp hm hk
  have hpb := isP_pos hp
  obtain ⟨k, rfl⟩ : ∃ k, m = k + 1 := ⟨m - 1, by omega⟩
  have h0 := Int.emod_nonneg y (show (P : Int) ≠ 0 by omega)
  have h1 := Int.emod_lt_of_pos y (show (0 : Int) < P by omega)
  refine ⟨(y % P).toNat, fun x hx hne => ?_⟩
  rw [ps_cn (by omega) hx]
  refine cn_none fun l => ?_
  rw [← Bool.not_eq_true]
  intro hf
  have h2 := hy _ hf
  simp only [lf, List.getD_cons_zero] at h2
  have h3 : (P : Int) ∣ y - y % P := sub_emod_dvd _ _
  have h4 := Int.dvd_add h2 h3
  have e : (x : Int) - y + (y - y % P) = (x : Int) - y % P := by omega
  rw [e] at h4
  have h5 := small_dvd h4 (by omega) (by omega)
  omega
end Go.Proofs.Ytcalfblghblhcaa
