/-
  Flows, the plain part: the first way, what is sent on it, and that what flows in the end is the least cut. No conditions: nothing is claimed of the program here.
-/
import Derived.Test.YtecmihmopiepfaaCut
namespace Go.Proofs.Ytecmihmopiepfaa
open Go.RowKit

/-- the first of F 0, F 1 .. that is not empty -/
def firstW (F : Nat → List Nat) : Nat → List Nat | 0 => [] | j + 1 => if (firstW F j).isEmpty then F j else firstW F j
theorem firstW_nil {F : Nat → List Nat} : ∀ {n}, (∀ j, j < n → F j = []) → firstW F n = []
  | 0, _ => rfl
  | n + 1, h => by
    have := firstW_nil (F := F) (n := n) (fun j hj => h j (by omega))
    simp [firstW, this, h n (by omega)]
theorem firstW_inv {F : Nat → List Nat} : ∀ {n}, firstW F n = [] → ∀ j, j < n → F j = []
  | 0, _, j, hj => absurd hj (by omega)
  | n + 1, h, j, hj => by
    simp only [firstW] at h
    split at h
    · rename_i h1
      by_cases e : j = n
      · subst e; exact h
      · exact firstW_inv (by simpa using h1) j (by omega)
    · rename_i h1
      rw [h] at h1
      simp at h1
theorem firstW_at {F : Nat → List Nat} : ∀ {n b}, (∀ j, j < b → F j = []) → F b ≠ [] → b < n → firstW F n = F b
  | 0, b, _, _, hb => absurd hb (by omega)
  | n + 1, b, h, h1, hb => by
    simp only [firstW]
    by_cases e : b = n
    · subst e
      rw [firstW_nil h]; rfl
    · rw [firstW_at h h1 (show b < n by omega)]
      rw [if_neg (by simpa using h1)]
theorem firstW_one {F : Nat → List Nat} : ∀ {n}, firstW F n ≠ [] → ∃ b, b < n ∧ F b ≠ [] ∧ firstW F n = F b
  | 0, h => absurd rfl h
  | n + 1, h => by
    simp only [firstW] at h ⊢
    split
    · rename_i h1
      rw [if_pos h1] at h
      exact ⟨n, by omega, h, rfl⟩
    · rename_i h1
      rw [if_neg h1] at h
      obtain ⟨b, hb, h2, h3⟩ := firstW_one h
      exact ⟨b, by omega, h2, h3⟩

/-- the last number of a list -/
def lastN (g : List Nat) : Nat := g.getD (g.length - 1) 0
theorem lastN_snoc (g : List Nat) (b : Nat) : lastN (g ++ [b]) = b := by simp [lastN, List.getD]
/-- the first way that goes on from g -/
def wayF (n to : Nat) (C : Nat → Nat → Int) : Nat → List Nat → List Nat
  | 0, _ => []
  | k + 1, g => if lastN g = to then g else firstW (fun b => if b ∈ g ∨ C (lastN g) b ≤ 0 then [] else wayF n to C k (g ++ [b])) n

/-- more may flow on each step -/
def Pth (C : Nat → Nat → Int) (l : List Nat) : Prop := ∀ i, i + 1 < l.length → 0 < C (l.getD i 0) (l.getD (i + 1) 0)
/-- a way of different points, all below n -/
structure Smp (n : Nat) (C : Nat → Nat → Int) (l : List Nat) : Prop where
  path : Pth C l
  nodup : l.Nodup
  lt : ∀ x ∈ l, x < n
  ne : l ≠ []
theorem getD_snoc_lt {g : List Nat} {b i : Nat} (h : i < g.length) : (g ++ [b]).getD i 0 = g.getD i 0 := by simp [List.getD, List.getElem?_append_left h]
theorem getD_snoc_len {g : List Nat} {b : Nat} : (g ++ [b]).getD g.length 0 = b := by simp [List.getD]
theorem Smp.snoc {n : Nat} {C : Nat → Nat → Int} {g : List Nat} {b : Nat} (h : Smp n C g) (hb : b < n) (hn : b ∉ g) (hc : 0 < C (lastN g) b) : Smp n C (g ++ [b]) := by
  refine ⟨fun i hi => ?_, ?_, fun x hx => ?_, by simp⟩
  · simp only [List.length_append, List.length_singleton] at hi
    by_cases e : i + 1 = g.length
    · rw [getD_snoc_lt (by omega), e, getD_snoc_len]
      have : i = g.length - 1 := by omega
      rw [this]; exact hc
    · rw [getD_snoc_lt (by omega), getD_snoc_lt (by omega)]
      exact h.path i (by omega)
  · rw [List.nodup_append]
    exact ⟨h.nodup, by simp, fun a ha c hc => by simp at hc; subst hc; exact fun e => hn (e ▸ ha)⟩
  · rw [List.mem_append, List.mem_singleton] at hx
    rcases hx with hx | rfl
    · exact h.lt x hx
    · exact hb
theorem wayF_smp {n to : Nat} {C : Nat → Nat → Int} : ∀ k g, Smp n C g → wayF n to C k g ≠ [] → Smp n C (wayF n to C k g) ∧ lastN (wayF n to C k g) = to ∧ (wayF n to C k g).getD 0 0 = g.getD 0 0
  | 0, g, _, h => absurd rfl h
  | k + 1, g, hg, h => by
    simp only [wayF] at h ⊢
    split
    · rename_i e
      exact ⟨hg, e, rfl⟩
    · rename_i e
      rw [if_neg e] at h
      obtain ⟨b, hb, h1, h2⟩ := firstW_one h
      rw [h2]
      split at h1
      · exact absurd rfl h1
      · rename_i h3
        rw [if_neg h3]
        rw [not_or] at h3
        obtain ⟨a1, a2, a3⟩ := wayF_smp k (g ++ [b]) (hg.snoc hb h3.1 (by omega)) h1
        refine ⟨a1, a2, a3.trans ?_⟩
        have hl : 0 < g.length := List.length_pos_iff.2 hg.ne
        exact getD_snoc_lt hl
theorem nodup_lt : ∀ (n : Nat) (l : List Nat), l.Nodup → (∀ x ∈ l, x < n) → l.length ≤ n
  | 0, l, _, h => by
    cases l with
    | nil => simp
    | cons a l => exact absurd (h a (by simp)) (by omega)
  | n + 1, l, hn, h => by
    by_cases hm : n ∈ l
    · have h1 := nodup_lt n (l.erase n) (hn.erase n) (fun x hx => by
        have h2 := h x (List.mem_of_mem_erase hx)
        have h3 : x ≠ n := fun e => by subst e; exact (hn.not_mem_erase) hx
        omega)
      rw [List.length_erase_of_mem hm] at h1
      omega
    · have h1 := nodup_lt n l hn (fun x hx => by
        have h2 := h x hx
        have h3 : x ≠ n := fun e => by subst e; exact hm hx
        omega)
      omega
theorem Smp.len {n : Nat} {C : Nat → Nat → Int} {g : List Nat} (h : Smp n C g) : 1 ≤ g.length ∧ g.length ≤ n := ⟨List.length_pos_iff.2 h.ne, nodup_lt n g h.nodup h.lt⟩
theorem Smp.inj {n : Nat} {C : Nat → Nat → Int} {g : List Nat} (h : Smp n C g) {i j : Nat} (hi : i < g.length) (hj : j < g.length) (e : g.getD i 0 = g.getD j 0) : i = j := by
  simp only [List.getD, List.getElem?_eq_getElem hi, List.getElem?_eq_getElem hj, Option.getD_some] at e
  exact (List.getElem_inj h.nodup).1 e
theorem Smp.at_lt {n : Nat} {C : Nat → Nat → Int} {g : List Nat} (h : Smp n C g) {i : Nat} (hi : i < g.length) : g.getD i 0 < n := by
  simp only [List.getD, List.getElem?_eq_getElem hi, Option.getD_some]
  exact h.lt _ (List.getElem_mem hi)

theorem wayF_ne {n to : Nat} {C : Nat → Nat → Int} : ∀ k g t, Smp n C (g ++ t) → g ≠ [] → lastN (g ++ t) = to → t.length < k → wayF n to C k g ≠ []
  | 0, _, _, _, _, _, h => absurd h (by omega)
  | k + 1, g, t, hs, hg, hl, hk => by
    simp only [wayF]
    split
    · exact hg
    · rename_i e
      cases t with
      | nil => rw [List.append_nil] at hl; exact absurd hl e
      | cons b t =>
        have hgl : 0 < g.length := List.length_pos_iff.2 hg
        have e1 : g ++ b :: t = (g ++ [b]) ++ t := by simp
        have hnd := hs.nodup
        rw [List.nodup_append] at hnd
        have hb : b ∉ g := fun h => hnd.2.2 b h b (by simp) rfl
        have hbn : b < n := hs.lt b (by simp)
        have hc : 0 < C (lastN g) b := by
          have h1 := hs.path (g.length - 1) (by simp; omega)
          have h2 : (g ++ b :: t).getD (g.length - 1) 0 = lastN g := by
            rw [lastN, List.getD, List.getD, List.getElem?_append_left (by omega)]
          have h3 : (g ++ b :: t).getD (g.length - 1 + 1) 0 = b := by
            rw [show g.length - 1 + 1 = g.length by omega]
            simp [List.getD]
          rw [h2, h3] at h1
          exact h1
        have ih := wayF_ne (to := to) k (g ++ [b]) t (by rw [e1] at hs; exact hs) (by simp) (by rw [e1] at hl; exact hl) (by simp at hk; omega)
        intro h
        have := firstW_inv h b hbn
        rw [if_neg (by rw [not_or]; exact ⟨hb, by omega⟩)] at this
        exact ih this

/-- a number in another one's place -/
def upd (C : Nat → Nat → Int) (a b : Nat) (v : Int) : Nat → Nat → Int := fun i j => if i = a ∧ j = b then v else C i j
theorem upd_at (C : Nat → Nat → Int) (a b : Nat) (v : Int) : upd C a b v a b = v := by simp [upd]
theorem upd_ne {C : Nat → Nat → Int} {a b i j : Nat} {v : Int} (h : ¬ (i = a ∧ j = b)) : upd C a b v i j = C i j := by simp [upd, h]
theorem cs_upd (C : Nat → Nat → Int) (s a b : Nat) (v : Int) (x : Nat) : ∀ j, cs (upd C a b v) s x j = cs C s x j + (if x = a ∧ b < j ∧ (bt s a && !bt s b) = true then v - C a b else 0)
  | 0 => by simp [cs]
  | j + 1 => by
    simp only [cs]
    rw [cs_upd C s a b v x j]
    by_cases hx : x = a
    · subst hx
      by_cases hj : j = b
      · subst hj
        rw [upd_at]
        by_cases hb : (bt s x && !bt s j) = true
        · simp only [hb, and_true, true_and, if_true]
          rw [if_neg (by omega), if_pos (by omega)]
          omega
        · simp [hb]
      · rw [upd_ne (by rintro ⟨_, h⟩; exact hj h)]
        by_cases hb : b < j
        · have hb2 : b < j + 1 := by omega
          simp only [hb, hb2, true_and]
          omega
        · have hb2 : ¬ b < j + 1 := by omega
          simp only [hb, hb2, false_and, and_false, if_false]
          omega
    · rw [upd_ne (by rintro ⟨h, _⟩; exact hx h)]
      simp [hx]
theorem ct_upd (C : Nat → Nat → Int) (n s a b : Nat) (v : Int) (hb : b < n) : ∀ x, ct (upd C a b v) n s x = ct C n s x + (if a < x ∧ (bt s a && !bt s b) = true then v - C a b else 0)
  | 0 => by simp [ct]
  | x + 1 => by
    simp only [ct]
    rw [ct_upd C n s a b v hb x, cs_upd]
    by_cases e : x = a
    · subst e
      by_cases h : (bt s x && !bt s b) = true
      · rw [if_neg (by omega), if_pos ⟨rfl, hb, h⟩, if_pos ⟨by omega, h⟩]
        omega
      · simp [h]
    · rw [if_neg (show ¬ (x = a ∧ b < n ∧ (bt s a && !bt s b) = true) by rintro ⟨h, _⟩; exact e h)]
      by_cases h : a < x
      · have h2 : a < x + 1 := by omega
        simp only [h, h2, true_and]
        omega
      · have h2 : ¬ a < x + 1 := by omega
        simp only [h, h2, false_and, if_false]
        omega

/-- the least number on the first j steps of a way -/
def minTo (C : Nat → Nat → Int) (l : List Nat) : Nat → Int
  | 0 => C (l.getD 0 0) (l.getD 1 0)
  | j + 1 => if C (l.getD j 0) (l.getD (j + 1) 0) < minTo C l j then C (l.getD j 0) (l.getD (j + 1) 0) else minTo C l j
theorem minTo_le {C : Nat → Nat → Int} {l : List Nat} : ∀ j i, i < j → minTo C l j ≤ C (l.getD i 0) (l.getD (i + 1) 0)
  | 0, i, h => absurd h (by omega)
  | j + 1, i, h => by
    simp only [minTo]
    by_cases e : i = j
    · subst e; split <;> omega
    · have := minTo_le (C := C) (l := l) j i (by omega)
      split <;> omega
theorem minTo_one {C : Nat → Nat → Int} {l : List Nat} : ∀ j, 1 ≤ j → ∃ i, i < j ∧ minTo C l j = C (l.getD i 0) (l.getD (i + 1) 0)
  | 0, h => absurd h (by omega)
  | j + 1, _ => by
    simp only [minTo]
    split
    · exact ⟨j, by omega, rfl⟩
    · rename_i h
      by_cases h0 : j = 0
      · subst h0; exact ⟨0, by omega, rfl⟩
      · obtain ⟨i, hi, e⟩ := minTo_one (C := C) (l := l) j (by omega)
        exact ⟨i, by omega, e⟩

/-- what is left when x is sent on one step -/
def push1 (C : Nat → Nat → Int) (x : Int) (a b : Nat) : Nat → Nat → Int := upd (upd C a b (C a b - x)) b a (upd C a b (C a b - x) b a + x)
/-- .. on the first j steps of a way -/
def pushTo (C : Nat → Nat → Int) (x : Int) (l : List Nat) : Nat → Nat → Nat → Int
  | 0 => C
  | j + 1 => push1 (pushTo C x l j) x (l.getD j 0) (l.getD (j + 1) 0)
theorem push1_eq {C : Nat → Nat → Int} {x : Int} {a b : Nat} (h : a ≠ b) (i j : Nat) : push1 C x a b i j = if i = a ∧ j = b then C a b - x else if i = b ∧ j = a then C b a + x else C i j := by
  unfold push1
  by_cases h1 : i = b ∧ j = a
  · obtain ⟨rfl, rfl⟩ := h1
    rw [upd_at, upd_ne (by rintro ⟨e, _⟩; exact h e.symm), if_neg (by rintro ⟨e, _⟩; exact h e.symm), if_pos ⟨rfl, rfl⟩]
  · rw [upd_ne h1, if_neg h1]
    rfl
def ind (s v : Nat) : Int := if bt s v then 1 else 0
theorem ct_push1 {C : Nat → Nat → Int} {n s a b : Nat} {x : Int} (h : a ≠ b) (ha : a < n) (hb : b < n) : ct (push1 C x a b) n s n = ct C n s n + x * ind s b - x * ind s a := by
  unfold push1
  rw [ct_upd _ n s b a _ ha, ct_upd _ n s a b _ hb, upd_ne (by rintro ⟨e, _⟩; exact h e.symm)]
  simp only [ha, hb, true_and, ind]
  cases bt s a <;> cases bt s b <;> simp <;> omega

theorem ct_pushTo {n s : Nat} {C C0 : Nat → Nat → Int} {x : Int} {l : List Nat} (hl : Smp n C0 l) : ∀ j, j < l.length → ct (pushTo C x l j) n s n = ct C n s n + x * ind s (l.getD j 0) - x * ind s (l.getD 0 0)
  | 0, _ => by simp [pushTo]
  | j + 1, hj => by
    have hne : l.getD j 0 ≠ l.getD (j + 1) 0 := fun e => by have := hl.inj (by omega) hj e; omega
    rw [pushTo, ct_push1 hne (hl.at_lt (by omega)) (hl.at_lt hj), ct_pushTo hl j (by omega)]
    omega
theorem pushTo_sum {n : Nat} {C C0 : Nat → Nat → Int} {x : Int} {l : List Nat} (hl : Smp n C0 l) (a b : Nat) : ∀ j, j < l.length → pushTo C x l j a b + pushTo C x l j b a = C a b + C b a
  | 0, _ => rfl
  | j + 1, hj => by
    have hne : l.getD j 0 ≠ l.getD (j + 1) 0 := fun e => by have := hl.inj (by omega) hj e; omega
    have ih := pushTo_sum (C := C) (x := x) hl a b j (by omega)
    simp only [pushTo]
    rw [push1_eq hne, push1_eq hne]
    generalize l.getD j 0 = u at *
    generalize l.getD (j + 1) 0 = v at *
    by_cases h1 : a = u ∧ b = v
    · obtain ⟨rfl, rfl⟩ := h1
      rw [if_pos ⟨rfl, rfl⟩, if_neg (by rintro ⟨e, _⟩; exact hne e.symm), if_pos ⟨rfl, rfl⟩]
      omega
    · by_cases h2 : a = v ∧ b = u
      · obtain ⟨rfl, rfl⟩ := h2
        rw [if_neg h1, if_pos ⟨rfl, rfl⟩, if_pos ⟨rfl, rfl⟩]
        omega
      · rw [if_neg h1, if_neg h2, if_neg (by rintro ⟨e1, e2⟩; exact h2 ⟨e2, e1⟩), if_neg (by rintro ⟨e1, e2⟩; exact h1 ⟨e2, e1⟩)]
        exact ih
theorem pushTo_later {n : Nat} {C C0 : Nat → Nat → Int} {x : Int} {l : List Nat} (hl : Smp n C0 l) : ∀ j i, j ≤ i → i + 1 < l.length → pushTo C x l j (l.getD i 0) (l.getD (i + 1) 0) = C (l.getD i 0) (l.getD (i + 1) 0)
  | 0, _, _, _ => rfl
  | j + 1, i, hji, hi => by
    have hne : l.getD j 0 ≠ l.getD (j + 1) 0 := fun e => by have := hl.inj (by omega) (by omega) e; omega
    simp only [pushTo]
    rw [push1_eq hne, if_neg (by rintro ⟨e, _⟩; have := hl.inj (by omega) (by omega) e; omega), if_neg (by rintro ⟨_, e⟩; have := hl.inj (by omega) (by omega) e; omega)]
    exact pushTo_later hl j i (by omega) hi
theorem pushTo_nonneg {n : Nat} {C C0 : Nat → Nat → Int} {x : Int} {l : List Nat} (hl : Smp n C0 l) (hC : ∀ a b, 0 ≤ C a b) (h0 : 0 ≤ x) (hx : ∀ i, i + 1 < l.length → x ≤ C (l.getD i 0) (l.getD (i + 1) 0)) : ∀ j, j < l.length → ∀ a b, 0 ≤ pushTo C x l j a b
  | 0, _, a, b => hC a b
  | j + 1, hj, a, b => by
    have hne : l.getD j 0 ≠ l.getD (j + 1) 0 := fun e => by have := hl.inj (by omega) hj e; omega
    have ih := pushTo_nonneg hl hC h0 hx j (by omega)
    have h1 := pushTo_later (C := C) (x := x) hl j j (Nat.le_refl _) hj
    have h2 := hx j hj
    simp only [pushTo]
    rw [push1_eq hne]
    split
    · omega
    · split
      · have := ih (l.getD (j + 1) 0) (l.getD j 0); omega
      · exact ih a b

/-- what may flow on a net at the start and ever after -/
structure Net (n : Nat) (C : Nat → Nat → Int) : Prop where
  nonneg : ∀ a b, 0 ≤ C a b
  sum : ∀ a b, C a b + C b a ≤ 40

/-- how much is sent on a way -/
def sendF (C : Nat → Nat → Int) (l : List Nat) : Int := minTo C l (l.length - 1)
def stepF (C : Nat → Nat → Int) (l : List Nat) : Nat → Nat → Int := pushTo C (sendF C l) l (l.length - 1)
/-- the flow, at most k ways -/
def flowF (n to : Nat) : Nat → (Nat → Nat → Int) → Int → Int
  | 0, _, s => s
  | k + 1, C, s => if wayF n to C n [0] = [] then s else flowF n to k (stepF C (wayF n to C n [0])) (s + sendF C (wayF n to C n [0]))

theorem smp0 {n : Nat} (hn : 1 ≤ n) (C : Nat → Nat → Int) : Smp n C [0] := ⟨fun i hi => absurd hi (by simp), by simp, by simp; omega, by simp⟩
/-- the first way from 0 to another point -/
structure Fst (n to : Nat) (C : Nat → Nat → Int) (l : List Nat) : Prop where
  smp : Smp n C l
  last : l.getD (l.length - 1) 0 = to
  head : l.getD 0 0 = 0
  two : 2 ≤ l.length
theorem fst_of {n to : Nat} {C : Nat → Nat → Int} (hn : 1 ≤ n) (ht : 1 ≤ to) (h : wayF n to C n [0] ≠ []) : Fst n to C (wayF n to C n [0]) := by
  obtain ⟨h1, h2, h3⟩ := wayF_smp n [0] (smp0 hn C) h
  refine ⟨h1, h2, h3, ?_⟩
  have h4 := h1.len.1
  by_cases e : (wayF n to C n [0]).length = 1
  · rw [lastN, e] at h2
    rw [h3] at h2
    simp at h2
    omega
  · omega
theorem Fst.send {n to : Nat} {C : Nat → Nat → Int} {l : List Nat} (h : Fst n to C l) : 1 ≤ sendF C l ∧ ∀ i, i + 1 < l.length → sendF C l ≤ C (l.getD i 0) (l.getD (i + 1) 0) := by
  have h2 := h.two
  refine ⟨?_, fun i hi => minTo_le _ i (by omega)⟩
  obtain ⟨i, hi, e⟩ := minTo_one (C := C) (l := l) (l.length - 1) (by omega)
  have := h.smp.path i (by omega)
  rw [sendF, e]
  omega
theorem Fst.net {n to : Nat} {C : Nat → Nat → Int} {l : List Nat} (h : Fst n to C l) (hN : Net n C) : Net n (stepF C l) := by
  have h2 := h.two
  have h3 := h.send
  exact ⟨pushTo_nonneg h.smp hN.nonneg (by omega) h3.2 _ (by omega), fun a b => by rw [stepF, pushTo_sum h.smp a b _ (by omega)]; exact hN.sum a b⟩
theorem Fst.cut {n to s : Nat} {C : Nat → Nat → Int} {l : List Nat} (h : Fst n to C l) (hs : okS to s = true) : ct (stepF C l) n s n = ct C n s n - sendF C l := by
  have h2 := h.two
  rw [stepF, ct_pushTo h.smp _ (by omega), h.last, h.head]
  simp only [okS, Bool.and_eq_true, Bool.not_eq_true'] at hs
  simp only [ind, hs.1, hs.2]
  simp <;> omega
theorem cs_nonneg {C : Nat → Nat → Int} (h : ∀ a b, 0 ≤ C a b) (s a : Nat) : ∀ j, 0 ≤ cs C s a j
  | 0 => Int.le_refl _
  | j + 1 => by
    have := cs_nonneg h s a j
    have := h a j
    simp only [cs]
    split <;> omega
theorem ct_nonneg {C : Nat → Nat → Int} (h : ∀ a b, 0 ≤ C a b) (n s : Nat) : ∀ a, 0 ≤ ct C n s a
  | 0 => Int.le_refl _
  | a + 1 => by
    have := ct_nonneg h n s a
    have := cs_nonneg h s a n
    simp only [ct]
    omega
theorem ok_one {to : Nat} (ht : 1 ≤ to) : okS to 1 = true := by rw [okS, bt_one, bt_one' ht]; rfl

/-- what flows in the end does not depend on a bound that is great enough -/
theorem flowF_more {n to : Nat} (hn : 1 ≤ n) (ht : 1 ≤ to) : ∀ (k k' : Nat) (C : Nat → Nat → Int) (s : Int), Net n C → ct C n 1 n < k → k ≤ k' → flowF n to k' C s = flowF n to k C s
  | 0, _, C, s, hN, h, _ => absurd h (by have := ct_nonneg hN.nonneg n 1 n; omega)
  | k + 1, 0, C, s, hN, h, h2 => absurd h2 (by omega)
  | k + 1, k' + 1, C, s, hN, h, h2 => by
    simp only [flowF]
    split
    · rfl
    · rename_i hw
      have hf := fst_of hn ht hw
      have h3 := hf.cut (ok_one ht)
      have h4 := hf.send
      exact flowF_more hn ht k k' _ _ (hf.net hN) (by omega) (by omega)

/-- a set with just the points that P names -/
theorem set_of (P : Nat → Prop) [DecidablePred P] : ∀ n, ∃ s, s < 2 ^ n ∧ ∀ i, i < n → bt s i = decide (P i)
  | 0 => ⟨0, by simp, fun i hi => absurd hi (by omega)⟩
  | n + 1 => by
    obtain ⟨s, h1, h2⟩ := set_of P n
    have hp : 2 ^ (n + 1) = 2 ^ n * 2 := Nat.pow_succ ..
    by_cases hP : P n
    · refine ⟨s + 2 ^ n, by omega, fun i hi => ?_⟩
      by_cases e : i = n
      · subst e
        simp only [bt, hP, decide_true, decide_eq_true_eq]
        rw [Nat.add_div_right _ (Nat.two_pow_pos i), Nat.div_eq_of_lt h1]
      · rw [← h2 i (by omega)]
        simp only [bt]
        have e2 : 2 ^ n = 2 ^ i * (2 * 2 ^ (n - i - 1)) := by
          rw [← Nat.mul_assoc, Nat.mul_comm (2 ^ i) 2, Nat.mul_assoc, ← Nat.pow_add, show i + (n - i - 1) = n - 1 by omega]
          rw [show 2 * 2 ^ (n - 1) = 2 ^ (n - 1) * 2 by omega, ← Nat.pow_succ]
          congr 1; omega
        rw [e2, Nat.add_mul_div_left _ _ (Nat.two_pow_pos i)]
        congr 1
        rw [Nat.add_mul_mod_self_left]
    · refine ⟨s, by omega, fun i hi => ?_⟩
      by_cases e : i = n
      · subst e
        simp [bt, hP, Nat.div_eq_of_lt h1]
      · exact h2 i (by omega)

open Classical in
/-- where no way is left there is a set that nothing leaves -/
theorem stuck {n to : Nat} {C : Nat → Nat → Int} (hn : 1 ≤ n) (ht : 1 ≤ to ∧ to < n) (hN : Net n C) (h : wayF n to C n [0] = []) : ∃ s, s < 2 ^ n ∧ okS to s = true ∧ ct C n s n = 0 := by
  let P : Nat → Prop := fun a => ∃ t, Smp n C ([0] ++ t) ∧ lastN ([0] ++ t) = a
  obtain ⟨s, h1, h2⟩ := set_of P n
  have h0 : P 0 := ⟨[], smp0 hn C, rfl⟩
  have hto : ¬ P to := fun ⟨t, ht1, ht2⟩ => by
    have hl := ht1.len.2
    simp only [List.length_append, List.length_singleton] at hl
    exact wayF_ne n [0] t ht1 (by simp) ht2 (by omega) h
  have hcl : ∀ a b, a < n → b < n → P a → ¬ P b → C a b = 0 := fun a b ha hb ⟨t, ht1, ht2⟩ hPb => by
    refine Classical.byContradiction fun hne => hPb ?_
    have hpos : 0 < C a b := by have := hN.nonneg a b; omega
    by_cases hm : b ∈ [0] ++ t
    · obtain ⟨i, hi, e⟩ := List.mem_iff_getElem.1 hm
      have htk : ([0] ++ t).take (i + 1) = [0] ++ t.take i := by simp
      have hlen : (([0] ++ t).take (i + 1)).length = i + 1 := by rw [List.length_take]; omega
      have hget : ∀ j, j < i + 1 → (([0] ++ t).take (i + 1)).getD j 0 = ([0] ++ t).getD j 0 := fun j hj => by
        simp only [List.getD, List.getElem?_take_of_lt hj]
      refine ⟨t.take i, ?_, ?_⟩
      · rw [← htk]
        refine ⟨fun j hj => ?_, ht1.nodup.sublist (List.take_sublist _ _), fun x hx => ht1.lt x (List.mem_of_mem_take hx), by rw [htk]; simp⟩
        rw [hlen] at hj
        rw [hget j (by omega), hget (j + 1) (by omega)]
        exact ht1.path j (by omega)
      · rw [← htk, lastN, hlen, hget _ (by omega), show i + 1 - 1 = i by omega, List.getD, List.getElem?_eq_getElem hi, Option.getD_some, e]
    · refine ⟨t ++ [b], ?_, ?_⟩
      · rw [← List.append_assoc]
        exact ht1.snoc hb hm (by rw [ht2]; exact hpos)
      · rw [← List.append_assoc, lastN_snoc]
  refine ⟨s, h1, ?_, ?_⟩
  · rw [okS, h2 0 (by omega), h2 to ht.2]
    simp [h0, hto]
  · have hz : ∀ a, a < n → ∀ j, j ≤ n → cs C s a j = 0 := fun a ha j => by
      induction j with
      | zero => intro _; rfl
      | succ j ih =>
        intro hj
        rw [cs, ih (by omega), h2 a ha, h2 j (by omega)]
        by_cases pa : P a
        · by_cases pb : P j
          · simp [pb]
          · simp [pa, pb, hcl a j ha (by omega) pa pb]
        · simp [pa]
    have hz2 : ∀ a, a ≤ n → ct C n s a = 0 := fun a => by
      induction a with
      | zero => intro _; rfl
      | succ a ih => intro ha; rw [ct, ih (by omega), hz a (by omega) n (Nat.le_refl _)]; rfl
    exact hz2 n (Nat.le_refl _)

theorem flowF_cut {n to : Nat} (hn : 1 ≤ n) (ht : 1 ≤ to ∧ to < n) : ∀ (k : Nat) (C : Nat → Nat → Int) (s0 : Int), Net n C → ct C n 1 n < k →
    (∀ s, okS to s = true → flowF n to k C s0 ≤ s0 + ct C n s n) ∧ ∃ s, s < 2 ^ n ∧ okS to s = true ∧ flowF n to k C s0 = s0 + ct C n s n
  | 0, C, s0, hN, h => absurd h (by have := ct_nonneg hN.nonneg n 1 n; omega)
  | k + 1, C, s0, hN, h => by
    simp only [flowF]
    split
    · rename_i hw
      obtain ⟨s, h1, h2, h3⟩ := stuck hn ht hN hw
      exact ⟨fun s' _ => by have := ct_nonneg hN.nonneg n s' n; omega, s, h1, h2, by omega⟩
    · rename_i hw
      have hf := fst_of hn ht.1 hw
      have h3 := hf.cut (ok_one ht.1)
      have h4 := hf.send
      obtain ⟨a1, s, a2, a3, a4⟩ := flowF_cut hn ht k _ (s0 + sendF C (wayF n to C n [0])) (hf.net hN) (by omega)
      refine ⟨fun s' hs' => ?_, s, a2, a3, ?_⟩
      · have := a1 s' hs'
        have := hf.cut hs'
        omega
      · have := hf.cut a3
        omega

/-- the flow of a net -/
def flowV (n to : Nat) (C : Nat → Nat → Int) : Int := flowF n to 721 C 0
theorem flowV_cut {n to : Nat} {M : Nat → Nat → Int} (hn : 2 ≤ n ∧ n ≤ 6) (ht : 1 ≤ to ∧ to < n) (hM : ∀ a b, 0 ≤ M a b ∧ M a b ≤ 20) : flowV n to M = cutV n to M := by
  have hN : Net n M := ⟨fun a b => (hM a b).1, fun a b => by have := hM a b; have := hM b a; omega⟩
  have hb := fun s => ct_bd s hn.2 (fun a b _ _ => hM a b) n (Nat.le_refl n)
  obtain ⟨h1, s, h2, h3, h4⟩ := flowF_cut (by omega) ht 721 M 0 hN (by have := hb 1; omega)
  have h5 := cutF_le (M := M) (n := n) (2 ^ n) s h2 h3
  have h6 := hb s
  unfold flowV cutV
  rcases cutF_one (M := M) (n := n) (to := to) (2 ^ n) with h7 | ⟨s', h7, h8, h9⟩
  · omega
  · have := h1 s' h8
    omega
end Go.Proofs.Ytecmihmopiepfaa
