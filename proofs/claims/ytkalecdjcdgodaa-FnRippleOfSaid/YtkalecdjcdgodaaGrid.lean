/-
  Grids of lost cells, plain: what stays lost is the greatest part that mends nothing. No conditions: nothing is claimed of the program here.
-/
import Derived.Test.YtkalecdjcdgodaaSize
import Derived.Test.YtkalecdjcdgodaaSums
import Derived.Test.YtkalecdjcdgodaaTabC
namespace Go.Proofs.Ytkalecdjcdgodaa
open Go.RowKit

/-- x without bit k -/
def rm7 (x k : Nat) : Nat := x &&& (127 ^^^ 2 ^ k)
/-- bit k of x -/
def cb (x k : Nat) : Nat := x / 2 ^ k % 2
def chk1 : Bool := (List.range 128).all fun x => (List.range 7).all fun k => decide (rm7 x k < 128) && (rm7 x k &&& x == rm7 x k) && (cb (rm7 x k) k == 0) && (bits .andNot .i64 (x : Int) ((2 : Int) ^ k) == ((rm7 x k : Nat) : Int)) && (bits .and .i64 ((x : Int) / 2 ^ k) 1 == ((cb x k : Nat) : Int)) && decide (cb x k ≤ 1) && ((cb x k == 0) || decide (rm7 x k < x)) && ((cb x k != 0) || (rm7 x k == x)) && (List.range 7).all fun j => decide (cb (rm7 x k) j ≤ cb x j)
theorem chk1_ok : chk1 = true := by decide +kernel
theorem rm7_fin (x k : Nat) (hx : x < 128) (hk : k < 7) : rm7 x k < 128 ∧ rm7 x k &&& x = rm7 x k ∧ cb (rm7 x k) k = 0 ∧ bits .andNot .i64 (x : Int) ((2 : Int) ^ k) = ((rm7 x k : Nat) : Int) ∧ bits .and .i64 ((x : Int) / 2 ^ k) 1 = ((cb x k : Nat) : Int) ∧ cb x k ≤ 1 ∧ (cb x k ≠ 0 → rm7 x k < x) ∧ (cb x k = 0 → rm7 x k = x) ∧ ∀ j, j < 7 → cb (rm7 x k) j ≤ cb x j := by
  have h := chk1_ok
  simp only [chk1, List.all_eq_true, List.mem_range] at h
  have h2 := h x hx k hk
  simp only [Bool.and_eq_true, beq_iff_eq, Bool.or_eq_true, decide_eq_true_eq, bne_iff_ne, List.all_eq_true, List.mem_range] at h2
  obtain ⟨⟨⟨⟨⟨⟨⟨⟨a1, a2⟩, a3⟩, a4⟩, a5⟩, a6⟩, a7⟩, a8⟩, a9⟩ := h2
  exact ⟨a1, a2, a3, a4, a5, a6, fun h => a7.resolve_left h, fun h => a8.resolve_left (fun h2 => h2 h), a9⟩
def chk2 : Bool := (List.range 128).all fun t => (List.range 128).all fun x => (t &&& x != t) || (decide (wt t ≤ wt x) && (List.range 7).all fun k => decide (cb t k ≤ cb x k) && ((cb t k != 0) || (t &&& rm7 x k == t)))
theorem chk2_ok : chk2 = true := by decide +kernel
theorem sub_fin {t x : Nat} (ht : t < 128) (hx : x < 128) (h : t &&& x = t) : wt t ≤ wt x ∧ ∀ k, k < 7 → cb t k ≤ cb x k ∧ (cb t k = 0 → t &&& rm7 x k = t) := by
  have h1 := chk2_ok
  simp only [chk2, List.all_eq_true, List.mem_range] at h1
  have h2 := h1 t ht x hx
  simp only [Bool.and_eq_true, beq_iff_eq, Bool.or_eq_true, decide_eq_true_eq, bne_iff_ne, List.all_eq_true, List.mem_range] at h2
  have h3 := h2.resolve_left (fun hh => hh h)
  exact ⟨h3.1, fun k hk => ⟨(h3.2 k hk).1, fun h0 => (h3.2 k hk).2.resolve_left (fun hh => hh h0)⟩⟩
theorem sub_le' {a b : Nat} (h : a &&& b = a) : a ≤ b := by rw [← h]; exact Nat.and_le_right
theorem wt_128 (x : Nat) (h : x < 128) : wt x ≤ 8 := (wt_small x (by omega)).2

/-- how many of the first n rows have column k -/
def cnt (G : Nat → Nat) (k : Nat) : Nat → Nat | 0 => 0 | i + 1 => cnt G k i + cb (G i) k
theorem cnt_le {H G : Nat → Nat} {k : Nat} : ∀ {n}, (∀ i, i < n → cb (H i) k ≤ cb (G i) k) → cnt H k n ≤ cnt G k n
  | 0, _ => Nat.le_refl _
  | n + 1, h => by
    have h1 := cnt_le (H := H) (G := G) (k := k) (n := n) (fun i hi => h i (by omega))
    have h2 := h n (by omega)
    rw [cnt, cnt]; omega
theorem cnt_zero {H : Nat → Nat} {k : Nat} : ∀ {n}, cnt H k n = 0 ↔ ∀ i, i < n → cb (H i) k = 0
  | 0 => ⟨fun _ i hi => absurd hi (by omega), fun _ => rfl⟩
  | n + 1 => by
    rw [cnt]
    constructor
    · intro h i hi
      by_cases e : i = n
      · subst e; omega
      · exact (cnt_zero (n := n)).1 (by omega) i (by omega)
    · intro h
      rw [(cnt_zero (n := n)).2 (fun i hi => h i (by omega)), h n (by omega)]
theorem cnt_bd {G : Nat → Nat} {k : Nat} : ∀ n, cnt G k n ≤ n
  | 0 => Nat.le_refl _
  | n + 1 => by
    have := cnt_bd (G := G) (k := k) n
    have h2 : cb (G n) k ≤ 1 := by unfold cb; omega
    rw [cnt]; omega
def Subs (n : Nat) (H G : Nat → Nat) : Prop := ∀ i, i < n → H i &&& G i = H i
/-- nothing can be mended -/
def Stable (n cols br bc : Nat) (H : Nat → Nat) : Prop := (∀ i, i < n → H i ≠ 0 → br < wt (H i)) ∧ ∀ k, k < cols → 0 < cnt H k n → bc < cnt H k n
/-- all that stays lost of G0 is there still -/
def Keep (n cols br bc : Nat) (G0 X : Nat → Nat) : Prop := Subs n X G0 ∧ (∀ i, i < n → X i < 128) ∧ ∀ H, Subs n H G0 → Stable n cols br bc H → Subs n H X
def PeelEnd (n cols br bc : Nat) (G0 E : Nat → Nat) : Prop := Keep n cols br bc G0 E ∧ Stable n cols br bc E
theorem keep_start {n cols br bc : Nat} {G : Nat → Nat} (h : ∀ i, i < n → G i < 128) : Keep n cols br bc G G := ⟨fun i _ => Nat.and_self _, h, fun _ h _ => h⟩
theorem keep_row {n cols br bc : Nat} {G0 G X : Nat → Nat} {i : Nat} (hi : i < n) (hG : Keep n cols br bc G0 G) (hX : Keep n cols br bc G0 X) (hw : wt (G i) ≤ br) : Keep n cols br bc G0 (fun t => if t = i then 0 else X t) := by
  refine ⟨fun t ht => ?_, fun t ht => ?_, fun H h1 h2 t ht => ?_⟩
  · dsimp only; split
    · simp
    · exact hX.1 t ht
  · dsimp only; split
    · omega
    · exact hX.2.1 t ht
  · dsimp only; split
    · rename_i e
      subst e
      have h3 := hG.2.2 H h1 h2 t ht
      have h4 := hG.2.1 t ht
      have h5 := sub_le' h3
      have h6 := (sub_fin (show H t < 128 by omega) h4 h3).1
      by_cases h0 : H t = 0
      · rw [h0]; rfl
      · have := h2.1 t ht h0; omega
    · exact hX.2.2 H h1 h2 t ht
theorem keep_col {n cols br bc : Nat} {G0 G X : Nat → Nat} {k : Nat} (hk : k < cols) (hc : cols ≤ 7) (hG : Keep n cols br bc G0 G) (hX : Keep n cols br bc G0 X) (hn : cnt G k n ≤ bc) (j : Nat) : Keep n cols br bc G0 (fun t => if t < j then rm7 (X t) k else X t) := by
  have key : ∀ t, t < n → rm7 (X t) k < 128 ∧ rm7 (X t) k &&& X t = rm7 (X t) k := fun t ht => by
    have f := rm7_fin (X t) k (hX.2.1 t ht) (by omega)
    exact ⟨f.1, f.2.1⟩
  refine ⟨fun t ht => ?_, fun t ht => ?_, fun H h1 h2 t ht => ?_⟩
  · dsimp only; split
    · have := (key t ht).2
      rw [← this, Nat.and_assoc, hX.1 t ht, this]
    · exact hX.1 t ht
  · dsimp only; split
    · exact (key t ht).1
    · exact hX.2.1 t ht
  · dsimp only; split
    · have h3 := hX.2.2 H h1 h2 t ht
      have h4 := hX.2.1 t ht
      have h5 := sub_le' h3
      have h6 : cnt H k n ≤ cnt G k n := cnt_le fun i hi => by
        have g3 := hG.2.2 H h1 h2 i hi
        have g4 := hG.2.1 i hi
        have g5 := sub_le' g3
        exact ((sub_fin (show H i < 128 by omega) g4 g3).2 k (by omega)).1
      have h7 : cnt H k n = 0 := by
        by_cases h0 : cnt H k n = 0
        · exact h0
        · have := h2.2 k hk (by omega); omega
      exact ((sub_fin (show H t < 128 by omega) h4 h3).2 k (by omega)).2 (cnt_zero.1 h7 t ht)
    · exact hX.2.2 H h1 h2 t ht
theorem peel_uniq {n cols br bc : Nat} {G0 E F : Nat → Nat} (h1 : PeelEnd n cols br bc G0 E) (h2 : PeelEnd n cols br bc G0 F) : ∀ i, i < n → E i = F i := fun i hi => by
  have a := h2.1.2.2 E h1.1.1 h1.2 i hi
  have b := h1.1.2.2 F h2.1.1 h2.2 i hi
  rw [← a, Nat.and_comm, b]
open Classical in
/-- what stays lost -/
noncomputable def peelV (n cols br bc : Nat) (G : Nat → Nat) : Nat → Nat := if h : ∃ E, PeelEnd n cols br bc G E then Classical.choose h else fun _ => 0
theorem peelV_end {n cols br bc : Nat} {G E : Nat → Nat} (h : PeelEnd n cols br bc G E) : (∀ i, i < n → peelV n cols br bc G i = E i) ∧ PeelEnd n cols br bc G (peelV n cols br bc G) := by
  have hh : ∃ E, PeelEnd n cols br bc G E := ⟨E, h⟩
  have e : peelV n cols br bc G = Classical.choose hh := by unfold peelV; rw [dif_pos hh]
  rw [e]
  exact ⟨peel_uniq (Classical.choose_spec hh) h, Classical.choose_spec hh⟩

/-- the sum of the rows: what is less round by round -/
def sumG (G : Nat → Nat) : Nat → Nat | 0 => 0 | i + 1 => sumG G i + G i
theorem sumG_le {H G : Nat → Nat} : ∀ {n}, (∀ i, i < n → H i ≤ G i) → sumG H n ≤ sumG G n
  | 0, _ => Nat.le_refl _
  | n + 1, h => by
    have := sumG_le (H := H) (G := G) (n := n) (fun i hi => h i (by omega))
    have := h n (by omega)
    rw [sumG, sumG]; omega
theorem sumG_lt {H G : Nat → Nat} : ∀ {n}, (∀ i, i < n → H i ≤ G i) → (∃ i, i < n ∧ H i ≠ G i) → sumG H n < sumG G n
  | 0, _, ⟨i, hi, _⟩ => absurd hi (by omega)
  | n + 1, h, ⟨i, hi, hne⟩ => by
    have a := sumG_le (H := H) (G := G) (n := n) (fun i hi => h i (by omega))
    have b := h n (by omega)
    rw [sumG, sumG]
    by_cases e : i = n
    · subst e; omega
    · have := sumG_lt (H := H) (G := G) (n := n) (fun i hi => h i (by omega)) ⟨i, by omega, hne⟩
      omega
/-- rows as the walk holds them -/
def gl (n : Nat) (G : Nat → Nat) : List Int := (List.range n).map fun i => ((G i : Nat) : Int)
theorem gl_len (n : Nat) (G : Nat → Nat) : (gl n G).length = n := by simp [gl]
theorem gl_at {n i : Nat} (G : Nat → Nat) (h : i < n) : (gl n G).getD i 0 = ((G i : Nat) : Int) := by simp [gl, List.getD, h]
theorem gl_congr {n : Nat} {G H : Nat → Nat} (h : ∀ i, i < n → G i = H i) : gl n G = gl n H := by
  unfold gl
  exact List.map_congr_left fun i hi => by rw [h i (List.mem_range.1 hi)]
theorem gl_set {n i : Nat} (G : Nat → Nat) (v : Nat) : (gl n G).set i (v : Int) = gl n (fun t => if t = i then v else G t) := by
  have key : ∀ (H : Nat → Nat) (t : Nat), (gl n H)[t]? = if t < n then some ((H t : Nat) : Int) else none := fun H t => by
    by_cases h : t < n
    · simp [gl, h]
    · rw [if_neg h, List.getElem?_eq_none (by rw [gl_len]; omega)]
  refine List.ext_getElem? fun t => ?_
  rw [List.getElem?_set, key, key, gl_len]
  by_cases e : i = t
  · subst e
    rw [if_pos rfl]
    by_cases h : i < n
    · rw [if_pos h, if_pos h, if_pos rfl]
    · rw [if_neg h, if_neg h]
  · rw [if_neg e]
    by_cases h : t < n
    · rw [if_pos h, if_pos h, if_neg (fun h => e h.symm)]
    · rw [if_neg h, if_neg h]
theorem gl_list (n : Nat) (G : Nat → Nat) : listOf n (fun i => ((G i : Nat) : Int)) = gl n G := rfl
end Go.Proofs.Ytkalecdjcdgodaa
