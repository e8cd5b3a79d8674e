/-
  Reduced rows, the reference's: copies, what stands ahead, reduce. Conditions: the rows can be read, of at most 7 rows and columns of numbers over a prime.
-/
import Derived.Test.YthafmoofemfdmaaSolveRed
import Derived.Test.YthafmoofemfdmaaTabC
import Derived.StillTailTactics
namespace Go.Proofs.Ythafmoofemfdmaa
open Go.RowKit

/-- what a maker of tables gives -/
def CpPost (n m : Nat) (C : Nat → Nat → Int) (w : World) (e : Ending) (w' : World) : Prop :=
  ∃ A' c' R, e = .returned (.slice A' n c') ∧ TabD w' w.heap.size w'.heap.size A' n c' R ∧ TbC R n m C ∧ Below w.heap.size w w'


/-- the first k numbers are 0 -/
def ahd (f : Nat → Int) (k : Nat) : Bool := decide (∀ i, i < k → f i = 0)
theorem ahd_true {f : Nat → Int} {k : Nat} : ahd f k = true ↔ ∀ i, i < k → f i = 0 := by simp [ahd]

theorem Mat.cut {w : World} {B n t : Nat} {A : Option Addr} {L : Nat → Nat} {M : Nat → Nat → Int} (h : Mat w B A n L M) (ht : t ≤ n) : Mat w B A t L M := fun h0 => by
  obtain ⟨b, off, e, hb, hc⟩ := h (by omega)
  exact ⟨b, off, e, hb, fun i hi => hc i (by omega)⟩
/-- row t goes to the place q, and a row of noughts to the place t -/
theorem TabD.swap {w : World} {base top bA n c q t N : Nat} {R : List Sl} {rt : Sl} (h : TabD w base top (some ⟨bA, 0, none⟩) n c R) (hq : q < n) (ht : t < n) (hrt : R[t]? = some rt) (htop : top ≤ w.heap.size) (hb : base ≤ w.heap.size) (hN : N ≤ 1000000) :
    TabD (((w.setCell ⟨bA, q, none⟩ rt.val).setCell ⟨bA, t, none⟩ (.slice (some ⟨w.heap.size, 0, none⟩) N N)).alloc (.cells (madeCells #[.int .i64 0] N) 3)) base (w.heap.size + 1) (some ⟨bA, 0, none⟩) n c ((R.set q rt).set t ⟨some ⟨w.heap.size, 0, none⟩, N, List.replicate N 0⟩) := by
  have hl : R.length = n := h.tab.1
  obtain ⟨b1, e1, _, hbl, _, _, t1⟩ := h.tab.setRow hq rt (h.tab.2.2 rt (List.mem_of_getElem? hrt))
  obtain rfl : bA = b1 := by simpa using e1
  have hz : (w.setCell ⟨bA, q, none⟩ rt.val).heap.size = w.heap.size := by simp [World.setCell]
  have hrow := Row.zeros (w := w.setCell ⟨bA, q, none⟩ rt.val) (base := base) N (by rw [hz]; exact hb) hN
  rw [hz] at hrow
  have hrow2 : Row ((w.setCell ⟨bA, q, none⟩ rt.val).alloc (.cells (madeCells #[.int .i64 0] N) 3)) base (Sl.mk (some ⟨w.heap.size, 0, none⟩) N (List.replicate N 0)).A (Sl.mk (some ⟨w.heap.size, 0, none⟩) N (List.replicate N 0)).xs.length (Sl.mk (some ⟨w.heap.size, 0, none⟩) N (List.replicate N 0)).c (Sl.mk (some ⟨w.heap.size, 0, none⟩) N (List.replicate N 0)).xs := by
    simpa using hrow
  obtain ⟨b2, e2, _, _, _, _, t2⟩ := (t1.alloc (.cells (madeCells #[.int .i64 0] N) 3)).setRow ht _ hrow2
  obtain rfl : bA = b2 := by simpa using e2
  have key : ∀ (i : Nat) (r : Sl), ((R.set q rt).set t ⟨some ⟨w.heap.size, 0, none⟩, N, List.replicate N 0⟩)[i]? = some r → (i = t ∧ r.blk = some w.heap.size) ∨ (i ≠ t ∧ ((i = q ∧ r = rt) ∨ (i ≠ q ∧ R[i]? = some r))) := fun i r hr => by
    rw [List.getElem?_set] at hr
    by_cases e : t = i
    · subst e
      rw [if_pos rfl] at hr
      split at hr
      · injection hr with hr
        subst hr
        exact .inl ⟨rfl, rfl⟩
      · cases hr
    · rw [if_neg e, List.getElem?_set] at hr
      by_cases e3 : q = i
      · subst e3
        rw [if_pos rfl] at hr
        split at hr
        · injection hr with hr
          exact .inr ⟨fun h => e h.symm, .inl ⟨rfl, hr.symm⟩⟩
        · cases hr
      · rw [if_neg e3] at hr
        exact .inr ⟨fun h => e h.symm, .inr ⟨fun h => e3 h.symm, hr⟩⟩
  have low : ∀ (i : Nat) (r : Sl), (i ≠ t ∧ ((i = q ∧ r = rt) ∨ (i ≠ q ∧ R[i]? = some r))) → ∀ k, r.blk = some k → k < w.heap.size := fun i r hr k hk => by
    rcases hr.2 with ⟨_, rfl⟩ | ⟨_, h2⟩
    · exact Nat.lt_of_lt_of_le (h.under _ (List.mem_of_getElem? hrt) k hk) htop
    · exact Nat.lt_of_lt_of_le (h.under _ (List.mem_of_getElem? h2) k hk) htop
  have t3 : Tab ((w.setCell ⟨bA, q, none⟩ rt.val).alloc (.cells (madeCells #[.int .i64 0] N) 3) |>.setCell ⟨bA, t, none⟩ (.slice (some ⟨w.heap.size, 0, none⟩) N N)) base (some ⟨bA, 0, none⟩) n c ((R.set q rt).set t ⟨some ⟨w.heap.size, 0, none⟩, N, List.replicate N 0⟩) := by simpa [Sl.val] using t2
  rw [World.setCell_alloc_past _ _ _ _ (by simp [World.setCell]; exact hbl)] at t3
  refine ⟨t3, fun i j r s hi hj hne => ?_, fun r hr k hk => ?_⟩
  · have ki := key i r hi
    have kj := key j s hj
    rcases ki with ⟨rfl, bi⟩ | hi2
    · rcases kj with ⟨rfl, bj⟩ | hj2
      · exact absurd rfl hne
      · refine .inr fun e => ?_
        rw [bi] at e
        have := low j s hj2 _ e.symm
        omega
    · rcases kj with ⟨rfl, bj⟩ | hj2
      · cases hb : r.blk with
        | none => exact .inl rfl
        | some k =>
          refine .inr fun e => ?_
          rw [bj] at e
          have := low i r hi2 k hb
          injection e with e
          omega
      · rcases hi2.2 with ⟨e1, rfl⟩ | ⟨e1, h1⟩
        · rcases hj2.2 with ⟨e2, rfl⟩ | ⟨e2, h2⟩
          · omega
          · exact h.apart t j r s hrt h2 (fun e => hj2.1 e.symm)
        · rcases hj2.2 with ⟨e2, rfl⟩ | ⟨e2, h2⟩
          · exact h.apart i t r s h1 hrt hi2.1
          · exact h.apart i j r s h1 h2 hne
  · obtain ⟨i, hi⟩ := List.mem_iff_getElem?.1 hr
    rcases key i r hi with ⟨_, b⟩ | h2
    · rw [b] at hk; injection hk with hk; omega
    · have := low i r h2 k hk; omega
theorem TbC.swap {R : List Sl} {n N q t : Nat} {X : Nat → Nat → Int} {rt : Sl} {A : Option Addr} (h : TbC R n N X) (hrt : R[t]? = some rt) : TbC ((R.set q rt).set t ⟨A, N, List.replicate N 0⟩) n N (fun i j => if i = t then 0 else if i = q then X t j else X i j) := by
  refine ⟨by simp [h.1], fun i r hr => ?_⟩
  rw [List.getElem?_set] at hr
  by_cases e : t = i
  · subst e
    rw [if_pos rfl] at hr
    split at hr
    · injection hr with hr
      subst hr
      refine ⟨by simp, fun j hj => ?_⟩
      simp [List.getD, hj]
    · cases hr
  · rw [if_neg e, List.getElem?_set] at hr
    by_cases e3 : q = i
    · subst e3
      rw [if_pos rfl] at hr
      split at hr
      · injection hr with hr
        subst hr
        obtain ⟨h1, h2⟩ := h.2 t rt hrt
        exact ⟨h1, fun j hj => by rw [h2 j hj]; simp [Ne.symm e]⟩
      · cases hr
    · rw [if_neg e3] at hr
      obtain ⟨h1, h2⟩ := h.2 i r hr
      exact ⟨h1, fun j hj => by rw [h2 j hj]; simp [Ne.symm e, Ne.symm e3]⟩
/-- the new row t while it is made -/
def sw1 (p : Int) (t q : Nat) (y : Int) (X : Nat → Nat → Int) (j : Nat) (i k : Nat) : Int := if i = t then (if k < j then X q k * y % p else 0) else if i = q then X t k else X i k
theorem sw1_zero (p : Int) (t q : Nat) (y : Int) (X : Nat → Nat → Int) : sw1 p t q y X 0 = fun i j => if i = t then 0 else if i = q then X t j else X i j := by
  funext i j; simp [sw1]
theorem sw1_next (p : Int) (t q : Nat) (y : Int) (X : Nat → Nat → Int) (j : Nat) : upd (sw1 p t q y X j) t j (X q j * y % p) = sw1 p t q y X (j + 1) := by
  funext a b
  by_cases e : a = t ∧ b = j
  · obtain ⟨rfl, rfl⟩ := e
    rw [upd_at, sw1, if_pos rfl, if_pos (by omega)]
  · rw [upd_ne e]
    unfold sw1
    by_cases h : a = t
    · rw [if_pos h, if_pos h]
      by_cases h2 : b < j
      · rw [if_pos h2, if_pos (by omega)]
      · rw [if_neg h2, if_neg (by omega)]
    · rw [if_neg h, if_neg h]
theorem sw1_end {p : Int} {t q : Nat} {y : Int} {X : Nat → Nat → Int} {N i j : Nat} (hj : j < N) : sw1 p t q y X N i j = swp p t q y X i j := by
  unfold sw1 swp
  simp [hj]
/-- row r while row t is taken off -/
def cl2 (p : Int) (t k r j : Nat) (B : Nat → Nat → Int) (a b : Nat) : Int := if a = r ∧ b < j then (B r b + (p - B r k) * B t b) % p else clr p t k r B a b
theorem cl2_zero (p : Int) (t k r : Nat) (B : Nat → Nat → Int) : cl2 p t k r 0 B = clr p t k r B := by funext a b; simp [cl2]
theorem cl2_next {p : Int} {t k r j : Nat} {B : Nat → Nat → Int} : upd (cl2 p t k r j B) r j ((B r j + (p - B r k) * B t j) % p) = cl2 p t k r (j + 1) B := by
  funext a b
  by_cases e : a = r ∧ b = j
  · obtain ⟨rfl, rfl⟩ := e
    rw [upd_at, cl2, if_pos ⟨rfl, by omega⟩]
  · rw [upd_ne e]
    unfold cl2
    by_cases h : a = r ∧ b < j
    · rw [if_pos h, if_pos ⟨h.1, by omega⟩]
    · rw [if_neg h, if_neg (fun h2 => e ⟨h2.1, by omega⟩)]
theorem cl2_end {p : Int} {t k r N a b : Nat} {B : Nat → Nat → Int} (hrt : r ≠ t) (hb : b < N) : cl2 p t k r N B a b = clr p t k (r + 1) B a b := by
  unfold cl2
  by_cases h : a = r
  · subst h
    rw [if_pos ⟨rfl, hb⟩, clr, if_pos ⟨by omega, hrt⟩]
  · rw [if_neg (fun h2 => h h2.1)]
    unfold clr
    by_cases h2 : a < r ∧ a ≠ t
    · rw [if_pos h2, if_pos ⟨by omega, h2.2⟩]
    · rw [if_neg h2, if_neg (fun h3 => h2 ⟨by omega, h3.2⟩)]
theorem clr_same {p : Int} {t k r : Nat} {B : Nat → Nat → Int} (h : r = t) : clr p t k r B = clr p t k (r + 1) B := by
  funext a b
  unfold clr
  by_cases h2 : a < r ∧ a ≠ t
  · rw [if_pos h2, if_pos ⟨by omega, h2.2⟩]
  · rw [if_neg h2, if_neg (fun h3 => h2 ⟨by omega, h3.2⟩)]
theorem mul_bd {x y : Int} {a b : Int} (hx : 0 ≤ x ∧ x ≤ a) (hy : 0 ≤ y ∧ y ≤ b) : 0 ≤ x * y ∧ x * y ≤ a * b :=
  ⟨Int.mul_nonneg hx.1 hy.1, Int.mul_le_mul hx.2 hy.2 hy.1 (by omega)⟩

/-- what reduce gives -/
def RedPost (p : Int) (m N : Nat) (M : Nat → Nat → Int) (w : World) (e : Ending) (w' : World) : Prop :=
  ∃ A' c' t l X, e = .returned (.slice A' t c') ∧ Mat w' w'.heap.size A' t (fun _ => N) X ∧ Rdc p m N M X N t l ∧ Below w.heap.size w w'

end Go.Proofs.Ythafmoofemfdmaa
