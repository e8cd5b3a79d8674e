/-
  Tables of the call's own that hold a matrix. No conditions: nothing is claimed of the program here.
-/
import Derived.Test.YtcalfblghblhcaaOwn4
import Derived.Laws.CopyOwn
namespace Go.Proofs.Ytcalfblghblhcaa
open Go.RowKit

/-- a number in another one's place -/
def upd (C : Nat → Nat → Int) (a b : Nat) (v : Int) : Nat → Nat → Int := fun i j => if i = a ∧ j = b then v else C i j
theorem upd_at (C : Nat → Nat → Int) (a b : Nat) (v : Int) : upd C a b v a b = v := by simp [upd]
theorem upd_ne {C : Nat → Nat → Int} {a b i j : Nat} {v : Int} (h : ¬ (i = a ∧ j = b)) : upd C a b v i j = C i j := by simp [upd, h]

/-- the table holds n rows of m numbers C -/
def TbC (R : List Sl) (n m : Nat) (C : Nat → Nat → Int) : Prop := R.length = n ∧ ∀ i r, R[i]? = some r → r.xs.length = m ∧ ∀ j, j < m → r.xs.getD j 0 = C i j
theorem TbC.nil (m : Nat) (C : Nat → Nat → Int) : TbC [] 0 m C := ⟨rfl, fun i r h => by simp at h⟩
theorem TbC.row {R : List Sl} {n m i : Nat} {C : Nat → Nat → Int} (h : TbC R n m C) (hi : i < n) : ∃ r, R[i]? = some r ∧ r.xs.length = m ∧ ∀ j, j < m → r.xs.getD j 0 = C i j := by
  have hi' : i < R.length := by rw [h.1]; exact hi
  exact ⟨R[i], List.getElem?_eq_getElem hi', h.2 i _ (List.getElem?_eq_getElem hi')⟩
theorem TbC.congr {R : List Sl} {n m : Nat} {C D : Nat → Nat → Int} (h : TbC R n m C) (hh : ∀ i j, i < n → j < m → C i j = D i j) : TbC R n m D := by
  refine ⟨h.1, fun i r hr => ?_⟩
  obtain ⟨h1, h2⟩ := h.2 i r hr
  have hi : i < n := by
    rw [← h.1]
    rcases Nat.lt_or_ge i R.length with h1 | h1
    · exact h1
    · rw [List.getElem?_eq_none h1] at hr; cases hr
  exact ⟨h1, fun j hj => by rw [h2 j hj, hh i j hi hj]⟩
theorem TbC.push {R : List Sl} {n m : Nat} {C : Nat → Nat → Int} {A : Option Addr} {c : Nat} {xs : List Int} (h : TbC R n m C) (hl : xs.length = m) (hx : ∀ j, j < m → xs.getD j 0 = C n j) : TbC (R ++ [⟨A, c, xs⟩]) (n + 1) m C := by
  refine ⟨by simp [h.1], fun i r hr => ?_⟩
  rw [List.getElem?_append] at hr
  split at hr
  · exact h.2 i r hr
  · rename_i h1
    have h0 : i - R.length = 0 := by
      rcases Nat.lt_or_ge (i - R.length) 1 with h2 | h2
      · omega
      · rw [List.getElem?_eq_none (by simpa using h2)] at hr; cases hr
    rw [h0] at hr
    have hi : i = n := by have := h.1; omega
    simp only [List.getElem?_cons_zero, Option.some.injEq] at hr
    subst hr
    subst hi
    exact ⟨hl, hx⟩
theorem TbC.set {R : List Sl} {n m i j : Nat} {C : Nat → Nat → Int} {r : Sl} {v : Int} (h : TbC R n m C) (hr : R[i]? = some r) (hj : j < m) : TbC (R.set i ⟨r.A, r.c, r.xs.set j v⟩) n m (upd C i j v) := by
  obtain ⟨h1, h2⟩ := h.2 i r hr
  refine ⟨by simp [h.1], fun a s hs => ?_⟩
  rw [List.getElem?_set] at hs
  split at hs
  · rename_i e
    subst e
    split at hs
    · injection hs with hs
      subst hs
      refine ⟨by simp [h1], fun b hb => ?_⟩
      by_cases e : b = j
      · subst e
        rw [upd_at]
        simp [List.getD, h1, hb]
      · rw [upd_ne (by rintro ⟨_, h⟩; exact e h), ← h2 b hb]
        simp only [List.getD, List.getElem?_set]
        rw [if_neg (fun h => e h.symm)]
    · cases hs
  · rename_i e
    obtain ⟨h3, h4⟩ := h.2 a s hs
    exact ⟨h3, fun b hb => by rw [upd_ne (by rintro ⟨h, _⟩; exact e h.symm)]; exact h4 b hb⟩
theorem TbC.mat {R : List Sl} {w : World} {base top n m c : Nat} {A : Option Addr} {C : Nat → Nat → Int} (h : TbC R n m C) (ht : TabD w base top A n c R) : Mat w w.heap.size A n (fun _ => m) C := fun h0 => by
  obtain ⟨b, off, e, hb, hc⟩ := ht.tab.mat h0
  refine ⟨b, off, e, hb, fun i hi => ?_⟩
  obtain ⟨r, hr, h1, h2⟩ := h.row hi
  obtain ⟨R1, C1, h3, h4⟩ := hc i hi
  simp only [List.getD, hr, Option.getD_some] at h3 h4
  rw [h1] at h3 h4
  exact ⟨R1, C1, h3, h4.congr (fun j hj => h2 j hj)⟩
theorem TbC.mt {R : List Sl} {w : World} {base top n m c : Nat} {A : Option Addr} {C : Nat → Nat → Int} (h : TbC R n m C) (ht : TabD w base top A n c R) : MT w base w.heap.size A n (fun _ => m) C :=
  (MT.of_tab ht).congr fun i hi => by
    obtain ⟨r, hr, h1, h2⟩ := h.row hi
    simp only [List.getD, hr, Option.getD_some]
    exact ⟨h1, fun j hj => h2 j (by omega)⟩

/-- a row and a number in it, as the walk reads and writes them -/
structure AtC (w : World) (base top : Nat) (b : Nat) (n m c : Nat) (C : Nat → Nat → Int) (i j : Nat) (b0 c0 : Nat) : Prop where
  row : w.cell? ⟨b, i, none⟩ = some (.slice (some ⟨b0, 0, none⟩) m c0)
  cell : w.cell? ⟨b0, j, none⟩ = some (.int .i64 (C i j))
  fz : w.frozen? ⟨b0, j, none⟩ = false
  lo : base ≤ b0
  hi : b0 < top
  blt : b0 < w.heap.size
  cap : m ≤ c0
  ne : b0 ≠ b
  set : ∀ v, ∃ R', TabD (w.setCell ⟨b0, j, none⟩ (.int .i64 v)) base top (some ⟨b, 0, none⟩) n c R' ∧ TbC R' n m (upd C i j v)
theorem TbC.at_ {R : List Sl} {w : World} {base top n m b c : Nat} {C : Nat → Nat → Int} (h : TbC R n m C) (ht : TabD w base top (some ⟨b, 0, none⟩) n c R) {i j : Nat} (hi : i < n) (hj : j < m) : ∃ b0 c0, AtC w base top b n m c C i j b0 c0 := by
  obtain ⟨r, hr, h1, h2⟩ := h.row hi
  obtain ⟨b', r', e, _, _, hr', hc, _, _⟩ := ht.tab.at_ hi
  obtain rfl : b = b' := by simpa using e
  obtain rfl : r = r' := by rw [hr] at hr'; injection hr'
  obtain ⟨b0, e0, p1, p2, d0, g0, hs⟩ := ht.setIn hr (j := j) (by omega)
  rw [e0, h1] at hc
  rw [h2 j hj] at d0
  have hrow := ht.row hr
  have hcap := hrow.cap
  have hne : b0 ≠ b := fun eq => by
    rcases own_ne hrow.2 ht.tab.2.1 (by decide) with h3 | h3
    · rw [ownBlock_slice, e0] at h3; cases h3
    · rw [ownBlock_slice, ownBlock_slice, e0] at h3
      exact h3 (by simp [eq])
  exact ⟨b0, r.c, hc, d0, g0, p1, ht.under r (List.mem_of_getElem? hr) b0 (by rw [Sl.blk, e0]; rfl), p2, by omega, hne, fun v => ⟨_, hs v, h.set hr hj⟩⟩

/-- a block of ints of the call's own is a row -/
theorem Row.of_blk {w : World} {base g : Nat} {xs : List Int} (h : w.heap[g]? = some (.cells (xs.map (Value.int .i64)).toArray 3 (0, 0))) (hb : base ≤ g) (hm : xs.length ≤ 1000000 := by omega) : Row w base (some ⟨g, 0, none⟩) xs.length xs.length xs :=
  ⟨rfl, by simp, .inr ⟨g, xs.length, _, rfl, hb, h, Nat.le_refl _, by unfold maxLen; omega, by simp, by rw [List.take_of_length_le (by simp)]⟩⟩
/-- where a row lies -/
theorem Row.some_ {w : World} {base n c : Nat} {A : Option Addr} {xs : List Int} (h : Row w base A n c xs) (hn : 0 < n) : ∃ g, A = some ⟨g, 0, none⟩ ∧ base ≤ g ∧ g < w.heap.size := by
  rcases h.form with ⟨_, h0, _⟩ | ⟨g, e, h1, h2, _⟩
  · omega
  · exact ⟨g, e, h1, h2⟩
end Go.Proofs.Ytcalfblghblhcaa
