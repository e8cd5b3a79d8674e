/-
  Slices of ints, and of slices of ints, as functions of the index; the law's own helpers that copy and compare. Conditions: those that each contract names.
-/
import Derived.Test.YtcalfblghblhcaaFrame
import Derived.Test.YtcalfblghblhcaaBase
import Derived.Deep.OwnRows
import Derived.Deep.QuietTactic
import Derived.BigQuiet
namespace Go.Proofs.Ytcalfblghblhcaa
open Go.RowKit

theorem below_drewN {B : Nat} {a w : World} (h : Below B a w) (n : Nat) : Below B a (w.drewN n) := ⟨h.os, h.tape, h.output, h.size, h.block⟩

/-- a slice value at A of n ints, the i-th f i, below block B -/
def Ints (w : World) (B : Nat) (A : Option Addr) (n : Nat) (f : Nat → Int) : Prop :=
  0 < n → ∃ b off, A = some ⟨b, off, none⟩ ∧ b < B ∧ ∀ i, i < n → w.cell? ⟨b, off + i, none⟩ = some (.int .i64 (f i))
/-- a slice value at A of n rows, the i-th of L i ints -/
def Mat (w : World) (B : Nat) (A : Option Addr) (n : Nat) (L : Nat → Nat) (M : Nat → Nat → Int) : Prop :=
  0 < n → ∃ b off, A = some ⟨b, off, none⟩ ∧ b < B ∧ ∀ i, i < n → ∃ R C, w.cell? ⟨b, off + i, none⟩ = some (.slice R (L i) C) ∧ Ints w B R (L i) (M i)

theorem Ints.keep {w w' : World} {B B' : Nat} {A : Option Addr} {n : Nat} {f : Nat → Int} (h : Ints w B A n f) (hb : Below B w w') (hB : B ≤ B') : Ints w' B' A n f := fun h0 => by
  obtain ⟨b, off, e, hlt, hc⟩ := h h0
  exact ⟨b, off, e, by omega, fun i hi => (hb.cell (p := ⟨b, off + i, none⟩) hlt).trans (hc i hi)⟩
theorem Ints.congr {w : World} {B : Nat} {A : Option Addr} {n : Nat} {f g : Nat → Int} (h : Ints w B A n f) (hfg : ∀ i, i < n → f i = g i) : Ints w B A n g := fun h0 => by
  obtain ⟨b, off, e, hlt, hc⟩ := h h0
  exact ⟨b, off, e, hlt, fun i hi => by rw [hc i hi, hfg i hi]⟩
theorem Mat.keep {w w' : World} {B B' : Nat} {A : Option Addr} {n : Nat} {L : Nat → Nat} {M : Nat → Nat → Int} (h : Mat w B A n L M) (hb : Below B w w') (hB : B ≤ B') : Mat w' B' A n L M := fun h0 => by
  obtain ⟨b, off, e, hlt, hc⟩ := h h0
  refine ⟨b, off, e, by omega, fun i hi => ?_⟩
  obtain ⟨R, C, h1, h2⟩ := hc i hi
  exact ⟨R, C, (hb.cell (p := ⟨b, off + i, none⟩) hlt).trans h1, h2.keep hb hB⟩

theorem info_int : (Try.prog.info? 3).map (fun i => (i.zero, i.size, i.bytes)) = some (some (.int .i64 0), 1, 8) := by kernel_rfl

theorem szIntS_any (A : Option Addr) (n c : Nat) (left : Int) (w : World) (hn : n ≤ 9223372036854775807) (hl : 0 ≤ left) (hl2 : left ≤ 1048576) :
    Calls Try.prog 41 #[.slice A n c, .int .i64 left] w fun e w' => e = .returned (.int .i64 (if left < n then -1 else left - n)) ∧ w = w' := by
  by_cases h : left < n
  · refine calls_int (a := -1) (by rw [if_pos h]) ?_
    go_enter Try.func41, Try.ntmps41
    go_wp2
    go_ret
    exact ⟨rfl, rfl⟩
  · refine calls_int (a := left - n) (by rw [if_neg h]) ?_
    go_enter Try.func41, Try.ntmps41
    go_wp2
    go_ret
    exact ⟨rfl, rfl⟩

/-- a row of the call's own reads as a slice of ints -/
theorem Ints.of_row {w : World} {b n B : Nat} {t : TypeId} {f : Nat → Int} {g : Nat → Value} (h : w.rowIs b t n g) (hg : ∀ i, i < n → g i = .int .i64 (f i)) (hB : b < B) : Ints w B (some ⟨b, 0, none⟩) n f :=
  fun _ => ⟨b, 0, rfl, hB, fun i hi => by rw [Nat.zero_add, h.cell hi, hg i hi]⟩

theorem toIntS_any (A : Option Addr) (n c : Nat) (f : Nat → Int) (w : World) (hn : n ≤ 1048576) (h : Ints w w.heap.size A n f) :
    Calls Try.prog 14 #[.slice A n c] w fun e w' => e = .returned (.slice (some ⟨w.heap.size, 0, none⟩) n n) ∧ w'.rowIs w.heap.size 3 n (fun i => .int .i64 (f i)) ∧ Below w.heap.size w w' ∧ w'.heap.size = w.heap.size + 1 := by
  have hmk := run_make_row' (P := Try.prog) 23 3 (.int .i64 0) 8 Try.underlying23 info_int rfl .i64 .i64 n (by omega) (by omega)
  have Hh := hide h
  clear h
  go_enter Try.func14, Try.ntmps14
  go_wp2
  clear hmk
  go_loopw [4] (fun i wr => ∃ k : Nat, k ≤ n ∧ i = .int .i64 k ∧ wr.rowIs w.heap.size 3 n (fun j => if j < k then .int .i64 (f j) else .int .i64 0) ∧ Below w.heap.size w wr ∧ wr.heap.size = w.heap.size + 1) (fun i _ => n - (intOf i).toNat)
  case atStart => exact ⟨0, Nat.zero_le _, rfl, (World.rowIs_made w _ n _).congr (fun j _ => by simp), by go_grown, by simp⟩
  case round =>
    obtain ⟨k, hk, rfl, hrow, hb, hz⟩ := hrel
    have Hz := hide hz
    clear hz
    by_cases hlt : k < n
    · obtain ⟨b, off, rfl, hbl, hc⟩ := Hh.out (by omega)
      have hck := (hb.cell (p := ⟨b, off + k, none⟩) hbl).trans (hc k hlt)
      have hcd := hrow.cell hlt
      have hfz := hrow.frozen k
      clear hc
      go_wp2
      go_roundw
      case rel => exact ⟨k + 1, by omega, by go_num, ((hrow.set k _).congr (fun j _ => by by_cases e : j = k <;> simp [e]; by_cases h1 : j < k <;> simp [h1] <;> omega)), hb.setCell (p := ⟨w.heap.size, k, none⟩) (Nat.le_refl _) _, by simpa [World.setCell] using Hz.out⟩
      case measure => simp [intOf]; omega
    · obtain rfl : k = n := by omega
      go_wp2
      go_ret
      exact ⟨rfl, hrow.congr (fun j hj => by simp [hj]), hb, Hz.out⟩

/-- the rows that toIntSS makes: one block for the rows' values, one for each row -/
structure OwnMat (w : World) (b n : Nat) (L : Nat → Nat) (M : Nat → Nat → Int) : Prop where
  top : w.rowIs b 23 n (fun j => .slice (some ⟨b + 1 + j, 0, none⟩) (L j) (L j))
  rows : ∀ j, j < n → w.rowIs (b + 1 + j) 3 (L j) (fun i => .int .i64 (M j i))

theorem info_ints : (Try.prog.info? 23).map (fun i => (i.zero, i.size, i.bytes)) = some (some (.slice none 0 0), 1, 24) := by kernel_rfl

theorem toIntSS_any (A : Option Addr) (n c : Nat) (L : Nat → Nat) (M : Nat → Nat → Int) (w : World) (hn : n ≤ 1048576) (hL : ∀ i, i < n → L i ≤ 1048576) (h : Mat w w.heap.size A n L M) :
    Calls Try.prog 37 #[.slice A n c] w fun e w' => e = .returned (.slice (some ⟨w.heap.size, 0, none⟩) n n) ∧ OwnMat w' w.heap.size n L M ∧ Below w.heap.size w w' ∧ w'.heap.size = w.heap.size + 1 + n := by
  have hmk := run_make_row' (P := Try.prog) 22 23 (.slice none 0 0) 24 Try.underlying22 info_ints rfl .i64 .i64 n (by omega) (by omega)
  have Hh := hide h
  have HL := hide hL
  clear h hL
  go_enter Try.func37, Try.ntmps37
  go_wp2
  clear hmk
  go_loopw [4] (fun i wr => ∃ k : Nat, k ≤ n ∧ i = .int .i64 k ∧ wr.rowIs w.heap.size 23 n (fun j => if j < k then .slice (some ⟨w.heap.size + 1 + j, 0, none⟩) (L j) (L j) else .slice none 0 0) ∧ Below w.heap.size w wr ∧ wr.heap.size = w.heap.size + 1 + k ∧
      ∀ j, j < k → wr.rowIs (w.heap.size + 1 + j) 3 (L j) (fun i => .int .i64 (M j i))) (fun i _ => n - (intOf i).toNat)
  case atStart => exact ⟨0, Nat.zero_le _, rfl, (World.rowIs_made w _ n _).congr (fun j _ => by simp), by go_grown, by simp, by simp⟩
  case round =>
    obtain ⟨k, hk, rfl, hrow, hb, hz, hrows⟩ := hrel
    have Hz := hide hz
    have Hr := hide hrows
    clear hz hrows
    by_cases hlt : k < n
    · obtain ⟨b, off, rfl, hbl, hc⟩ := Hh.out (by omega)
      obtain ⟨R, C, hc1, hc2⟩ := hc k hlt
      have hck := (hb.cell (p := ⟨b, off + k, none⟩) hbl).trans hc1
      have hLk := HL.out k hlt
      clear hc hc1
      go_wp2_with fail
      refine (toIntS_any R (L k) C (M k) wr hLk (hc2.keep hb hb.size)).mono ?_
      rintro e w1 ⟨rfl, hr1, hb1, hz1⟩
      have hlt0 := hrow.lt
      have hrow1 := hrow.of_block (hb1.block _ hlt0)
      have hcd := hrow1.cell hlt
      have hfz := hrow1.frozen k
      have Hz1 := hide hz1
      clear hz1
      have hrk : w1.rowIs (w.heap.size + 1 + k) 3 (L k) (fun i => .int .i64 (M k i)) := by rw [← Hz.out]; exact hr1
      have hR : ∀ j, j < k + 1 → w1.rowIs (w.heap.size + 1 + j) 3 (L j) (fun i => .int .i64 (M j i)) := fun j hj => by
        by_cases e : j = k
        · subst e; exact hrk
        · exact (Hr.out j (by omega)).of_block (hb1.block _ (by rw [Hz.out]; omega))
      have HR := hide hR
      have hB1 : Below w.heap.size w w1 := up hb1 hb hb.size
      clear hR hrk hr1
      go_wp2
      go_roundw
      case rel =>
        refine ⟨k + 1, by omega, by go_num, (hrow1.set k _).congr (fun j _ => ?_), hB1.setCell (p := ⟨w.heap.size, k, none⟩) (Nat.le_refl _) _, ?_, fun j hj => (HR.out j hj).setOther (by show w.heap.size + 1 + j ≠ w.heap.size; omega) _⟩
        · rw [Hz.out]
          by_cases e : j = k
          · subst e; simp
          · rw [if_neg e]
            by_cases h1 : j < k
            · rw [if_pos h1, if_pos (by omega)]
            · rw [if_neg h1, if_neg (by omega)]
        · have := Hz.out; have := Hz1.out; simp [World.setCell]; omega
      case measure => simp [intOf]; omega
    · obtain rfl : k = n := by omega
      go_wp2
      go_ret
      exact ⟨rfl, ⟨hrow.congr (fun j hj => by simp [hj]), Hr.out⟩, hb, Hz.out⟩

/-- two rows of ints are alike -/
def eqB (n m : Nat) (f g : Nat → Int) : Bool := decide (n = m ∧ ∀ i, i < n → f i = g i)
theorem eqB_true {n m : Nat} {f g : Nat → Int} : eqB n m f g = true ↔ n = m ∧ ∀ i, i < n → f i = g i := by simp [eqB]
theorem eqB_self (n : Nat) (f : Nat → Int) : eqB n n f f = true := by simp [eqB]
theorem eqB_false {n m : Nat} {f g : Nat → Int} (h : ¬ (n = m ∧ ∀ i, i < n → f i = g i)) : eqB n m f g = false := by
  simp only [eqB, decide_eq_false_iff_not]; exact h

theorem eqIntS_any (A B : Option Addr) (n m c d : Nat) (f g : Nat → Int) (w : World) (hn : n ≤ 9223372036854775807) (hm : m ≤ 9223372036854775807) (h1 : Ints w w.heap.size A n f) (h2 : Ints w w.heap.size B m g) :
    Calls Try.prog 17 #[.slice A n c, .slice B m d] w fun e w' => e = .returned (.bool (eqB n m f g)) ∧ ∃ q, w' = w.drewN q := by
  have H1 := hide h1
  have H2 := hide h2
  clear h1 h2
  by_cases hnm : n = m
  · subst hnm
    go_enter Try.func17, Try.ntmps17
    go_wp2
    go_loopw [5] (fun i wr => ∃ k : Nat, k ≤ n ∧ i = .int .i64 k ∧ (∀ j, j < k → f j = g j) ∧ ∃ q, wr = w.drewN q) (fun i _ => n - (intOf i).toNat)
    case atStart => exact ⟨0, Nat.zero_le _, rfl, by simp, 0, rfl⟩
    case round =>
      obtain ⟨k, hk, rfl, hall, q, rfl⟩ := hrel
      have Hall := hide hall
      clear hall
      by_cases hlt : k < n
      · obtain ⟨b, off, rfl, hbl, hc⟩ := H1.out (by omega)
        obtain ⟨b2, off2, rfl, hbl2, hc2⟩ := H2.out (by omega)
        have hck := hc k hlt
        have hck2 := hc2 k hlt
        clear hc hc2
        by_cases he : f k = g k
        · have he' : (f k != g k) = false := by simp [he]
          have He := hide he
          clear he
          go_wp2
          go_quiet (fail)
          go_wp2
          go_roundw
          case rel => exact ⟨k + 1, by omega, by go_num, fun j hj => by
            by_cases e : j = k
            · subst e; exact He.out
            · exact Hall.out j (by omega), (by first | exact ⟨_, rfl⟩ | exact ⟨_, World.drewN_drewN _ _ _⟩)⟩
          case measure => simp [intOf]; omega
        · have he' : (f k != g k) = true := by simp [he]
          have He := hide he
          clear he
          go_wp2
          go_quiet (fail)
          go_wp2
          go_ret
          exact ⟨ret_bool (eqB_false (fun h => He.out (h.2 k hlt))).symm, (by first | exact ⟨_, rfl⟩ | exact ⟨_, World.drewN_drewN _ _ _⟩)⟩
      · obtain rfl : k = n := by omega
        go_wp2
        go_ret
        exact ⟨ret_bool (eqB_true.2 ⟨rfl, Hall.out⟩).symm, q, rfl⟩
  · have hnm' : ((n : Int) != m) = true := by simp; omega
    have Hnm := hide hnm
    clear hnm
    go_enter Try.func17, Try.ntmps17
    go_wp2
    go_ret
    exact ⟨ret_bool (eqB_false (fun h => Hnm.out h.1)).symm, 0, rfl⟩

/-- block g is just the cells cs of element type t, none frozen -/
def Blk (w : World) (g : Nat) (t : TypeId) (cs : Array Value) : Prop := w.heap[g]? = some (.cells cs t (0, 0))
section
variable {w w' : World} {g : Nat} {t : TypeId} {cs : Array Value}
theorem Blk.lt (h : Blk w g t cs) : g < w.heap.size := by
  rcases Nat.lt_or_ge g w.heap.size with hlt | hge
  · exact hlt
  · unfold Blk at h; rw [Array.getElem?_eq_none hge] at h; cases h
theorem Blk.cell (h : Blk w g t cs) (i : Nat) : w.cell? ⟨g, i, none⟩ = cs[i]? := cell_of_row w g i cs t (0, 0) h
theorem Blk.frozen (h : Blk w g t cs) (i : Nat) : w.frozen? ⟨g, i, none⟩ = false := by
  unfold Blk at h
  simp [World.frozen?, h]
theorem Blk.new (w : World) (t : TypeId) (cs : Array Value) : Blk (w.alloc (.cells cs t)) w.heap.size t cs := heap_alloc_new w _
theorem Blk.newAt {g : Nat} (hg : g = w.heap.size) (t : TypeId) (cs : Array Value) : Blk (w.alloc (.cells cs t)) g t cs := by subst hg; exact heap_alloc_new w _
theorem Blk.drew (h : Blk w g t cs) : Blk w.drew g t cs := h
theorem Blk.drewN (h : Blk w g t cs) (n : Nat) : Blk (w.drewN n) g t cs := h
theorem Blk.alloc (h : Blk w g t cs) (o : Obj) : Blk (w.alloc o) g t cs := (Below.heap_alloc w o g h.lt).trans h
theorem Blk.set_ (h : Blk w g t cs) (i : Nat) (u : Value) : Blk (w.setCell ⟨g, i, none⟩ u) g t (cs.setIfInBounds i u) := by
  unfold Blk at h ⊢
  simp [World.setCell, Array.getElem?_modify, h]
theorem Blk.far (h : Blk w g t cs) {p : Addr} (hp : g ≠ p.block) (u : Value) : Blk (w.setCell p u) g t cs := (Below.heap_setCell w p u g hp).trans h
theorem Blk.below {B : Nat} (h : Blk w g t cs) (hb : Below B w w') (hg : g < B) : Blk w' g t cs := (hb.block g hg).trans h
theorem Blk.grown {row : Option Nat} (h : Blk w g t cs) (hb : w.grownBy w' row) (hg : some g ≠ row) : Blk w' g t cs := (hb.block g h.lt hg).trans h
theorem Blk.at_ {i : Nat} {v : Value} (h : Blk w g t cs) (hc : cs[i]? = some v) : w.cell? ⟨g, i, none⟩ = some v := (h.cell i).trans hc
end
end Go.Proofs.Ytcalfblghblhcaa
