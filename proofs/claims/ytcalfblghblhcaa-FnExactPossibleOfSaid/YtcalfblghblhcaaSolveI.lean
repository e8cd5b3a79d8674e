/-
  Solving rows, the program's: the first number that is not 0, a multiple of a list added, in place. Conditions: the lists can be read, of numbers over a prime.
-/
import Derived.Test.YtcalfblghblhcaaSolveS
import Derived.Deep.RegionHeld3
import Derived.Deep.DeepCutAuto
namespace Go.Proofs.Ytcalfblghblhcaa
open Go.RowKit

theorem quietM {P : Program} {f : FuncId} {args : Array Value} {w : World} {n : Nat} {v : Value}
    (h : Calls P f args (w.drewN n) fun e w' => e = .returned v ∧ w.drewN n = w') :
    Calls P f args (w.drewN n) fun e w'' => e = .returned v ∧ ∃ m, w'' = w.drewN m :=
  h.mono fun _ _ ⟨he, hm⟩ => ⟨he, n, hm.symm⟩

/-- the index of the first number that is not 0, or -1 -/
def ldF (f : Nat → Int) (n : Nat) : Int := match (List.range n).find? (fun i => f i != 0) with | some k => (k : Int) | none => -1
theorem ldF_some {f : Nat → Int} {n k : Nat} (hk : k < n) (h : f k ≠ 0) (hl : ∀ i, i < k → f i = 0) : ldF f n = k := by
  have : (List.range n).find? (fun i => f i != 0) = some k := by
    rw [List.find?_range_eq_some]
    exact ⟨by simp [h], List.mem_range.2 hk, fun j hj => by simp [hl j hj]⟩
  rw [ldF, this]
theorem ldF_none {f : Nat → Int} {n : Nat} (h : ∀ i, i < n → f i = 0) : ldF f n = -1 := by
  have : (List.range n).find? (fun i => f i != 0) = none := by
    rw [List.find?_eq_none]
    intro j hj
    rw [List.mem_range] at hj
    simp [h j hj]
  rw [ldF, this]
theorem lead1_any (x : Int) (w : World) : Calls Try.prog 100 #[.int .i64 x] w fun e w' => e = .returned (.bool (x != 0)) ∧ w = w' := by
  go_enter Try.func100, Try.ntmps100
  go_wp2_with fail
  go_ret
  exact ⟨rfl, rfl⟩
theorem leadIndex_any (A : Option Addr) (n c : Nat) (f : Nat → Int) (w : World) (hn : n ≤ 9223372036854775807) (h : Ints w w.heap.size A n f) :
    Calls Try.prog 96 #[.slice A n c, .func (.func 100) #[] #[]] w fun e w' => e = .returned (.int .i64 (ldF f n)) ∧ w = w' := by
  have H := hide h
  have HC := hide (fun x => lead1_any x w)
  clear h
  go_enter Try.func96, Try.ntmps96
  go_wp2_with fail
  go_loop [8] (fun i => ∃ k : Nat, k ≤ n ∧ i = .int .i64 k ∧ (∀ j, j < k → f j = 0)) (fun i => n - (intOf i).toNat)
  case atStart => exact ⟨0, Nat.zero_le _, rfl, by simp⟩
  case round =>
    obtain ⟨k, hk, rfl, hall⟩ := hrel
    have Hall := hide hall
    clear hall
    by_cases hlt : k < n
    · obtain ⟨b, off, rfl, hbl, hc⟩ := H.out (by omega)
      have hck := hc k hlt
      clear hc
      by_cases h0 : f k = 0
      · have hx : (f k != 0) = false := by simp [h0]
        have H0 := hide h0
        clear h0
        go_wp2_with fail
        refine (HC.out _).mono ?_
        rintro e w' ⟨rfl, rfl⟩
        rw [hx]
        go_wp2_with fail
        go_round
        case rel => exact ⟨k + 1, by omega, by go_num, fun j hj => by
          by_cases e : j = k
          · subst e; exact H0.out
          · exact Hall.out j (by omega)⟩
        case measure => simp [intOf]; omega
      · have hx : (f k != 0) = true := by simp [h0]
        have HF := hide (ldF_some hlt h0 Hall.out)
        clear h0
        go_wp2_with fail
        refine (HC.out _).mono ?_
        rintro e w' ⟨rfl, rfl⟩
        rw [hx]
        go_wp2_with fail
        go_ret
        exact ⟨ret_int HF.out.symm, rfl⟩
    · obtain rfl : k = n := by omega
      have HF := hide (ldF_none Hall.out)
      go_wp2_with fail
      go_ret
      exact ⟨ret_int HF.out.symm, rfl⟩
theorem lead_any (A : Option Addr) (n c : Nat) (f : Nat → Int) (w : World) (hn : n ≤ 9223372036854775807) (h : Ints w w.heap.size A n f) :
    Calls Try.prog 90 #[.slice A n c] w fun e w' => e = .returned (.int .i64 (ldF f n)) ∧ w = w' := by
  have H := hide (leadIndex_any A n c f w hn h)
  clear h
  go_enter Try.func90, Try.ntmps90
  go_wp2_with fail
  refine (H.out).mono ?_
  rintro e w' ⟨rfl, rfl⟩
  go_wp2_with fail
  go_ret
  exact ⟨rfl, rfl⟩

theorem listOf_setAt {m j : Nat} {f : Nat → Int} {v : Int} : (listOf m f).set j v = listOf m (fun i => if i = j then v else f i) := listOf_set m f j v
/-- a multiple of a list added in place, up to index j -/
def addU (p : Int) (x : Nat → Int) (t : Int) (y : Nat → Int) (j i : Nat) : Int := if i < j then addm p x t y i else x i
theorem add_any (p t : Int) (b m c b2 o2 c2 : Nat) (x y : Nat → Int) (w : World) (hp : isP p = true) (ht : -7 ≤ t ∧ t ≤ 7) (hm : m ≤ 1000) (hx : ∀ i, i < m → 0 ≤ x i ∧ x i < p) (hy : ∀ i, i < m → 0 ≤ y i ∧ y i < p) (h : Row w 0 (some ⟨b, 0, none⟩) m c (listOf m x)) (hb : b2 ≠ b)
    (h2 : ∀ i, i < m → w.cell? ⟨b2, o2 + i, none⟩ = some (.int .i64 (y i))) :
    Calls Try.prog 91 #[.int .i64 p, .slice (some ⟨b, 0, none⟩) m c, .int .i64 t, .slice (some ⟨b2, o2, none⟩) m c2] w fun e w' => e = .returned (.tuple #[]) ∧ Row w' 0 (some ⟨b, 0, none⟩) m c (listOf m (addm p x t y)) ∧ OnlyA (some ⟨b, 0, none⟩) w w' ∧ w'.heap.size = w.heap.size := by
  have hpb := isP_pos hp
  have HX := hide hx
  have HY := hide hy
  have HR := hide h
  have H2 := hide h2
  clear hx hy h h2 hp
  go_enter Try.func91, Try.ntmps91
  go_wp2_with fail
  go_loopw [12] (fun i wr => ∃ j : Nat, j ≤ m ∧ i = .int .i64 j ∧ Row wr 0 (some ⟨b, 0, none⟩) m c (listOf m (addU p x t y j)) ∧ OnlyA (some ⟨b, 0, none⟩) w wr ∧ wr.heap.size = w.heap.size ∧ ∀ i, i < m → wr.cell? ⟨b2, o2 + i, none⟩ = some (.int .i64 (y i))) (fun i _ => m - (intOf i).toNat)
  case atStart => exact ⟨0, by omega, rfl, by rw [listOf_congr (g := x) (fun i _ => by simp [addU])]; exact HR.out, OnlyA.refl _ _, rfl, H2.out⟩
  case round =>
    obtain ⟨j, hj, rfl, hrow, ho, hz, hc⟩ := hrel
    have HO := hide ho
    have HC := hide hc
    have HZ := hide hz
    by_cases hlt : j < m
    · obtain ⟨b0, e0, q1, q2, q3, q4, q5⟩ := hrow.at_ (i := j) hlt
      obtain rfl : b = b0 := by simpa using e0
      have hcj := hc j hlt
      rw [listOf_getD _ hlt, addU, if_neg (by omega)] at q3
      have HS := hide (show Row (wr.setCell ⟨b, j, none⟩ (.int .i64 (addm p x t y j))) 0 (some ⟨b, 0, none⟩) m c (listOf m (addU p x t y (j + 1))) from by
        have := q5 (addm p x t y j)
        rw [listOf_set] at this
        rw [show addU p x t y (j + 1) = fun i => if i = j then addm p x t y j else addU p x t y j i from by
          funext i
          unfold addU
          by_cases e : i = j
          · subst e; rw [if_pos (by omega), if_pos rfl]
          · rw [if_neg e]
            by_cases h : i < j
            · rw [if_pos h, if_pos (by omega)]
            · rw [if_neg h, if_neg (by omega)]]
        exact this)
      have HC2 := hide (show ∀ v i, i < m → (wr.setCell ⟨b, j, none⟩ v).cell? ⟨b2, o2 + i, none⟩ = some (.int .i64 (y i)) from fun v i hi => by
        rw [World.cell?_setCell_other _ _ _ _ (fun h => hb (by injection h with h; exact h.symm))]
        exact HC.out i hi)
      have b1 := HX.out j hlt
      have b2' := HY.out j hlt
      have hpr : -49 ≤ t * y j ∧ t * y j ≤ 49 := by
        rcases Int.le_total 0 t with h | h
        · have := mul_bd (a := 7) (b := 7) (show 0 ≤ t ∧ t ≤ 7 by omega) (show 0 ≤ y j ∧ y j ≤ 7 by omega)
          omega
        · have h1 := mul_bd (a := 7) (b := 7) (show 0 ≤ -t ∧ -t ≤ 7 by omega) (show 0 ≤ y j ∧ y j ≤ 7 by omega)
          rw [Int.neg_mul] at h1
          omega
      have HA := hide (show addm p x t y j = (x j + t * y j) % p from rfl)
      have HRS := hide (fun W => rest_any p (x j + t * y j) W (by omega) (by omega))
      clear q5 e0 hrow ho hc
      generalize addm p x t y j = z at *
      generalize x j = x1 at *
      generalize y j = y1 at *
      go_wp2_with fail
      refine (HRS.out _).mono ?_
      rintro e _ ⟨rfl, rfl⟩
      rw [← HA.out]
      go_wp2_with fail
      go_roundw
      case rel => exact ⟨j + 1, by omega, by go_num, HS.out, HO.out.set_ _, by simpa [World.setCell] using HZ.out, HC2.out _⟩
      case measure => simp [intOf]; omega
    · obtain rfl : j = m := by omega
      have HF := hide (show Row wr 0 (some ⟨b, 0, none⟩) j c (listOf j (addm p x t y)) from by
        rw [listOf_congr (g := addU p x t y j) (fun i hi => by rw [addU, if_pos hi])]; exact hrow)
      clear hrow hc
      go_wp2_with fail
      go_end0
      exact ⟨rfl, HF.out, HO.out, HZ.out⟩
end Go.Proofs.Ytcalfblghblhcaa
