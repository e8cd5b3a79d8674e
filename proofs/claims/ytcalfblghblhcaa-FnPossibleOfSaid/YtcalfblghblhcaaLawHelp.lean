/-
  The laws' helpers over lists: equalInts, total, times. Conditions: those that each contract names.
-/
import Derived.Test.YtcalfblghblhcaaMem
namespace Go.Proofs.Ytcalfblghblhcaa
open Go.RowKit

theorem equalInts_any (A B : Option Addr) (n m c d : Nat) (f g : Nat → Int) (w : World) (hn : n ≤ 9223372036854775807) (hm : m ≤ 9223372036854775807) (h1 : Ints w w.heap.size A n f) (h2 : Ints w w.heap.size B m g) :
    Calls Try.prog 20 #[.slice A n c, .slice B m d] w fun e w' => e = .returned (.bool (eqB n m f g)) ∧ ∃ q, w' = w.drewN q := by
  have H1 := hide h1
  have H2 := hide h2
  clear h1 h2
  by_cases hnm : n = m
  · subst hnm
    go_enter Try.func20, Try.ntmps20
    go_wp2
    go_loopw [5] (fun i wr => ∃ k : Nat, k ≤ n ∧ i = .int .i64 k ∧ (∀ j, j < k → f j = g j) ∧ ∃ q, wr = w.drewN q) (fun i _ => n - (intOf i).toNat)
    case atStart => exact ⟨0, Nat.zero_le _, rfl, by simp, 0, rfl⟩
    case round =>
      obtain ⟨k, hk, rfl, hall, q, rfl⟩ := hrel
      have Hall := hide hall
      clear hall
      by_cases hlt : k < n
      · obtain ⟨b, off, rfl, hbl, hc⟩ := H1.out (by omega)
        obtain ⟨b2, off2, rfl, hbl2, hc2⟩ := H2.out (by omega)
        have hck := hc k hlt
        have hck2 := hc2 k hlt
        clear hc hc2
        by_cases he : f k = g k
        · have he' : (f k != g k) = false := by simp [he]
          have He := hide he
          clear he
          go_wp2
          go_quiet (fail)
          go_wp2
          go_roundw
          case rel => exact ⟨k + 1, by omega, by go_num, fun j hj => by
            by_cases e : j = k
            · subst e; exact He.out
            · exact Hall.out j (by omega), (by first | exact ⟨_, rfl⟩ | exact ⟨_, World.drewN_drewN _ _ _⟩)⟩
          case measure => simp [intOf]; omega
        · have he' : (f k != g k) = true := by simp [he]
          have He := hide he
          clear he
          go_wp2
          go_quiet (fail)
          go_wp2
          go_ret
          exact ⟨ret_bool (eqB_false (fun h => He.out (h.2 k hlt))).symm, (by first | exact ⟨_, rfl⟩ | exact ⟨_, World.drewN_drewN _ _ _⟩)⟩
      · obtain rfl : k = n := by omega
        go_wp2
        go_ret
        exact ⟨ret_bool (eqB_true.2 ⟨rfl, Hall.out⟩).symm, q, rfl⟩
  · have hnm' : ((n : Int) != m) = true := by simp; omega
    have Hnm := hide hnm
    clear hnm
    go_enter Try.func20, Try.ntmps20
    go_wp2
    go_ret
    exact ⟨ret_bool (eqB_false (fun h => Hnm.out h.1)).symm, 0, rfl⟩


theorem equalInts_b (A B : Option Addr) (n c d : Nat) (f : Nat → Int) (w : World) (hn : n ≤ 9223372036854775807) (h1 : Ints w w.heap.size A n f) (h2 : Ints w w.heap.size B n f) :
    Calls Try.prog 20 #[.slice A n c, .slice B n d] w fun e w' => e = .returned (.bool true) ∧ Below w.heap.size w w' :=
  (equalInts_any A B n n c d f f w hn hn h1 h2).mono fun _ _ ⟨he, q, hw⟩ => ⟨by rw [he, eqB_self], by rw [hw]; exact below_drewN (Below.refl _ _) _⟩

/-- the sum of the first n numbers -/
def totN (f : Nat → Int) : Nat → Int | 0 => 0 | n + 1 => totN f n + f n
theorem total_any (A : Option Addr) (n c : Nat) (f : Nat → Int) (w : World) (hn : n ≤ 9223372036854775807) (h : Ints w w.heap.size A n f) (hb : ∀ j, j ≤ n → -9000000000000000000 ≤ totN f j ∧ totN f j ≤ 9000000000000000000) :
    Calls Try.prog 23 #[.slice A n c] w fun e w' => e = .returned (.int .i64 (totN f n)) ∧ w = w' := by
  have H := hide h
  have HB := hide hb
  clear h hb
  go_enter Try.func23, Try.ntmps23
  go_wp2
  go_loop [3, 4] (fun v i => ∃ j : Nat, j ≤ n ∧ i = .int .i64 j ∧ v = .int .i64 (totN f j)) (fun _ i => n - (intOf i).toNat)
  case atStart => exact ⟨0, by omega, rfl, rfl⟩
  case round =>
    obtain ⟨j, hj, rfl, rfl⟩ := hrel
    by_cases hlt : j < n
    · obtain ⟨b, off, rfl, hbl, hc⟩ := H.out (by omega)
      have hck := hc j hlt
      clear hc
      have b1 := HB.out (j + 1) (by omega)
      simp only [totN] at b1
      go_wp2
      go_round
      case rel => exact ⟨j + 1, by omega, by go_num, rfl⟩
      case measure => simp [intOf]; omega
    · obtain rfl : j = n := by omega
      go_wp2
      go_ret
      exact ⟨rfl, rfl⟩

end Go.Proofs.Ytcalfblghblhcaa
