/-
  slices.IndexFunc and ContainsFunc with the program's own predicates; the program's 'has'. Conditions: the slice can be read.
-/
import Derived.Test.YtcalfblghblhcaaFieldA
namespace Go.Proofs.Ytcalfblghblhcaa
open Go.RowKit

theorem has1_any (p x : Int) (B : Nat) (w : World) (hp : 2 ≤ p ∧ p ≤ 7) (hc : w.cell? ⟨B, 0, none⟩ = some (.int .i64 p)) :
    Calls Try.prog 86 #[.int .i64 x, .pointer (some ⟨B, 0, none⟩)] w fun e w' => e = .returned (.bool (!inR x 0 (p - 1))) ∧ w = w' := by
  go_enter Try.func86, Try.ntmps86
  go_wp2_with (first | (go_at_call 79; refine (within_any _ _ _ _).mono ?_; rintro e w' ⟨rfl, rfl⟩))
  go_ret
  exact ⟨rfl, rfl⟩

/-- all of the first n numbers are rests of p -/
def allR (n : Nat) (f : Nat → Int) (p : Int) : Bool := decide (∀ i, i < n → inR (f i) 0 (p - 1) = true)
theorem allR_true {n : Nat} {f : Nat → Int} {p : Int} : allR n f p = true ↔ ∀ i, i < n → inR (f i) 0 (p - 1) = true := by simp [allR]

theorem hasIndex_any (p : Int) (B : Nat) (A : Option Addr) (n c : Nat) (f : Nat → Int) (w : World) (hn : n ≤ 9223372036854775807) (h : Ints w w.heap.size A n f) (hp : 2 ≤ p ∧ p ≤ 7) (hcb : w.cell? ⟨B, 0, none⟩ = some (.int .i64 p)) :
    Calls Try.prog 96 #[.slice A n c, .func (.func 86) #[] #[.pointer (some ⟨B, 0, none⟩)]] w fun e w' => ∃ r : Int, e = .returned (.int .i64 r) ∧ (decide (0 ≤ r) = !allR n f p) ∧ w = w' := by
  have H := hide h
  have HC := hide (fun x => has1_any p x B w hp hcb)
  clear h hcb
  go_enter Try.func96, Try.ntmps96
  go_wp2_with fail
  go_loop [8] (fun i => ∃ k : Nat, k ≤ n ∧ i = .int .i64 k ∧ (∀ j, j < k → inR (f j) 0 (p - 1) = true)) (fun i => n - (intOf i).toNat)
  case atStart => exact ⟨0, Nat.zero_le _, rfl, by simp⟩
  case round =>
    obtain ⟨k, hk, rfl, hall⟩ := hrel
    have Hall := hide hall
    clear hall
    by_cases hlt : k < n
    · obtain ⟨b, off, rfl, hbl, hc⟩ := H.out (by omega)
      have hck := hc k hlt
      clear hc
      cases hx : inR (f k) 0 (p - 1)
      · go_wp2_with fail
        refine (HC.out _).mono ?_
        rintro e w' ⟨rfl, rfl⟩
        rw [hx]
        go_wp2_with fail
        go_ret
        exact ⟨k, rfl, by simp [allR]; exact ⟨k, hlt, by simpa using hx⟩, rfl⟩
      · go_wp2_with fail
        refine (HC.out _).mono ?_
        rintro e w' ⟨rfl, rfl⟩
        rw [hx]
        go_wp2_with fail
        go_round
        case rel => exact ⟨k + 1, by omega, by go_num, fun j hj => by
          by_cases e : j = k
          · subst e; exact hx
          · exact Hall.out j (by omega)⟩
        case measure => simp [intOf]; omega
    · obtain rfl : k = n := by omega
      go_wp2_with fail
      go_ret
      exact ⟨-1, rfl, by rw [allR_true.2 Hall.out]; rfl, rfl⟩

theorem hasContains_any (p : Int) (B : Nat) (A : Option Addr) (n c : Nat) (f : Nat → Int) (w : World) (hn : n ≤ 9223372036854775807) (h : Ints w w.heap.size A n f) (hp : 2 ≤ p ∧ p ≤ 7) (hcb : w.cell? ⟨B, 0, none⟩ = some (.int .i64 p)) :
    Calls Try.prog 77 #[.slice A n c, .func (.func 86) #[] #[.pointer (some ⟨B, 0, none⟩)]] w fun e w' => e = .returned (.bool (!allR n f p)) ∧ w = w' := by
  have H := hide (hasIndex_any p B A n c f w hn h hp hcb)
  clear h hcb
  go_enter Try.func77, Try.ntmps77
  go_wp2_with fail
  refine (H.out).mono ?_
  rintro e w' ⟨r, rfl, hr, rfl⟩
  have Hr := hide hr
  clear hr
  go_wp2_with fail
  go_ret
  exact ⟨ret_bool Hr.out, rfl⟩

theorem has_any (p : Int) (A : Option Addr) (n c : Nat) (f : Nat → Int) (w : World) (hn : n ≤ 9223372036854775807) (h : Ints w w.heap.size A n f) (hp : 2 ≤ p ∧ p ≤ 7) :
    Calls Try.prog 68 #[.int .i64 p, .slice A n c] w fun e w' => e = .returned (.bool (allR n f p)) ∧ Below w.heap.size w w' := by
  have H := hide (hasContains_any p w.heap.size A n c f (w.alloc (.cells #[.int .i64 p] 65)) hn (h.keep ((Below.refl _ _).alloc (Nat.le_refl _) _) (by simp)) hp (by simp))
  clear h
  go_enter Try.func68, Try.ntmps68
  go_wp2_with fail
  refine (H.out).mono ?_
  rintro e w' ⟨rfl, rfl⟩
  go_wp2_with fail
  go_ret
  exact ⟨ret_bool (by simp), by go_grown⟩
end Go.Proofs.Ytcalfblghblhcaa
