/-
  FnInverseOf returns true for every code: the walk. Conditions: none.
-/
import Derived.Test.YthafmoofemfdmaaDrawInv
import Derived.Test.YthafmoofemfdmaaField
namespace Go.Proofs.Ythafmoofemfdmaa
open Go.RowKit

theorem invOf_back {p x : Int} (h : 0 ≤ invOf p x) : (1 ≤ invOf p x ∧ invOf p x ≤ 6) ∧ (2 ≤ p ∧ p ≤ 7) ∧ (1 ≤ x ∧ x ≤ 6) ∧ (invOf p x * x % p == 1) = true ∧ invOf p (invOf p x) = x := by
  unfold invOf at h
  split at h
  · rename_i hc
    simp only [Bool.and_eq_true, inR_true] at hc
    have hx : (p = 2 ∧ x = 1) ∨ (p = 3 ∧ (x = 1 ∨ x = 2)) ∨ (p = 5 ∧ (x = 1 ∨ x = 2 ∨ x = 3 ∨ x = 4)) ∨ (p = 7 ∧ (x = 1 ∨ x = 2 ∨ x = 3 ∨ x = 4 ∨ x = 5 ∨ x = 6)) := by
      rcases isP_true.1 hc.1 with rfl | rfl | rfl | rfl <;> omega
    rcases hx with ⟨rfl, rfl⟩ | ⟨rfl, rfl | rfl⟩ | ⟨rfl, rfl | rfl | rfl | rfl⟩ | ⟨rfl, rfl | rfl | rfl | rfl | rfl | rfl⟩ <;> decide
  · omega

theorem fnInverseOf_walk (a : Option Addr) (len cap : Nat) (zs : List Int) (w : World) (h : IsRow .u8 w a len cap zs) :
    Calls Try.prog 4 #[.slice a len cap] w fun e w' => e = .returned (.bool true) ∧ Below w.heap.size w w' := by
  have hlen : len ≤ 9223372036854775807 := by obtain ⟨h1, h2, _⟩ := bytes_in h; unfold maxLen at h2; omega
  have Hh := hide h
  clear h
  by_cases hl : 1048576 < len
  · go_enter Try.func4, Try.ntmps4
    go_wp2_with fail
    go_ret
    exact ⟨rfl, by go_grown⟩
  go_enter Try.func4, Try.ntmps4
  go_wp2_with fail
  refine (DrawInverseOf_any a len cap zs w _ Hh.out (by go_grown)).mono ?_
  rintro e w1 ⟨p, x, rfl, hb1⟩
  go_wp2_with fail
  refine (InverseOfI_any p x _).mono ?_
  rintro e w2 ⟨rfl, hb2⟩
  have hB2 : Below w.heap.size w w2 := up hb2 hb1 hb1.size
  have Hbk := hide (@invOf_back p x)
  obtain ⟨y, hy⟩ : ∃ y, invOf p x = y := ⟨_, rfl⟩
  have S := hide (fun W => (by rw [← hy]; exact InverseOfS_any p x W : Calls Try.prog 15 #[.int .i64 p, .int .i64 x] W fun e w' => e = .returned (.int .i64 y) ∧ W = w'))
  rw [hy] at Hbk ⊢
  clear hy
  have e1 : (y != y) = false := by simp
  have e2 : (y == y) = true := by simp
  go_wp2_with fail
  refine (S.out _).mono ?_
  rintro e _ ⟨rfl, rfl⟩
  by_cases hy0 : y < 0
  · go_wp2_with fail
    refine (S.out _).mono ?_
    rintro e _ ⟨rfl, rfl⟩
    go_wp2_with fail
    go_ret
    exact ⟨rfl, hB2⟩
  · obtain ⟨⟨b1, b2⟩, ⟨b3, b4⟩, ⟨b5, b6⟩, hm, hback⟩ := Hbk.out (by omega)
    have hb7 : 0 ≤ y * x := Int.mul_nonneg (by omega) (by omega)
    have hb8 : y * x ≤ 49 := by have := Int.mul_le_mul (show y ≤ 7 by omega) (show x ≤ 7 by omega) (by omega) (by omega); omega
    have Hback := hide hback
    have exx : (x == x) = true := by simp
    clear hback e1 e2
    go_wp2_with fail
    refine (InverseOfI_any p y _).mono ?_
    rintro e w3 ⟨rfl, hb3⟩
    rw [Hback.out]
    go_wp2_with fail
    go_ret
    exact ⟨rfl, up hb3 hB2 hB2.size⟩
end Go.Proofs.Ythafmoofemfdmaa
