/-
  FnLeastKept returns true for every code: the walk. Conditions: none.
-/
import Derived.Test.YtfnbnpjedhcmgaaStoreDraw3
import Derived.Test.YtfnbnpjedhcmgaaLeastPlain
namespace Go.Proofs.Ytfnbnpjedhcmgaa
open Go.RowKit

set_option maxHeartbeats 800000 in
theorem fnLeastKept_walk (a : Option Addr) (len cap : Nat) (zs : List Int) (w : World) (h : IsRow .u8 w a len cap zs) :
    Calls Try.prog 12 #[.slice a len cap] w fun e w' => e = .returned (.bool true) ∧ Below w.heap.size w w' := by
  have hlen : len ≤ 9223372036854775807 := by obtain ⟨h1, h2, _⟩ := bytes_in h; unfold maxLen at h2; omega
  have Hh := hide h
  clear h
  by_cases hl : 1048576 < len
  · go_enter Try.func12, Try.ntmps12
    go_wp2_with fail
    go_ret
    exact ⟨rfl, by go_grown⟩
  go_enter Try.func12, Try.ntmps12
  go_wp2_with fail
  refine (DrawLeastKept_any a len cap zs w _ Hh.out (by go_grown)).mono ?_
  rintro e w1 ⟨nd, ne, ak, k, s, m, rfl, hb1⟩
  go_wp2_with fail
  refine (LeastKeptI_any _ _ _ _ _ _ _).mono ?_
  rintro e w2 ⟨rfl, hb2⟩
  obtain ⟨hc2, hf2⟩ := bcell hb2
  have hz2 : w1.heap.size < w2.heap.size := by have := hb2.size; simp at this; omega
  have hB2 : Below w.heap.size w w2 := up hb2 (hb1.alloc hb1.size _) (by have := hb1.size; simp; omega)
  go_wp2_with fail
  refine (LeastKeptS_any _ _ _ _ _ _ _).mono ?_
  rintro e w3 ⟨rfl, hb3⟩
  obtain ⟨hc3, hf3⟩ := bcell hb3
  have hz3 : w1.heap.size < w3.heap.size := by have := hb3.size; omega
  have hB3 : Below w.heap.size w w3 := up hb3 hB2 hB2.size
  cases hr : (leastK nd ne ak k s m).2
  · generalize (leastK nd ne ak k s m).1 = x
    clear hr
    have e1 : (x != x) = false := by simp
    have e2 : (x == x) = true := by simp
    go_wp2_with fail
    go_ret
    exact ⟨rfl, hB3⟩
  · obtain ⟨x, hx, hv, x0, x1, m0, m1, q1, q2⟩ := leastK_spec hr
    rw [hx]
    have e1 : (x != x) = false := by simp
    have e2 : (x == x) = true := by simp
    clear hr hx
    have Q1 := hide q1
    have Q2 := hide q2
    have Hv := hide hv
    clear q1 q2 hv
    go_wp2_with fail
    refine (CapacityOfI_any _ _ _ _ _ _).mono ?_
    rintro e w4 ⟨rfl, hb4⟩
    obtain ⟨hc4, hf4⟩ := bcell hb4
    have hz4 : w1.heap.size < w4.heap.size := by have := hb4.size; simp [World.setCell] at this; omega
    have hB4 : Below w.heap.size w w4 := up hb4 (hB3.setCell (p := ⟨w1.heap.size, 3, none⟩) hb1.size _) (by simpa [World.setCell] using hB3.size)
    have c3 : w3.cell? ⟨w1.heap.size, 3, none⟩ = some (.int .i64 k) := by go_simp
    have c4 : w4.cell? ⟨w1.heap.size, 3, none⟩ = some (.int .i64 x) := by rw [hc4 _ _ (by simpa [World.setCell] using hz3)]; go_simp
    obtain ⟨C, hC⟩ : ∃ C, capOf nd ne ak (x) s = C := ⟨_, rfl⟩
    rw [hC]
    have h1 : m ≤ C := by rw [← hC]; exact Q1.out
    clear hC
    by_cases hx0 : x = 0
    · subst hx0
      go_wp2_with fail
      go_ret
      exact ⟨rfl, hB4.setCell (p := ⟨w1.heap.size, 3, none⟩) hb1.size _⟩
    · have e3 : (x == 0) = false := by simp [hx0]
      have hp : 1 ≤ x := by omega
      have Hx := hide hx0
      clear hx0
      go_wp2_with fail
      refine (CapacityOfI_any _ _ _ _ _ _).mono ?_
      rintro e w5 ⟨rfl, hb5⟩
      have hB5 : Below w.heap.size w w5 := up hb5 (hB4.setCell (p := ⟨w1.heap.size, 3, none⟩) hb1.size _) (by simpa [World.setCell] using hB4.size)
      have h2 : capOf nd ne ak (x - 1) s < m := Q2.out (by omega)
      generalize capOf nd ne ak (x - 1) s = D at *
      go_wp2_with fail
      go_ret
      exact ⟨rfl, hB5⟩
end Go.Proofs.Ytfnbnpjedhcmgaa
