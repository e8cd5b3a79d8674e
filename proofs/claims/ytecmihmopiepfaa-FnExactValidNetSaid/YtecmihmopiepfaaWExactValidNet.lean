/-
  FnExactValidNet returns true for all arguments. Conditions: none.
-/
import Derived.Test.YtecmihmopiepfaaMemIn
import Derived.Test.YtecmihmopiepfaaNet
namespace Go.Proofs.Ytecmihmopiepfaa
open Go.ChangeShapes Go.WideShapes Go.ChangeAt Go.RowKit
theorem ValidNetS_any (A : Option Addr) (n c : Nat) (L : Nat → Nat) (M : Nat → Nat → Int) (w : World) (hn : n ≤ 9223372036854775807) (hL : ∀ i, i < n → L i ≤ 9223372036854775807) (h : Mat w w.heap.size A n L M) :
    Calls Try.prog 17 #[.slice A n c] w fun e w' => e = .returned (.bool (vNet n L M)) ∧ ∃ q, w.drewN q = w' := by
  have H := hide (validNetS_any A n c L M w hn hL h)
  clear hn hL h
  go_enter Try.func17, Try.ntmps17
  go_wp2_with fail
  refine (H.out).mono ?_
  rintro e w1 ⟨rfl, q, rfl⟩
  go_wp2_with fail
  go_ret
  exact ⟨rfl, q, rfl⟩

theorem fnExactValidNet_walk (a : Option Addr) (len cap : Nat) (A : Nat → Option Addr) (L C : Nat → Nat) (Z : Nat → List Int) (w : World) (h : IsRows w a len cap A L C Z) :
    Calls Try.prog 4 #[.slice a len cap] w fun e w' => e = .returned (.bool true) ∧ Below w.heap.size w w' := by
  obtain ⟨hm, hn, hL⟩ := mat_in h
  clear h
  generalize (fun i j => (Z i).getD j 0) = M at hm
  have Hm := hide hm
  have HL := hide hL
  clear hm hL
  go_enter Try.func4, Try.ntmps4
  go_wp2_with fail
  refine (szIntSS_any a len cap L M _ _ hn HL.out (by omega) (by omega) Hm.out).mono ?_
  rintro e w1 ⟨r, rfl, hr1, hr2, hb1⟩
  by_cases h0 : r < 0
  · clear hr2
    go_wp2_with fail
    go_ret
    exact ⟨rfl, hb1⟩
  obtain ⟨hn2, hL2⟩ := hr2 (by omega)
  have HL2 := hide hL2
  clear hL2
  go_wp2_with fail
  refine (toIntSS_any a len cap L M w1 hn2 HL2.out (Hm.out.keep hb1 hb1.size)).mono ?_
  rintro e w2 ⟨rfl, hm2, hb2, hz2⟩
  have hle : ∀ i, i < len → L i ≤ 9223372036854775807 := HL.out
  have S := hide (ValidNetS_any (some ⟨w1.heap.size, 0, none⟩) len len L M w2 hn hle (hm2.mat (by omega)))
  have B2 : Below w.heap.size w w2 := up hb2 hb1 hb1.size
  have Z2 := hide hz2
  clear hm2 hz2 hle
  go_wp2_with fail
  refine (S.out).mono ?_
  rintro e _ ⟨rfl, q, rfl⟩
  clear S
  obtain ⟨w3, hw3⟩ : ∃ w3, w2.drewN q = w3 := ⟨_, rfl⟩
  have B3 : Below w.heap.size w w3 := by rw [← hw3]; exact below_drewN B2 q
  rw [hw3]
  have K3 := hide (show w.heap.size ≤ w3.heap.size from B3.size)
  clear hw3 B2 Z2
  go_wp2_with fail
  refine (toIntSS_any a len cap L M w3 hn2 HL2.out (Hm.out.keep B3 B3.size)).mono ?_
  rintro e w4 ⟨rfl, hm4, hb4, hz4⟩
  have hle : ∀ i, i < len → L i ≤ 9223372036854775807 := HL.out
  have S := hide (ValidNetI_any (some ⟨w3.heap.size, 0, none⟩) len len L M w4 hn hle (hm4.mat (by omega)))
  have B4 : Below w.heap.size w w4 := up hb4 B3 B3.size
  have Z4 := hide hz4
  have M4 := hide hm4
  clear hm4 hz4 hle
  go_wp2_with fail
  refine (S.out).mono ?_
  rintro e _ ⟨rfl, q2, rfl⟩
  clear S
  obtain ⟨w5, hw5⟩ : ∃ w5, w4.drewN q2 = w5 := ⟨_, rfl⟩
  have B5 : Below w.heap.size w w5 := by rw [← hw5]; exact below_drewN B4 q2
  have M5 := hide (show OwnMat w5 w3.heap.size len L M by rw [← hw5]; exact ⟨M4.out.top, M4.out.rows⟩)
  have Z5 := hide (show w5.heap.size = w3.heap.size + 1 + len by rw [← hw5]; exact Z4.out)
  rw [hw5]
  clear hw5 B4 Z4 M4
  generalize vNet len L M = v
  have hv : (v != v) = false := by simp
  go_wp2_with fail
  refine (toIntSS_any a len cap L M w5 hn2 HL2.out (Hm.out.keep B5 B5.size)).mono ?_
  rintro e w6 ⟨rfl, hm6, hb6, hz6⟩
  have hle : ∀ i, i < len → L i ≤ 9223372036854775807 := HL.out
  have S := hide (eqIntSS_any (some ⟨w3.heap.size, 0, none⟩) (some ⟨w5.heap.size, 0, none⟩) len len len len L L M M w6 hn hn hle hle ((M5.out.keep hb6 (by have := Z5.out; omega)).mat (by have := Z5.out; omega)) (hm6.mat (by omega)))
  have B6 : Below w.heap.size w w6 := up hb6 B5 B5.size
  have Z6 := hide hz6
  clear hm6 hz6 hle
  go_wp2_with fail
  refine (S.out).mono ?_
  rintro e _ ⟨rfl, q3, rfl⟩
  rw [eqMB_self]
  go_wp2_with fail
  go_ret
  exact ⟨rfl, below_drewN B6 q3⟩
end Go.Proofs.Ytecmihmopiepfaa
