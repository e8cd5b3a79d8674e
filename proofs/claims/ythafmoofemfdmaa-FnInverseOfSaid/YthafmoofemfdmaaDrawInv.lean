/-
  The draws of InverseOf. Conditions: the code is a slice of bytes that can be read.
-/
import Derived.Test.YthafmoofemfdmaaDrawP
namespace Go.Proofs.Ythafmoofemfdmaa
open Go.RowKit

theorem DrawInverseOf_any (a : Option Addr) (len cap : Nat) (zs : List Int) (w W : World) (h : IsRow .u8 w a len cap zs) (hb : Below w.heap.size w W) :
    Calls Try.prog 17 #[.slice a len cap] W fun e w' => ∃ p x : Int, e = .returned (.tuple #[.int .i64 p, .int .i64 x]) ∧ Below W.heap.size W w' := by
  have Hh := hide h
  have Hb := hide hb
  clear h hb
  go_enter Try.func17, Try.ntmps17
  go_wp2_with fail
  refine (newReader_of a len cap zs w _ Hh.out Hb.out).mono ?_
  rintro e w1 ⟨g, rfl, hg, hr, hb1⟩
  go_wp2_with fail
  refine (aPrime_any g 0 _ hr (by omega)).mono ?_
  rintro e w2 ⟨p, rfl, hp, hr2, ho2⟩
  have hB2 : Below W.heap.size W w2 := ho2.up hb1 hb1.size hg
  by_cases h1 : 1 ≤ p - 1
  · go_wp2_with fail
    refine (pick_rd g 2 (p - 1) _ hr2 (by omega)).mono ?_
    rintro e w3 ⟨v3, rfl, hv3, hr3, ho3⟩
    have q3 : 0 ≤ v3 ∧ v3 ≤ 10 := ⟨hv3.1, (by have := hv3.2.1 (by omega); omega)⟩
    have hB3 : Below W.heap.size W w3 := ho3.up hB2 hB2.size hg
    go_wp2_with fail
    refine (pick_rd g 3 (p - 1) _ hr3 (by omega)).mono ?_
    rintro e w4 ⟨v4, rfl, hv4, hr4, ho4⟩
    have q4 : 0 ≤ v4 ∧ v4 ≤ 10 := ⟨hv4.1, (by have := hv4.2.1 (by omega); omega)⟩
    have hB4 : Below W.heap.size W w4 := ho4.up hB3 hB3.size hg
    clear hv3 hv4
    go_wp2_with fail
    refine (one_lit g 4 [1 + v3, 1 + v4, 0, p] _ 4 4 w4 _ hr4 rfl rfl (by omega) (by omega) (by omega)).mono ?_
    rintro e w5 ⟨x, hx, rfl, hr5, ho5⟩
    have hB5 : Below W.heap.size W w5 := ho5.up hB4 hB4.size hg
    clear hx
    go_wp2_with fail
    go_ret2
    exact ⟨p, x, rfl, hB5⟩
  · go_wp2_with fail
    refine (pick_rd g 2 1 _ hr2 (by omega)).mono ?_
    rintro e w3 ⟨v3, rfl, hv3, hr3, ho3⟩
    have q3 : 0 ≤ v3 ∧ v3 ≤ 10 := ⟨hv3.1, (by have := hv3.2.1 (by omega); omega)⟩
    have hB3 : Below W.heap.size W w3 := ho3.up hB2 hB2.size hg
    go_wp2_with fail
    refine (pick_rd g 3 1 _ hr3 (by omega)).mono ?_
    rintro e w4 ⟨v4, rfl, hv4, hr4, ho4⟩
    have q4 : 0 ≤ v4 ∧ v4 ≤ 10 := ⟨hv4.1, (by have := hv4.2.1 (by omega); omega)⟩
    have hB4 : Below W.heap.size W w4 := ho4.up hB3 hB3.size hg
    clear hv3 hv4
    go_wp2_with fail
    refine (one_lit g 4 [1 + v3, 1 + v4, 0, p] _ 4 4 w4 _ hr4 rfl rfl (by omega) (by omega) (by omega)).mono ?_
    rintro e w5 ⟨x, hx, rfl, hr5, ho5⟩
    have hB5 : Below W.heap.size W w5 := ho5.up hB4 hB4.size hg
    clear hx
    go_wp2_with fail
    go_ret2
    exact ⟨p, x, rfl, hB5⟩
end Go.Proofs.Ythafmoofemfdmaa
