/-
  The draws of BestWeights. Conditions: the code is a slice of bytes that can be read.
-/
import Derived.Test.YthafmoofemfdmaaDrawP
namespace Go.Proofs.Ythafmoofemfdmaa
open Go.RowKit

theorem DrawBestWeights_any (a : Option Addr) (len cap : Nat) (zs : List Int) (w W : World) (h : IsRow .u8 w a len cap zs) (hb : Below w.heap.size w W) :
    Calls Try.prog 23 #[.slice a len cap] W fun e w' => ∃ p n k : Int, e = .returned (.tuple #[.int .i64 p, .int .i64 n, .int .i64 k]) ∧ Below W.heap.size W w' := by
  have Hh := hide h
  have Hb := hide hb
  clear h hb
  go_enter Try.func23, Try.ntmps23
  go_wp2_with fail
  refine (newReader_of a len cap zs w _ Hh.out Hb.out).mono ?_
  rintro e w1 ⟨g, rfl, hg, hr, hb1⟩
  go_wp2_with fail
  refine (aPrime_any g 0 _ hr (by omega)).mono ?_
  rintro e w2 ⟨p, rfl, hp, hr2, ho2⟩
  have hB2 : Below W.heap.size W w2 := ho2.up hb1 hb1.size hg
  go_wp2_with fail
  refine (one_lit g 2 [4, 5, 6, 7, 3, 2, 1, 0, 8] _ 9 9 w2 _ hr2 rfl rfl (by omega) (by omega) (by omega)).mono ?_
  rintro e w3 ⟨n, hn, rfl, hr3, ho3⟩
  have hB3 : Below W.heap.size W w3 := ho3.up hB2 hB2.size hg
  clear hn
  go_wp2_with fail
  refine (one_lit g 3 [2, 3, 1, 4, 0, 5] _ 6 6 w3 _ hr3 rfl rfl (by omega) (by omega) (by omega)).mono ?_
  rintro e w4 ⟨k, hk, rfl, hr4, ho4⟩
  have hB4 : Below W.heap.size W w4 := ho4.up hB3 hB3.size hg
  clear hk
  go_wp2_with fail
  go_ret3
  exact ⟨p, n, k, rfl, hB4⟩
end Go.Proofs.Ythafmoofemfdmaa
