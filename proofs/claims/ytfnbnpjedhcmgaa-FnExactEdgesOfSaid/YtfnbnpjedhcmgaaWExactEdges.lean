/-
  FnExactEdgesOf returns true for all arguments: the walk. Conditions: none.
-/
import Derived.Test.YtfnbnpjedhcmgaaStore6
namespace Go.Proofs.Ytfnbnpjedhcmgaa
open Go.RowKit

theorem edgeV_tup (nd ne ak k s : Int) : ∃ a0 a1 a2 a3 a4 x b0 b1 b2 b3 b4 y : Int, edgeV nd ne ak k s = .tuple #[.agg #[.int .i64 a0, .int .i64 a1, .int .i64 a2, .int .i64 a3, .int .i64 a4], .int .i64 x, .agg #[.int .i64 b0, .int .i64 b1, .int .i64 b2, .int .i64 b3, .int .i64 b4], .int .i64 y] := by
  unfold edgeV
  split
  · exact ⟨_, _, _, _, _, _, _, _, _, _, _, _, rfl⟩
  · exact ⟨_, _, _, _, _, _, _, _, _, _, _, _, rfl⟩

set_option maxHeartbeats 1000000 in
theorem fnExactEdgesOf_walk (nd ne ak k s : Int) (w : World) (_w0 : (Lit.int .i64 nd).wf = true) (_w1 : (Lit.int .i64 ne).wf = true) (_w2 : (Lit.int .i64 ak).wf = true) (_w3 : (Lit.int .i64 k).wf = true) (_w4 : (Lit.int .i64 s).wf = true) :
    Calls Try.prog 8 #[.agg #[.int .i64 nd, .int .i64 ne, .int .i64 ak, .int .i64 k, .int .i64 s]] w fun e w' => e = .returned (.bool true) ∧ Below w.heap.size w w' := by
  clear _w0 _w1 _w2 _w3 _w4
  obtain ⟨a0, a1, a2, a3, a4, x, b0, b1, b2, b3, b4, y, hE⟩ := edgeV_tup nd ne ak k s
  have HE := hide hE
  clear hE
  go_enter Try.func8, Try.ntmps8
  go_wp2_with fail
  refine (toStore_any _ _ _ _ _ _).mono ?_
  rintro e w1 ⟨rfl, hb1⟩
  obtain ⟨hc1, hf1⟩ := bcell hb1
  have hz1 : w.heap.size < w1.heap.size := by have := hb1.size; simp at this; omega
  have hB1 : Below w.heap.size w w1 := up hb1 (by go_grown) (by simp)
  go_wp2_with fail
  refine (EdgesOfS_any _ _ _ _ _ _).mono ?_
  rintro e w2 ⟨rfl, hb2⟩
  rw [HE.out]
  obtain ⟨hc2, hf2⟩ := bcell hb2
  have hz2 : w1.heap.size ≤ w2.heap.size := hb2.size
  have hz2' : w.heap.size < w2.heap.size := by omega
  have hB2 : Below w.heap.size w w2 := up hb2 hB1 (by omega)
  go_wp2_with fail
  refine (toStore_any _ _ _ _ _ _).mono ?_
  rintro e w3 ⟨rfl, hb3⟩
  obtain ⟨hc3, hf3⟩ := bcell hb3
  have hz3 : w2.heap.size + 1 + 1 ≤ w3.heap.size := by have := hb3.size; simp at this; omega
  have hz3a : w2.heap.size < w3.heap.size := by omega
  have hz3b : w2.heap.size + 1 < w3.heap.size := by omega
  have hB3 : Below w.heap.size w w3 := up hb3 (by go_grown) (by simp; omega)
  go_wp2_with fail
  refine (EdgesOfI_any _ _ _ _ _ _).mono ?_
  rintro e w4 ⟨rfl, hb4⟩
  rw [HE.out]
  obtain ⟨hc4, hf4⟩ := bcell hb4
  have hz4 : w3.heap.size ≤ w4.heap.size := hb4.size
  have hz4a : w2.heap.size < w4.heap.size := by omega
  have hz4b : w2.heap.size + 1 < w4.heap.size := by omega
  have hB4 : Below w.heap.size w w4 := up hb4 hB3 (by omega)
  have ex : (x != x) = false := by simp
  have ey : (y != y) = false := by simp
  go_wp2_with fail
  refine (eqStore_any _ _ _ _ _ _).mono ?_
  rintro e w5 ⟨rfl, hb5⟩
  obtain ⟨hc5, hf5⟩ := bcell hb5
  have hz5 : w4.heap.size + 1 + 1 ≤ w5.heap.size := by have := hb5.size; simp at this; omega
  have hz5a : w4.heap.size < w5.heap.size := by omega
  have hz5b : w4.heap.size + 1 < w5.heap.size := by omega
  have hB5 : Below w.heap.size w w5 := up hb5 (by go_grown) (by simp; omega)
  have hz6 : w2.heap.size < w5.heap.size := by omega
  have hz7 : w2.heap.size + 1 < w5.heap.size := by omega
  go_wp2_with fail
  refine (eqStore_any _ _ _ _ _ _).mono ?_
  rintro e w6 ⟨rfl, hb6⟩
  have hz8 : w5.heap.size ≤ w6.heap.size := hb6.size
  go_wp2_with fail
  go_ret
  exact ⟨rfl, up hb6 hB5 (by omega)⟩

end Go.Proofs.Ytfnbnpjedhcmgaa
