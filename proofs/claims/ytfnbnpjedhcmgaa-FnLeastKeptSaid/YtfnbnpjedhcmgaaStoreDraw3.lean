/-
  The draws of stores with an amount. Conditions: the code is a slice of bytes that can be read.
-/
import Derived.Test.YtfnbnpjedhcmgaaStoreDraw2
namespace Go.Proofs.Ytfnbnpjedhcmgaa
open Go.RowKit

theorem DrawLeastSent_any (a : Option Addr) (len cap : Nat) (zs : List Int) (w W : World) (h : IsRow .u8 w a len cap zs) (hb : Below w.heap.size w W) :
    Calls Try.prog 32 #[.slice a len cap] W fun e w' => ∃ nd ne ak k s m : Int, e = .returned (.tuple #[.agg #[.int .i64 nd, .int .i64 ne, .int .i64 ak, .int .i64 k, .int .i64 s], .int .i64 m]) ∧ Below W.heap.size W w' := by
  have Hh := hide h
  have Hb := hide hb
  clear h hb
  go_enter Try.func32, Try.ntmps32
  go_wp2_with fail
  refine (newReader_of a len cap zs w _ Hh.out (Hb.out.alloc Hb.out.size _)).mono ?_
  rintro e w1 ⟨g, rfl, hg, hr, hb1⟩
  simp only [World.size_alloc] at hg
  obtain ⟨hc1, hf1⟩ := bcell hb1
  have hz1 : W.heap.size < w1.heap.size := by have := hb1.size; simp at this; omega
  have hne : W.heap.size ≠ g := by omega
  have hB1 : Below W.heap.size W w1 := up hb1 (by go_grown) (by simp)
  go_wp2_with fail
  refine (someStore_any g _ hr).mono ?_
  rintro e w2 ⟨nd, ne, ak, k, s, rfl, hr2, ho2⟩
  obtain ⟨hc2, hf2⟩ := ho2.cells
  have hz2 : W.heap.size < w2.heap.size := by have := ho2.size; omega
  have hB2 : Below W.heap.size W w2 := ho2.up hB1 (by omega) (by omega)
  go_wp2_with fail
  refine (pick_rd g _ _ _ hr2 (by omega)).mono ?_
  rintro e w3 ⟨v3, rfl, hv3, hr3, ho3⟩
  obtain ⟨hc3, hf3⟩ := ho3.cells
  have hz3 : W.heap.size < w3.heap.size := by have := ho3.size; omega
  have hB3 : Below W.heap.size W w3 := ho3.up hB2 (by omega) (by omega)
  go_wp2_with fail
  refine (pick_rd g _ _ _ hr3 (by omega)).mono ?_
  rintro e w4 ⟨v4, rfl, hv4, hr4, ho4⟩
  obtain ⟨hc4, hf4⟩ := ho4.cells
  have hz4 : W.heap.size < w4.heap.size := by have := ho4.size; omega
  have hB4 : Below W.heap.size W w4 := ho4.up hB3 (by omega) (by omega)
  have hg4 := hr4.lt
  clear hv3 hv4
  go_wp2_with fail
  refine (one_any g _ w4.heap.size 0 7 7 [v3, v4, 6, 0, 120, 121, -1] _ (hr4.alloc _) (by omega) (by omega) (by omega) (by omega) (by simp) (fun i hi => ?_)).mono ?_
  · rw [cell_of_row _ _ _ _ _ _ (heap_alloc_new w4 _)]
    match i, hi with
    | 0, _ => rfl
    | 1, _ => rfl
    | 2, _ => rfl
    | 3, _ => rfl
    | 4, _ => rfl
    | 5, _ => rfl
    | 6, _ => rfl
  rintro e w5 ⟨i, hi, rfl, hr5, ho5⟩
  generalize [v3, v4, 6, 0, 120, 121, -1].getD i 0 = m
  obtain ⟨hc5, hf5⟩ := ho5.cells
  have hB5 : Below W.heap.size W w5 := ho5.up (hB4.alloc hB4.size _) (by simp; omega) (by omega)
  have F : (w5.cell? ⟨W.heap.size, 0, none⟩ = some (.int .i64 0) ∧ w5.cell? ⟨W.heap.size, 1, none⟩ = some (.int .i64 0) ∧ w5.cell? ⟨W.heap.size, 2, none⟩ = some (.int .i64 0) ∧ w5.cell? ⟨W.heap.size, 3, none⟩ = some (.int .i64 0) ∧ w5.cell? ⟨W.heap.size, 4, none⟩ = some (.int .i64 0)) ∧
      (w5.frozen? ⟨W.heap.size, 0, none⟩ = false ∧ w5.frozen? ⟨W.heap.size, 1, none⟩ = false ∧ w5.frozen? ⟨W.heap.size, 2, none⟩ = false ∧ w5.frozen? ⟨W.heap.size, 3, none⟩ = false ∧ w5.frozen? ⟨W.heap.size, 4, none⟩ = false) := by
    have hbl : w5.heap[W.heap.size]? = some (.cells #[.int .i64 0, .int .i64 0, .int .i64 0, .int .i64 0, .int .i64 0] 29 (0, 0)) := by
      rw [ho5.block _ (by simp; omega) (by simp; omega), Below.heap_alloc _ _ _ hz4, ho4.block _ hz3 (by simp; omega), ho3.block _ hz2 (by simp; omega), ho2.block _ hz1 (by simp; omega), hb1.block _ (by simp), heap_alloc_new]
    refine ⟨⟨?_, ?_, ?_, ?_, ?_⟩, ?_, ?_, ?_, ?_, ?_⟩
    · simpa using cell_of_row w5 W.heap.size 0 _ _ _ hbl
    · simpa using cell_of_row w5 W.heap.size 1 _ _ _ hbl
    · simpa using cell_of_row w5 W.heap.size 2 _ _ _ hbl
    · simpa using cell_of_row w5 W.heap.size 3 _ _ _ hbl
    · simpa using cell_of_row w5 W.heap.size 4 _ _ _ hbl
    all_goals simp [World.frozen?, hbl]
  obtain ⟨⟨d0, d1, d2, d3, d4⟩, f0, f1, f2, f3, f4⟩ := F
  clear hc1 hc2 hc3 hc4 hc5 hf1 hf2 hf3 hf4 hf5
  go_wp2_with fail
  refine bodyPost_ret (v := .tuple #[.agg #[.int .i64 nd, .int .i64 ne, .int .i64 ak, .int .i64 k, .int .i64 s], .int .i64 m]) (by simp [results, Try.results32, go_sem, d0, d1, d2, d3, d4]) rfl ⟨nd, ne, ak, k, s, m, rfl, ?_⟩
  go_grown

theorem DrawLeastKept_any (a : Option Addr) (len cap : Nat) (zs : List Int) (w W : World) (h : IsRow .u8 w a len cap zs) (hb : Below w.heap.size w W) :
    Calls Try.prog 31 #[.slice a len cap] W fun e w' => ∃ nd ne ak k s m : Int, e = .returned (.tuple #[.agg #[.int .i64 nd, .int .i64 ne, .int .i64 ak, .int .i64 k, .int .i64 s], .int .i64 m]) ∧ Below W.heap.size W w' := by
  have Hh := hide h
  have Hb := hide hb
  clear h hb
  go_enter Try.func31, Try.ntmps31
  go_wp2_with fail
  refine (newReader_of a len cap zs w _ Hh.out (Hb.out.alloc Hb.out.size _)).mono ?_
  rintro e w1 ⟨g, rfl, hg, hr, hb1⟩
  simp only [World.size_alloc] at hg
  obtain ⟨hc1, hf1⟩ := bcell hb1
  have hz1 : W.heap.size < w1.heap.size := by have := hb1.size; simp at this; omega
  have hne : W.heap.size ≠ g := by omega
  have hB1 : Below W.heap.size W w1 := up hb1 (by go_grown) (by simp)
  go_wp2_with fail
  refine (someStore_any g _ hr).mono ?_
  rintro e w2 ⟨nd, ne, ak, k, s, rfl, hr2, ho2⟩
  obtain ⟨hc2, hf2⟩ := ho2.cells
  have hz2 : W.heap.size < w2.heap.size := by have := ho2.size; omega
  have hB2 : Below W.heap.size W w2 := ho2.up hB1 (by omega) (by omega)
  go_wp2_with fail
  refine (pick_rd g _ _ _ hr2 (by omega)).mono ?_
  rintro e w3 ⟨v3, rfl, hv3, hr3, ho3⟩
  obtain ⟨hc3, hf3⟩ := ho3.cells
  have hz3 : W.heap.size < w3.heap.size := by have := ho3.size; omega
  have hB3 : Below W.heap.size W w3 := ho3.up hB2 (by omega) (by omega)
  go_wp2_with fail
  refine (pick_rd g _ _ _ hr3 (by omega)).mono ?_
  rintro e w4 ⟨v4, rfl, hv4, hr4, ho4⟩
  obtain ⟨hc4, hf4⟩ := ho4.cells
  have hz4 : W.heap.size < w4.heap.size := by have := ho4.size; omega
  have hB4 : Below W.heap.size W w4 := ho4.up hB3 (by omega) (by omega)
  have hg4 := hr4.lt
  clear hv3 hv4
  go_wp2_with fail
  refine (one_any g _ w4.heap.size 0 7 7 [v3, v4, 6, 0, 120, 121, -1] _ (hr4.alloc _) (by omega) (by omega) (by omega) (by omega) (by simp) (fun i hi => ?_)).mono ?_
  · rw [cell_of_row _ _ _ _ _ _ (heap_alloc_new w4 _)]
    match i, hi with
    | 0, _ => rfl
    | 1, _ => rfl
    | 2, _ => rfl
    | 3, _ => rfl
    | 4, _ => rfl
    | 5, _ => rfl
    | 6, _ => rfl
  rintro e w5 ⟨i, hi, rfl, hr5, ho5⟩
  generalize [v3, v4, 6, 0, 120, 121, -1].getD i 0 = m
  obtain ⟨hc5, hf5⟩ := ho5.cells
  have hB5 : Below W.heap.size W w5 := ho5.up (hB4.alloc hB4.size _) (by simp; omega) (by omega)
  have F : (w5.cell? ⟨W.heap.size, 0, none⟩ = some (.int .i64 0) ∧ w5.cell? ⟨W.heap.size, 1, none⟩ = some (.int .i64 0) ∧ w5.cell? ⟨W.heap.size, 2, none⟩ = some (.int .i64 0) ∧ w5.cell? ⟨W.heap.size, 3, none⟩ = some (.int .i64 0) ∧ w5.cell? ⟨W.heap.size, 4, none⟩ = some (.int .i64 0)) ∧
      (w5.frozen? ⟨W.heap.size, 0, none⟩ = false ∧ w5.frozen? ⟨W.heap.size, 1, none⟩ = false ∧ w5.frozen? ⟨W.heap.size, 2, none⟩ = false ∧ w5.frozen? ⟨W.heap.size, 3, none⟩ = false ∧ w5.frozen? ⟨W.heap.size, 4, none⟩ = false) := by
    have hbl : w5.heap[W.heap.size]? = some (.cells #[.int .i64 0, .int .i64 0, .int .i64 0, .int .i64 0, .int .i64 0] 29 (0, 0)) := by
      rw [ho5.block _ (by simp; omega) (by simp; omega), Below.heap_alloc _ _ _ hz4, ho4.block _ hz3 (by simp; omega), ho3.block _ hz2 (by simp; omega), ho2.block _ hz1 (by simp; omega), hb1.block _ (by simp), heap_alloc_new]
    refine ⟨⟨?_, ?_, ?_, ?_, ?_⟩, ?_, ?_, ?_, ?_, ?_⟩
    · simpa using cell_of_row w5 W.heap.size 0 _ _ _ hbl
    · simpa using cell_of_row w5 W.heap.size 1 _ _ _ hbl
    · simpa using cell_of_row w5 W.heap.size 2 _ _ _ hbl
    · simpa using cell_of_row w5 W.heap.size 3 _ _ _ hbl
    · simpa using cell_of_row w5 W.heap.size 4 _ _ _ hbl
    all_goals simp [World.frozen?, hbl]
  obtain ⟨⟨d0, d1, d2, d3, d4⟩, f0, f1, f2, f3, f4⟩ := F
  clear hc1 hc2 hc3 hc4 hc5 hf1 hf2 hf3 hf4 hf5
  go_wp2_with fail
  refine bodyPost_ret (v := .tuple #[.agg #[.int .i64 nd, .int .i64 ne, .int .i64 ak, .int .i64 k, .int .i64 s], .int .i64 m]) (by simp [results, Try.results31, go_sem, d0, d1, d2, d3, d4]) rfl ⟨nd, ne, ak, k, s, m, rfl, ?_⟩
  go_grown

end Go.Proofs.Ytfnbnpjedhcmgaa
