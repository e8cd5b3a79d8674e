/-
  slices.Concat of two slices of ints, and what it asks of slices.Grow. Conditions: both slices hold something, and can be read.
-/
import Derived.Test.YthafmoofemfdmaaOwn4
import Derived.Lib.AppendZeros
namespace Go.Proofs.Ythafmoofemfdmaa
open Go.RowKit

theorem zeroCells_len (n : Nat) : (Builtin.zeroCells #[Value.int .i64 0] n).size = n := by simp [Builtin.zeroCells]
set_option maxRecDepth 100000 in
set_option maxHeartbeats 1000000 in
theorem slGrow_nil (n : Nat) (w : World) (hn : 1 ≤ n ∧ n ≤ 1000) :
    Calls Try.prog 100 #[.slice none 0 0, .int .i64 n] w fun e w' => ∃ G, e = .returned (.slice (some ⟨w.heap.size, 0, none⟩) 0 G) ∧ Row w' w.heap.size (some ⟨w.heap.size, 0, none⟩) 0 G [] ∧ Below w.heap.size w w' := by
  obtain ⟨i0, hi, hz, hz1, hz2⟩ := parts_of info_int
  have hrz : ∀ ty, (Builtin.append_ #[28, 3] ty #[.slice none 0 0, .int .i64 (n : Int)]).run Try.prog w = _ := fun ty => Lib.run_append_nil_zeros (P := Try.prog) w 28 3 ty 3 i0 (.int .i64 0) .i64 .i64 Try.underlying28 Try.underlying3 hi hz n (by omega) (by omega) (by omega) (by rw [hz2]; omega)
  have hG := grownCap_ge w n 0 3
  have hG2 := grownCap_le_maxLen w n 0 3 (by unfold maxLen; omega)
  generalize grownCap w n 0 3 = G at *
  have HW := hide (show Row (w.drew.alloc (.cells (Builtin.zeroCells (Value.int .i64 0).cells n ++ Builtin.zeroCells (Value.int .i64 0).cells (G - n)) 3)) w.heap.size (some ⟨w.heap.size, 0, none⟩) 0 G [] from
    ⟨rfl, by simp, .inr ⟨w.heap.size, G, _, rfl, Nat.le_refl _, heap_alloc_new w.drew _, Nat.zero_le _, hG2, by
      rw [Array.size_append]
      have h1 : (Value.int IntKind.i64 0).cells = #[Value.int .i64 0] := rfl
      rw [h1, zeroCells_len, zeroCells_len]
      omega, by simp⟩⟩)
  have hG63 : G ≤ 9223372036854775807 := by unfold maxLen at hG2; omega
  clear hG2
  go_enter Try.func100, Try.ntmps100
  go_wp2_with (at_builtin; refine Lib.wpList_append_run _ rfl _ _ _ _ rfl _ _ rfl rfl _ _ (hrz _) ?_)
  go_ret
  exact ⟨G, rfl, HW.out, by go_grown⟩

set_option maxRecDepth 100000 in
set_option maxHeartbeats 2000000 in
theorem slConcat2_any (b off c0 : Nat) (A1 : Option Addr) (n1 c1 : Nat) (f : Nat → Int) (A2 : Option Addr) (n2 c2 : Nat) (g : Nat → Int) (w : World) (hb : b < w.heap.size) (h1 : w.cell? ⟨b, off, none⟩ = some (.slice A1 n1 c1)) (h2 : w.cell? ⟨b, off + 1, none⟩ = some (.slice A2 n2 c2)) (hn1 : 1 ≤ n1 ∧ n1 ≤ 400) (hn2 : 1 ≤ n2 ∧ n2 ≤ 400) (hf : Ints w w.heap.size A1 n1 f) (hg : Ints w w.heap.size A2 n2 g) :
    Calls Try.prog 90 #[.slice (some ⟨b, off, none⟩) 2 c0] w fun e w' => ∃ A c, e = .returned (.slice A (n1 + n2) c) ∧ Row w' w.heap.size A (n1 + n2) c (listOf n1 f ++ listOf n2 g) ∧ Below w.heap.size w w' := by
  have HF := hide hf
  have HG := hide hg
  have HGR : Hid (∀ W : World, Calls Try.prog 100 #[.slice none 0 0, .int .i64 ((n1 : Int) + (n2 : Int))] W fun e w' => ∃ G, e = .returned (.slice (some ⟨W.heap.size, 0, none⟩) 0 G) ∧ Row w' W.heap.size (some ⟨W.heap.size, 0, none⟩) 0 G [] ∧ Below W.heap.size W w') := hide (fun W => by
    have h := slGrow_nil (n1 + n2) W (by omega)
    rw [Int.natCast_add] at h
    exact h)
  clear hf hg
  go_enter Try.func90, Try.ntmps90
  go_wp2_with fail
  go_loop [3, 11] (fun s i => (i = .int .i64 0 ∧ s = .int .i64 0) ∨ (i = .int .i64 1 ∧ s = .int .i64 n1) ∨ (i = .int .i64 2 ∧ s = .int .i64 ((n1 : Int) + (n2 : Int)))) (fun _ i => 2 - (intOf i).toNat)
  case atStart => exact .inl ⟨rfl, rfl⟩
  case round =>
    rcases hrel with ⟨rfl, rfl⟩ | ⟨rfl, rfl⟩ | ⟨rfl, rfl⟩
    · go_wp2_with fail
      go_round
      case rel => exact .inr (.inl ⟨rfl, by simp⟩)
      case measure => simp [intOf]
    · go_wp2_with fail
      go_round
      case rel => exact .inr (.inr ⟨rfl, rfl⟩)
      case measure => simp [intOf]
    · go_wp2_with fail
      refine (HGR.out _).mono ?_
      rintro e w2 ⟨G, rfl, hr2, hb2⟩
      have q1 := (hb2.cell (p := ⟨b, off, none⟩) hb).trans h1
      have q2 := (hb2.cell (p := ⟨b, off + 1, none⟩) hb).trans h2
      have HR2 := hide hr2
      have HB2 := hide hb2
      clear hr2 hb2 h1 h2
      go_wp2_with fail
      go_loopw [6, 27] (fun v i wr => ∃ (A : Option Addr) (n c : Nat) (xs : List Int), v = .slice A n c ∧ Row wr w.heap.size A n c xs ∧ Below w.heap.size w wr ∧ ((i = .int .i64 0 ∧ n = 0 ∧ xs = []) ∨ (i = .int .i64 1 ∧ n = n1 ∧ xs = listOf n1 f) ∨ (i = .int .i64 2 ∧ n = n1 + n2 ∧ xs = listOf n1 f ++ listOf n2 g))) (fun _ i _ => 2 - (intOf i).toNat)
      case atStart => exact ⟨_, _, _, _, rfl, HR2.out, HB2.out, .inl ⟨rfl, rfl, rfl⟩⟩
      case round =>
        obtain ⟨A, n, c, xs, rfl, hrow, hbr, hcase⟩ := hrel
        have HRW := hide hrow
        have HB := hide hbr
        have hz := hbr.size
        have p1 := (hbr.cell (p := ⟨b, off, none⟩) hb).trans ((HB2.out.cell (p := ⟨b, off, none⟩) hb).symm.trans q1)
        have p2 := (hbr.cell (p := ⟨b, off + 1, none⟩) hb).trans ((HB2.out.cell (p := ⟨b, off + 1, none⟩) hb).symm.trans q2)
        clear hrow hbr q1 q2
        rcases hcase with ⟨rfl, rfl, rfl⟩ | ⟨rfl, rfl, rfl⟩ | ⟨rfl, rfl, rfl⟩
        · go_wp2_with (at_builtin; refine push_ints rfl _ _ rfl [] rfl HRW.out f (HF.out.keep HB.out (Nat.le_refl _)) (by omega) rfl (by omega) hz ?_; intro A3 c3 w3 hr3 hb3 hg3; rw [Nat.zero_add] at hr3; rw [List.nil_append] at hr3; rw [Nat.zero_add]; have HX := hide (show _ ∧ _ from ⟨hr3, HB.out.trans hb3⟩); clear hr3 hb3 hg3)
          go_roundw
          case rel => first | exact ⟨_, _, _, _, rfl, HX.out.1, HX.out.2, .inr (.inl ⟨rfl, rfl, rfl⟩)⟩ | ((repeat apply Exists.intro); exact ⟨⟨_, _, _, _, rfl, HX.out.1, HX.out.2, .inr (.inl ⟨rfl, rfl, rfl⟩)⟩, rfl⟩)
          case measure => simp [intOf]
        · go_wp2_with (at_builtin; refine push_ints rfl _ _ rfl (listOf n f) rfl HRW.out g (HG.out.keep HB.out (Nat.le_refl _)) (by omega) rfl (by omega) hz ?_; intro A3 c3 w3 hr3 hb3 hg3; have HX := hide (show _ ∧ _ from ⟨hr3, HB.out.trans hb3⟩); clear hr3 hb3 hg3)
          go_roundw
          case rel => first | exact ⟨_, _, _, _, rfl, HX.out.1, HX.out.2, .inr (.inr ⟨rfl, rfl, rfl⟩)⟩ | ((repeat apply Exists.intro); exact ⟨⟨_, _, _, _, rfl, HX.out.1, HX.out.2, .inr (.inr ⟨rfl, rfl, rfl⟩)⟩, rfl⟩)
          case measure => simp [intOf]
        · go_wp2_with fail
          go_ret
          exact ⟨_, _, rfl, HRW.out, HB.out⟩
end Go.Proofs.Ythafmoofemfdmaa
