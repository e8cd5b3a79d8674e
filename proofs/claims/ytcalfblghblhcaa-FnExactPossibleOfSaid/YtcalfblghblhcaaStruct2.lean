/-
  The law's helpers that size and copy schemes. Conditions: those that each contract names.
-/
import Derived.Test.YtcalfblghblhcaaStruct
import Derived.Deep.RegionWith
import Derived.Deep.DeepCutAuto
namespace Go.Proofs.Ytcalfblghblhcaa
open Go.RowKit

theorem szScheme_any (p : Int) (A O : Option Addr) (n c m e : Nat) (L : Nat → Nat) (M : Nat → Nat → Int) (left : Int) (w : World) (hn : n ≤ 9223372036854775807) (hL : ∀ i, i < n → L i ≤ 9223372036854775807) (hm : m ≤ 9223372036854775807) (hl : 0 ≤ left) (hl2 : left ≤ 1048576) (h : Mat w w.heap.size A n L M) :
    Calls Try.prog 11 #[.agg #[.int .i64 p, .slice A n c, .slice O m e], .int .i64 left] w fun x w' => ∃ r : Int, x = .returned (.int .i64 r) ∧ r ≤ 1048576 ∧ (0 ≤ r → n ≤ 1048576 ∧ m ≤ 1048576 ∧ ∀ i, i < n → L i ≤ 1048576) ∧ Below w.heap.size w w' := by
  have HL := hide hL
  have H1 := hide (fun (W : World) (hb : Below w.heap.size w W) => h.keep hb hb.size)
  clear hL h
  go_enter Try.func11, Try.ntmps11
  go_wp2_with fail
  refine (szIntSS_any A n c L M left _ hn HL.out hl hl2 (H1.out _ (by go_grown))).mono ?_
  rintro x w1 ⟨r, rfl, hr1, hr2, hb1⟩
  have B1 : Below w.heap.size w w1 := up hb1 (by go_grown) (by simp)
  by_cases h0 : r < 0
  · clear hr2
    go_wp2_with fail
    go_ret
    exact ⟨-1, rfl, by omega, by omega, B1⟩
  obtain ⟨hn2, hL2⟩ := hr2 (by omega)
  have HL2 := hide hL2
  clear hL2
  have hc2 : w1.cell? ⟨w.heap.size, 2, none⟩ = some (.slice O m e) := by
    rw [hb1.cell (p := ⟨w.heap.size, 2, none⟩) (by simp)]
    exact Blk.at_ (i := 2) (Blk.new w 25 #[.int .i64 p, .slice A n c, .slice O m e]) rfl
  go_wp2_with fail
  refine (szIntS_any O m e r w1 hm (by omega) hr1).mono ?_
  rintro x w2 ⟨rfl, rfl⟩
  by_cases h1 : r < m
  · rw [if_pos h1]
    go_wp2_with fail
    go_ret
    exact ⟨-1, rfl, by omega, by omega, B1⟩
  · rw [if_neg h1]
    have h2 : (0 : Int) ≤ m := by omega
    go_wp2_with fail
    go_ret
    exact ⟨_, rfl, by omega, fun _ => ⟨hn2, by omega, HL2.out⟩, B1⟩

theorem toScheme_any (p : Int) (A O : Option Addr) (n c m e : Nat) (L : Nat → Nat) (M : Nat → Nat → Int) (f : Nat → Int) (w : World) (hn : n ≤ 1048576) (hL : ∀ i, i < n → L i ≤ 1048576) (hm : m ≤ 1048576) (h : Mat w w.heap.size A n L M) (h2 : Ints w w.heap.size O m f) :
    Calls Try.prog 13 #[.agg #[.int .i64 p, .slice A n c, .slice O m e]] w fun x w' => ∃ A' O', x = .returned (.agg #[.int .i64 p, .slice A' n n, .slice O' m m]) ∧ ST w' w.heap.size w'.heap.size A' n L M O' m f ∧ Below w.heap.size w w' := by
  have HL := hide hL
  have H1 := hide (fun (W : World) (hb : Below w.heap.size w W) => h.keep hb hb.size)
  have H2 := hide (fun (W : World) (hb : Below w.heap.size w W) => h2.keep hb hb.size)
  clear hL h h2
  go_enter Try.func13, Try.ntmps13
  go_wp2_with fail
  refine (toIntSS_any A n c L M _ hn HL.out (H1.out _ (by go_grown))).mono ?_
  rintro x w1 ⟨rfl, m1, hb1, hz1⟩
  have B1 : Below w.heap.size w w1 := up hb1 (by go_grown) (by simp; omega)
  obtain ⟨hc1, hf1⟩ := bcell hb1
  have D1 : Blk w1 (w.heap.size + 1 + 1) 29 #[.int .i64 p, .slice none 0 0, .slice none 0 0] := Blk.below (Blk.newAt (by simp) _ _) hb1 (by simp)
  have C1 : Blk w1 (w.heap.size + 1) 29 #[.int .i64 0, .slice none 0 0, .slice none 0 0] := Blk.below ((Blk.newAt (by simp) _ _).alloc _) hb1 (by simp)
  have M1 := hide m1
  have Z1 := hide hz1
  have k1 : w.heap.size + 3 ≤ w1.heap.size := by have := hb1.size; simp at this; omega
  clear m1 hz1
  have D1' := hide D1
  have C1' := hide C1
  clear D1 C1
  go_wp2_with fail
  refine (toIntS_any O m e f _ hm (H2.out _ (B1.setCell (p := ⟨w.heap.size + 1 + 1, 1, none⟩) (by show w.heap.size ≤ w.heap.size + 1 + 1; omega) _))).mono ?_
  rintro x w2 ⟨rfl, m2, hb2, hz2⟩
  have D2 := ((D1'.out.set_ 1 (.slice (some ⟨w.heap.size + 1 + 1 + 1, 0, none⟩) n n)).below hb2 (by simp [World.setCell]; omega))
  have C2 := ((C1'.out.far (p := ⟨w.heap.size + 1 + 1, 1, none⟩) (by simp) (.slice (some ⟨w.heap.size + 1 + 1 + 1, 0, none⟩) n n)).below hb2 (by simp [World.setCell]; omega))
  have d0 := D2.at_ (i := 0) rfl
  have d1 := D2.at_ (i := 1) rfl
  have d2 := D2.at_ (i := 2) rfl
  have g0 := C2.at_ (i := 0) rfl
  have g1 := C2.at_ (i := 1) rfl
  have g2 := C2.at_ (i := 2) rfl
  have fd := D2.frozen
  have fc := C2.frozen
  have k2 : w.heap.size + 3 ≤ w2.heap.size := by have := hb2.size; simp [World.setCell] at this; omega
  have m2' : w2.rowIs w1.heap.size 3 m (fun i => .int .i64 (f i)) := by simpa [World.setCell] using m2
  have hs2 : w1.heap.size < w2.heap.size := m2'.lt
  have hz1' : w1.heap.size = w.heap.size + 3 + 1 + n := by have := Z1.out; simp at this; omega
  have T : ST w2 (w.heap.size + 3) w2.heap.size (some ⟨w.heap.size + 1 + 1 + 1, 0, none⟩) n L M (some ⟨w1.heap.size, 0, none⟩) m f := by
    refine ⟨fun j => some ⟨w.heap.size + 1 + 1 + 1 + 1 + j, 0, none⟩, ?_, (IT.of_rowIs m2').mono (by omega) (by omega), fun i hi => .inr (by simp <;> omega)⟩
    have hx := M1.out
    have hkeep : ∀ k, w.heap.size + 3 ≤ k → k < w1.heap.size → w2.heap[k]? = w1.heap[k]? := fun k h1 h2 =>
      (hb2.block k (by simpa [World.setCell] using h2)).trans (Below.heap_setCell w1 _ _ k (by show k ≠ w.heap.size + 1 + 1; omega))
    refine .inr ⟨w.heap.size + 1 + 1 + 1, n, _, L, rfl, by omega, ?_, Nat.le_refl _, fun i hi => ⟨rfl, ?_⟩, fun i j _ _ hne => .inr (fun e => hne (by injection e with e; injection e with e; omega))⟩
    · exact (show w1.rowIs (w.heap.size + 1 + 1 + 1) _ _ _ by simpa using hx.top).of_block (hkeep _ (by omega) (by omega))
    · have hr := (show w1.rowIs (w.heap.size + 1 + 1 + 1 + 1 + i) _ _ _ by simpa using hx.rows i hi).of_block (hkeep _ (by omega) (by omega))
      exact (IT.of_rowIs hr).mono (by omega) (by omega)
  have B2 : Below w.heap.size w w2 := up hb2 (B1.setCell (p := ⟨w.heap.size + 1 + 1, 1, none⟩) (by show w.heap.size ≤ w.heap.size + 1 + 1; omega) _) (by simpa [World.setCell] using B1.size)
  have HT := hide T
  have HB2 := hide B2
  clear D2 C2 m2 m2' hz2 T B2 hz1' hc1 hf1 hb1 hb2 B1
  go_wp2_with fail
  refine bodyPost_ret (v := .agg #[.int .i64 p, .slice (some ⟨w.heap.size + 1 + 1 + 1, 0, none⟩) n n, .slice (some ⟨w1.heap.size, 0, none⟩) m m]) (by simp [results, Try.results13, go_sem, g0, g1, g2, fc]) rfl ⟨_, _, rfl, ?_, ?_⟩
  · have o1 : Outside w.heap.size (w.heap.size + 3) w2 _ := ((((Outside.refl w.heap.size (w.heap.size + 3) w2).set_ (p := ⟨w.heap.size + 1 + 1, 2, none⟩) (by dsimp only; omega) (.slice (some ⟨w1.heap.size, 0, none⟩) m m)).set_ (p := ⟨w.heap.size + 1, 0, none⟩) (by dsimp only; omega) (.int .i64 p)).set_ (p := ⟨w.heap.size + 1, 1, none⟩) (by dsimp only; omega) (.slice (some ⟨w.heap.size + 1 + 1 + 1, 0, none⟩) n n)).set_ (p := ⟨w.heap.size + 1, 2, none⟩) (by dsimp only; omega) (.slice (some ⟨w1.heap.size, 0, none⟩) m m)
    exact (HT.out.keep o1 (.inr (Nat.le_refl _))).mono (by omega) (by simp [World.setCell])
  · exact (((HB2.out.setCell (p := ⟨w.heap.size + 1 + 1, 2, none⟩) (by dsimp only; omega) _).setCell (p := ⟨w.heap.size + 1, 0, none⟩) (by dsimp only; omega) _).setCell (p := ⟨w.heap.size + 1, 1, none⟩) (by dsimp only; omega) _).setCell (p := ⟨w.heap.size + 1, 2, none⟩) (by dsimp only; omega) _
end Go.Proofs.Ytcalfblghblhcaa
