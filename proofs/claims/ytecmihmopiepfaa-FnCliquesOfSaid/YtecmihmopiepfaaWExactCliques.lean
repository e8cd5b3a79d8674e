/-
  FnExactCliquesOf returns true for all arguments: the walk. Conditions: none.
-/
import Derived.Test.YtecmihmopiepfaaCliqPlain
namespace Go.Proofs.Ytecmihmopiepfaa
open Go.RowKit
theorem CliquesOfI_any' (A : Option Addr) (n c : Nat) (f : Nat → Int) (w : World) (hn : n ≤ 1048576) (h : Ints w w.heap.size A n f) :
    Calls Try.prog 34 #[.slice A n c] w fun e w' => e = .returned (.int .i64 (clV n f)) ∧ Below w.heap.size w w' := by
  rw [← clVW]; exact CliquesOfI_any A n c f w hn h
set_option maxHeartbeats 4000000 in
set_option maxRecDepth 100000 in
theorem fnExactCliquesOf_walk (A0 : Option Addr) (n0 c0 : Nat) (z0 : List Int) (w : World) (h0 : IsRow .i64 w A0 n0 c0 z0) :
    Calls Try.prog 11 #[.slice A0 n0 c0] w fun e w' => e = .returned (.bool true) ∧ Below w.heap.size w w' := by
  obtain ⟨r0, hn0⟩ := ints_in h0
  clear h0
  generalize (fun i => z0.getD i 0) = f0 at r0
  have R0 := hide (fun (W : World) (hb : Below w.heap.size w W) => r0.keep hb hb.size)
  clear r0
  by_cases hs0 : 1048576 < n0
  · go_enter Try.func11, Try.ntmps11
    go_wp2_with fail
    go_ret
    exact ⟨rfl, by go_grown⟩
  have S := hide (fun (b0 : Option Addr) (W : World) (q0 : Ints W W.heap.size b0 n0 f0) => CliquesOfS_any b0 n0 n0 f0 W (by omega) q0)
  have I := hide (fun (b0 : Option Addr) (W : World) (q0 : Ints W W.heap.size b0 n0 f0) => CliquesOfI_any' b0 n0 n0 f0 W (by omega) q0)
  generalize clV n0 f0 = v0 at S I
  have ev0 : (v0 != v0) = false := by simp
  go_enter Try.func11, Try.ntmps11
  go_wp2_with fail
  refine (toIntS_any A0 n0 c0 f0 _ (by omega) (R0.out _ (up' (Below.refl w.heap.size w) (by first | exact Below.refl _ _ | go_grown | exact Below.drew (by go_grown))))).mono ?_
  rintro e w1 ⟨rfl, m1, hb1, y1⟩
  have hc1 : Below w.heap.size w w1 := up' (by first | exact Below.refl _ _ | go_grown | exact Below.drew (by go_grown)) hb1
  have B1 : Below w.heap.size w w1 := up' (Below.refl w.heap.size w) hc1
  have z1 : w.heap.size ≤ w1.heap.size := hc1.size
  have TM1 : IT w1 (w.heap.size) w1.heap.size (some ⟨w.heap.size, 0, none⟩) n0 f0 := (IT.of_rowIs m1).mono (Nat.le_refl _) m1.lt
  have Ts0_1 := hide (fun (W : World) (hb : Below w1.heap.size w1 W) => (TM1).keepB hb)
  clear m1 y1 TM1
  go_wp2_with fail
  refine (S.out (some ⟨w.heap.size, 0, none⟩) _ (Ts0_1.out _ (by first | exact Below.refl _ _ | go_grown | exact Below.drew (by go_grown))).ints).mono ?_
  rintro e w2 ⟨rfl, hb2⟩
  have hc2 : Below w1.heap.size w1 w2 := up' (by first | exact Below.refl _ _ | go_grown | exact Below.drew (by go_grown)) hb2
  have B2 : Below w.heap.size w w2 := up' B1 hc2
  have z2 : w1.heap.size ≤ w2.heap.size := hc2.size
  have Ts0_2 := hide (fun (W : World) (hb : Below w2.heap.size w2 W) => Ts0_1.out W (up' hc2 hb))
  clear Ts0_1
  go_wp2_with fail
  refine (toIntS_any A0 n0 c0 f0 _ (by omega) (R0.out _ (up' B2 (by first | exact Below.refl _ _ | go_grown | exact Below.drew (by go_grown))))).mono ?_
  rintro e w3 ⟨rfl, m3, hb3, y3⟩
  have hc3 : Below w2.heap.size w2 w3 := up' (by first | exact Below.refl _ _ | go_grown | exact Below.drew (by go_grown)) hb3
  have B3 : Below w.heap.size w w3 := up' B2 hc3
  have z3 : w2.heap.size ≤ w3.heap.size := hc3.size
  have TM3 : IT w3 (w2.heap.size) w3.heap.size (some ⟨w2.heap.size, 0, none⟩) n0 f0 := (IT.of_rowIs m3).mono (Nat.le_refl _) m3.lt
  have Tx0_3 := hide (fun (W : World) (hb : Below w3.heap.size w3 W) => (TM3).keepB hb)
  clear m3 y3 TM3
  go_wp2_with fail
  refine (I.out (some ⟨w2.heap.size, 0, none⟩) _ (Tx0_3.out _ (by first | exact Below.refl _ _ | go_grown | exact Below.drew (by go_grown))).ints).mono ?_
  rintro e w4 ⟨rfl, hb4⟩
  have hc4 : Below w3.heap.size w3 w4 := up' (by first | exact Below.refl _ _ | go_grown | exact Below.drew (by go_grown)) hb4
  have B4 : Below w.heap.size w w4 := up' B3 hc4
  have z4 : w3.heap.size ≤ w4.heap.size := hc4.size
  have Tx0_4 := hide (fun (W : World) (hb : Below w4.heap.size w4 W) => Tx0_3.out W (up' hc4 hb))
  clear Tx0_3
  go_wp2_with fail
  refine (toIntS_any A0 n0 c0 f0 _ (by omega) (R0.out _ (up' B4 (by first | exact Below.refl _ _ | go_grown | exact Below.drew (by go_grown))))).mono ?_
  rintro e w5 ⟨rfl, m5, hb5, y5⟩
  have hc5 : Below w4.heap.size w4 w5 := up' (by first | exact Below.refl _ _ | go_grown | exact Below.drew (by go_grown)) hb5
  have B5 : Below w.heap.size w w5 := up' B4 hc5
  have z5 : w4.heap.size ≤ w5.heap.size := hc5.size
  have Tx0_5 := hide (fun (W : World) (hb : Below w5.heap.size w5 W) => Tx0_4.out W (up' hc5 hb))
  clear Tx0_4
  have TM5 : IT w5 (w4.heap.size) w5.heap.size (some ⟨w4.heap.size, 0, none⟩) n0 f0 := (IT.of_rowIs m5).mono (Nat.le_refl _) m5.lt
  have Ty0_5 := hide (fun (W : World) (hb : Below w5.heap.size w5 W) => (TM5).keepB hb)
  clear m5 y5 TM5
  go_wp2_with fail
  refine (eqIntS_b (some ⟨w2.heap.size, 0, none⟩) (some ⟨w4.heap.size, 0, none⟩) n0 n0 n0 f0 _ (by omega) (Tx0_5.out _ (by first | exact Below.refl _ _ | go_grown | exact Below.drew (by go_grown))).ints (Ty0_5.out _ (by first | exact Below.refl _ _ | go_grown | exact Below.drew (by go_grown))).ints).mono ?_
  rintro e w6 ⟨rfl, hb6⟩
  have hc6 : Below w5.heap.size w5 w6 := up' (by first | exact Below.refl _ _ | go_grown | exact Below.drew (by go_grown)) hb6
  have B6 : Below w.heap.size w w6 := up' B5 hc6
  have z6 : w5.heap.size ≤ w6.heap.size := hc6.size
  have Tx0_6 := hide (fun (W : World) (hb : Below w6.heap.size w6 W) => Tx0_5.out W (up' hc6 hb))
  clear Tx0_5
  go_wp2_with fail
  go_ret
  exact ⟨rfl, B6⟩
end Go.Proofs.Ytecmihmopiepfaa
