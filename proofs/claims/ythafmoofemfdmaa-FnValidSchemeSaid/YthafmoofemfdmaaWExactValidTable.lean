/-
  FnExactValidTable returns true for all arguments: the walk. Conditions: none.
-/
import Derived.Test.YthafmoofemfdmaaTable
import Derived.Test.YthafmoofemfdmaaThing
namespace Go.Proofs.Ythafmoofemfdmaa
open Go.RowKit

theorem ValidTableS_any (p : Int) (A : Option Addr) (n c : Nat) (L : Nat → Nat) (M : Nat → Nat → Int) (w : World) (hn : n ≤ 1048576) (hL : ∀ i, i < n → L i ≤ 1048576) (h : Mat w w.heap.size A n L M) :
    Calls Try.prog 28 #[.int .i64 p, .slice A n c] w fun e w' => e = .returned (.bool (vTab p n L M)) ∧ Below w.heap.size w w' := by
  have H := hide (validTableS_any p A n c L M w (by omega) (fun i hi => Nat.le_trans (hL i hi) (by omega)) h)
  clear hn hL h
  go_enter Try.func28, Try.ntmps28
  go_wp2_with fail
  refine (H.out).mono ?_
  rintro e w1 ⟨rfl, hb⟩
  go_wp2_with fail
  go_ret
  exact ⟨rfl, hb⟩

theorem ValidTableI_any (p : Int) (A : Option Addr) (n c : Nat) (L : Nat → Nat) (M : Nat → Nat → Int) (w : World) (hn : n ≤ 1048576) (hL : ∀ i, i < n → L i ≤ 1048576) (h : Mat w w.heap.size A n L M) :
    Calls Try.prog 30 #[.int .i64 p, .slice A n c] w fun e w' => e = .returned (.bool (vTab p n L M)) ∧ Below w.heap.size w w' := by
  have H := hide (tableOf_any p A n c L M w (by omega) (fun i hi => Nat.le_trans (hL i hi) (by omega)) h)
  clear hn hL h
  go_enter Try.func30, Try.ntmps30
  go_wp2_with fail
  refine (H.out).mono ?_
  rintro e w1 ⟨rfl, hb⟩
  go_wp2_with fail
  go_ret
  exact ⟨rfl, hb⟩

set_option maxHeartbeats 4000000 in
set_option maxRecDepth 100000 in
theorem fnExactValidTable_walk (a0 : Int) (A1 : Option Addr) (n1 c1 : Nat) (R1 : Nat → Option Addr) (L1 D1 : Nat → Nat) (z1 : Nat → List Int) (w : World) (_w0 : (Lit.int .i64 a0).wf = true) (h1 : IsRows w A1 n1 c1 R1 L1 D1 z1) :
    Calls Try.prog 7 #[.int .i64 a0, .slice A1 n1 c1] w fun e w' => e = .returned (.bool true) ∧ Below w.heap.size w w' := by
  clear _w0
  obtain ⟨r1, hn1, hL1⟩ := mat_in h1
  clear h1
  generalize (fun i j => (z1 i).getD j 0) = M1 at r1
  have RR1 := hide (fun (W : World) (hb : Below w.heap.size w W) => r1.keep hb hb.size)
  have HL1 := hide hL1
  clear r1 hL1
  go_enter Try.func7, Try.ntmps7
  go_wp2_with fail
  refine (szIntSS_any A1 n1 c1 L1 M1 _ _ hn1 HL1.out (by omega) (by omega) (RR1.out _ (up' (Below.refl w.heap.size w) (by first | exact Below.refl _ _ | go_grown | exact Below.drew (by go_grown))))).mono ?_
  rintro e w1 ⟨r, rfl, hr1, hr2, hb1⟩
  have hc1 : Below w.heap.size w w1 := up' (by first | exact Below.refl _ _ | go_grown | exact Below.drew (by go_grown)) hb1
  have B1 : Below w.heap.size w w1 := up' (Below.refl w.heap.size w) hc1
  have z1 : w.heap.size ≤ w1.heap.size := hc1.size
  by_cases h0 : r < 0
  · clear hr2
    go_wp2_with fail
    go_ret
    exact ⟨rfl, B1⟩
  obtain ⟨hn1, hL1⟩ := hr2 (by omega)
  clear hr2
  have HL1 := hide hL1
  clear hL1
  have S := hide (fun (b1 : Option Addr) (W : World) (q1 : Mat W W.heap.size b1 n1 L1 M1) => ValidTableS_any a0 b1 n1 n1 L1 M1 W hn1 HL1.out q1)
  have I := hide (fun (b1 : Option Addr) (W : World) (q1 : Mat W W.heap.size b1 n1 L1 M1) => ValidTableI_any a0 b1 n1 n1 L1 M1 W hn1 HL1.out q1)
  generalize vTab a0 n1 L1 M1 = v0 at S I
  have ev0 : (v0 != v0) = false := by simp
  go_wp2_with fail
  refine (toIntSS_any A1 n1 c1 L1 M1 _ hn1 HL1.out (RR1.out _ (up' B1 (by first | exact Below.refl _ _ | go_grown | exact Below.drew (by go_grown))))).mono ?_
  rintro e w2 ⟨rfl, m2, hb2, y2⟩
  have hc2 : Below w1.heap.size w1 w2 := up' (by first | exact Below.refl _ _ | go_grown | exact Below.drew (by go_grown)) hb2
  have B2 : Below w.heap.size w w2 := up' B1 hc2
  have z2 : w1.heap.size ≤ w2.heap.size := hc2.size
  have TM2 : MT w2 (w1.heap.size) w2.heap.size (some ⟨w1.heap.size, 0, none⟩) n1 L1 M1 := (MT.of_ownMat m2).mono (Nat.le_refl _) (by omega)
  have Ts1_2 := hide (fun (W : World) (hb : Below w2.heap.size w2 W) => (TM2).keepB hb)
  clear m2 y2 TM2
  go_wp2_with fail
  refine (S.out (some ⟨w1.heap.size, 0, none⟩) _ (Ts1_2.out _ (by first | exact Below.refl _ _ | go_grown | exact Below.drew (by go_grown))).mat).mono ?_
  rintro e w3 ⟨rfl, hb3⟩
  have hc3 : Below w2.heap.size w2 w3 := up' (by first | exact Below.refl _ _ | go_grown | exact Below.drew (by go_grown)) hb3
  have B3 : Below w.heap.size w w3 := up' B2 hc3
  have z3 : w2.heap.size ≤ w3.heap.size := hc3.size
  have Ts1_3 := hide (fun (W : World) (hb : Below w3.heap.size w3 W) => Ts1_2.out W (up' hc3 hb))
  clear Ts1_2
  go_wp2_with fail
  refine (toIntSS_any A1 n1 c1 L1 M1 _ hn1 HL1.out (RR1.out _ (up' B3 (by first | exact Below.refl _ _ | go_grown | exact Below.drew (by go_grown))))).mono ?_
  rintro e w4 ⟨rfl, m4, hb4, y4⟩
  have hc4 : Below w3.heap.size w3 w4 := up' (by first | exact Below.refl _ _ | go_grown | exact Below.drew (by go_grown)) hb4
  have B4 : Below w.heap.size w w4 := up' B3 hc4
  have z4 : w3.heap.size ≤ w4.heap.size := hc4.size
  have TM4 : MT w4 (w3.heap.size) w4.heap.size (some ⟨w3.heap.size, 0, none⟩) n1 L1 M1 := (MT.of_ownMat m4).mono (Nat.le_refl _) (by omega)
  have Tx1_4 := hide (fun (W : World) (hb : Below w4.heap.size w4 W) => (TM4).keepB hb)
  clear m4 y4 TM4
  go_wp2_with fail
  refine (I.out (some ⟨w3.heap.size, 0, none⟩) _ (Tx1_4.out _ (by first | exact Below.refl _ _ | go_grown | exact Below.drew (by go_grown))).mat).mono ?_
  rintro e w5 ⟨rfl, hb5⟩
  have hc5 : Below w4.heap.size w4 w5 := up' (by first | exact Below.refl _ _ | go_grown | exact Below.drew (by go_grown)) hb5
  have B5 : Below w.heap.size w w5 := up' B4 hc5
  have z5 : w4.heap.size ≤ w5.heap.size := hc5.size
  have Tx1_5 := hide (fun (W : World) (hb : Below w5.heap.size w5 W) => Tx1_4.out W (up' hc5 hb))
  clear Tx1_4
  go_wp2_with fail
  refine (toIntSS_any A1 n1 c1 L1 M1 _ hn1 HL1.out (RR1.out _ (up' B5 (by first | exact Below.refl _ _ | go_grown | exact Below.drew (by go_grown))))).mono ?_
  rintro e w6 ⟨rfl, m6, hb6, y6⟩
  have hc6 : Below w5.heap.size w5 w6 := up' (by first | exact Below.refl _ _ | go_grown | exact Below.drew (by go_grown)) hb6
  have B6 : Below w.heap.size w w6 := up' B5 hc6
  have z6 : w5.heap.size ≤ w6.heap.size := hc6.size
  have Tx1_6 := hide (fun (W : World) (hb : Below w6.heap.size w6 W) => Tx1_5.out W (up' hc6 hb))
  clear Tx1_5
  have TM6 : MT w6 (w5.heap.size) w6.heap.size (some ⟨w5.heap.size, 0, none⟩) n1 L1 M1 := (MT.of_ownMat m6).mono (Nat.le_refl _) (by omega)
  have Ty1_6 := hide (fun (W : World) (hb : Below w6.heap.size w6 W) => (TM6).keepB hb)
  clear m6 y6 TM6
  go_wp2_with fail
  refine (eqIntSS_b (some ⟨w3.heap.size, 0, none⟩) (some ⟨w5.heap.size, 0, none⟩) n1 n1 n1 L1 M1 _ (by omega) (fun i hi => Nat.le_trans (HL1.out i hi) (by omega)) (Tx1_6.out _ (by first | exact Below.refl _ _ | go_grown | exact Below.drew (by go_grown))).mat (Ty1_6.out _ (by first | exact Below.refl _ _ | go_grown | exact Below.drew (by go_grown))).mat).mono ?_
  rintro e w7 ⟨rfl, hb7⟩
  have hc7 : Below w6.heap.size w6 w7 := up' (by first | exact Below.refl _ _ | go_grown | exact Below.drew (by go_grown)) hb7
  have B7 : Below w.heap.size w w7 := up' B6 hc7
  have z7 : w6.heap.size ≤ w7.heap.size := hc7.size
  have Tx1_7 := hide (fun (W : World) (hb : Below w7.heap.size w7 W) => Tx1_6.out W (up' hc7 hb))
  clear Tx1_6
  go_wp2_with fail
  go_ret
  exact ⟨rfl, B7⟩
end Go.Proofs.Ythafmoofemfdmaa
