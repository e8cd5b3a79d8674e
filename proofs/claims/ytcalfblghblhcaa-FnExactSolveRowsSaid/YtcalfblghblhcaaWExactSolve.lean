/-
  FnExactSolveRows returns true for all arguments: the walk. Conditions: none.
-/
import Derived.Test.YtcalfblghblhcaaSolveX
import Derived.Test.YtcalfblghblhcaaThing
namespace Go.Proofs.Ytcalfblghblhcaa
open Go.RowKit

theorem SolveXS (p : Int) (A : Option Addr) (n c : Nat) (L : Nat → Nat) (M : Nat → Nat → Int) (B : Option Addr) (n1 c1 : Nat) (g : Nat → Int) (w : World) (hn : n ≤ 1048576) (hL : ∀ i, i < n → L i ≤ 1048576) (h : Mat w w.heap.size A n L M) (hn1 : n1 ≤ 1048576) (h2 : Ints w w.heap.size B n1 g) :
    Calls Try.prog 36 #[.int .i64 p, .slice A n c, .slice B n1 c1] w fun e w' => ∃ A' c', e = .returned (.tuple #[.slice A' (srN p n L M n1 g) c', .bool (srB p n L M n1 g)]) ∧ IT w' w.heap.size w'.heap.size A' (srN p n L M n1 g) (srF p n L M n1 g) ∧ Below w.heap.size w w' :=
  (SolveRowsS_any p A n c L M B n1 c1 g w hn hL h hn1 h2).mono fun _ _ h => h
theorem SolveXI (p : Int) (A : Option Addr) (n c : Nat) (L : Nat → Nat) (M : Nat → Nat → Int) (B : Option Addr) (n1 c1 : Nat) (g : Nat → Int) (w : World) (hn : n ≤ 1048576) (hL : ∀ i, i < n → L i ≤ 1048576) (h : Mat w w.heap.size A n L M) (hn1 : n1 ≤ 1048576) (h2 : Ints w w.heap.size B n1 g) :
    Calls Try.prog 38 #[.int .i64 p, .slice A n c, .slice B n1 c1] w fun e w' => ∃ A' c', e = .returned (.tuple #[.slice A' (srN p n L M n1 g) c', .bool (srB p n L M n1 g)]) ∧ IT w' w.heap.size w'.heap.size A' (srN p n L M n1 g) (srF p n L M n1 g) ∧ Below w.heap.size w w' :=
  (SolveRowsI_any p A n c L M B n1 c1 g w hn hL h hn1 h2).mono fun _ _ h => h
set_option maxHeartbeats 4000000 in
set_option maxRecDepth 100000 in
theorem fnExactSolveRows_walk (a0 : Int) (A1 : Option Addr) (n1 c1 : Nat) (R1 : Nat → Option Addr) (L1 D1 : Nat → Nat) (z1 : Nat → List Int) (A2 : Option Addr) (n2 c2 : Nat) (z2 : List Int) (w : World) (_w0 : (Lit.int .i64 a0).wf = true) (h1 : IsRows w A1 n1 c1 R1 L1 D1 z1) (h2 : IsRow .i64 w A2 n2 c2 z2) :
    Calls Try.prog 10 #[.int .i64 a0, .slice A1 n1 c1, .slice A2 n2 c2] w fun e w' => e = .returned (.bool true) ∧ Below w.heap.size w w' := by
  clear _w0
  obtain ⟨r1, hn1, hL1⟩ := mat_in h1
  clear h1
  generalize (fun i j => (z1 i).getD j 0) = M1 at r1
  have RR1 := hide (fun (W : World) (hb : Below w.heap.size w W) => r1.keep hb hb.size)
  have HL1 := hide hL1
  clear r1 hL1
  obtain ⟨r2, hn2⟩ := ints_in h2
  clear h2
  generalize (fun i => z2.getD i 0) = f2 at r2
  have R2 := hide (fun (W : World) (hb : Below w.heap.size w W) => r2.keep hb hb.size)
  clear r2
  by_cases hs2 : 1048576 < n2
  · go_enter Try.func10, Try.ntmps10
    go_wp2_with fail
    go_ret
    exact ⟨rfl, by go_grown⟩
  go_enter Try.func10, Try.ntmps10
  go_wp2_with fail
  refine (szIntSS_any A1 n1 c1 L1 M1 _ _ hn1 HL1.out (by omega) (by omega) (RR1.out _ (up' (Below.refl w.heap.size w) (by first | exact Below.refl _ _ | go_grown | exact Below.drew (by go_grown))))).mono ?_
  rintro e w1 ⟨r, rfl, hr1, hr2, hb1⟩
  have hc1 : Below w.heap.size w w1 := up' (by first | exact Below.refl _ _ | go_grown | exact Below.drew (by go_grown)) hb1
  have B1 : Below w.heap.size w w1 := up' (Below.refl w.heap.size w) hc1
  have z1 : w.heap.size ≤ w1.heap.size := hc1.size
  by_cases h0 : r < 0
  · clear hr2
    go_wp2_with fail
    go_ret
    exact ⟨rfl, B1⟩
  obtain ⟨hn1, hL1⟩ := hr2 (by omega)
  clear hr2
  have HL1 := hide hL1
  clear hL1
  have S := hide (fun (b1 : Option Addr) (b2 : Option Addr) (W : World) (q1 : Mat W W.heap.size b1 n1 L1 M1) (q2 : Ints W W.heap.size b2 n2 f2) => SolveXS a0 b1 n1 n1 L1 M1 b2 n2 n2 f2 W hn1 HL1.out q1 (by omega) q2)
  have I := hide (fun (b1 : Option Addr) (b2 : Option Addr) (W : World) (q1 : Mat W W.heap.size b1 n1 L1 M1) (q2 : Ints W W.heap.size b2 n2 f2) => SolveXI a0 b1 n1 n1 L1 M1 b2 n2 n2 f2 W hn1 HL1.out q1 (by omega) q2)
  obtain bN := sr_bd a0 n1 L1 M1 n2 f2
  generalize srN a0 n1 L1 M1 n2 f2 = N at S I bN
  generalize srF a0 n1 L1 M1 n2 f2 = F at S I bN
  generalize srB a0 n1 L1 M1 n2 f2 = v1 at S I
  have ev1 : (v1 != v1) = false := by simp
  go_wp2_with fail
  refine (toIntSS_any A1 n1 c1 L1 M1 _ hn1 HL1.out (RR1.out _ (up' B1 (by first | exact Below.refl _ _ | go_grown | exact Below.drew (by go_grown))))).mono ?_
  rintro e w2 ⟨rfl, m2, hb2, y2⟩
  have hc2 : Below w1.heap.size w1 w2 := up' (by first | exact Below.refl _ _ | go_grown | exact Below.drew (by go_grown)) hb2
  have B2 : Below w.heap.size w w2 := up' B1 hc2
  have z2 : w1.heap.size ≤ w2.heap.size := hc2.size
  have TM2 : MT w2 (w1.heap.size) w2.heap.size (some ⟨w1.heap.size, 0, none⟩) n1 L1 M1 := (MT.of_ownMat m2).mono (Nat.le_refl _) (by omega)
  have Ts1_2 := hide (fun (W : World) (hb : Below w2.heap.size w2 W) => (TM2).keepB hb)
  clear m2 y2 TM2
  go_wp2_with fail
  refine (toIntS_any A2 n2 c2 f2 _ (by omega) (R2.out _ (up' B2 (by first | exact Below.refl _ _ | go_grown | exact Below.drew (by go_grown))))).mono ?_
  rintro e w3 ⟨rfl, m3, hb3, y3⟩
  have hc3 : Below w2.heap.size w2 w3 := up' (by first | exact Below.refl _ _ | go_grown | exact Below.drew (by go_grown)) hb3
  have B3 : Below w.heap.size w w3 := up' B2 hc3
  have z3 : w2.heap.size ≤ w3.heap.size := hc3.size
  have Ts1_3 := hide (fun (W : World) (hb : Below w3.heap.size w3 W) => Ts1_2.out W (up' hc3 hb))
  clear Ts1_2
  have TM3 : IT w3 (w2.heap.size) w3.heap.size (some ⟨w2.heap.size, 0, none⟩) n2 f2 := (IT.of_rowIs m3).mono (Nat.le_refl _) m3.lt
  have Ts2_3 := hide (fun (W : World) (hb : Below w3.heap.size w3 W) => (TM3).keepB hb)
  clear m3 y3 TM3
  go_wp2_with fail
  refine (S.out (some ⟨w1.heap.size, 0, none⟩) (some ⟨w2.heap.size, 0, none⟩) _ (Ts1_3.out _ (by first | exact Below.refl _ _ | go_grown | exact Below.drew (by go_grown))).mat (Ts2_3.out _ (by first | exact Below.refl _ _ | go_grown | exact Below.drew (by go_grown))).ints).mono ?_
  rintro e w4 ⟨Av, cv, rfl, m4, hb4⟩
  have hc4 : Below w3.heap.size w3 w4 := up' (by first | exact Below.refl _ _ | go_grown | exact Below.drew (by go_grown)) hb4
  have B4 : Below w.heap.size w w4 := up' B3 hc4
  have z4 : w3.heap.size ≤ w4.heap.size := hc4.size
  have Ts1_4 := hide (fun (W : World) (hb : Below w4.heap.size w4 W) => Ts1_3.out W (up' hc4 hb))
  clear Ts1_3
  have Ts2_4 := hide (fun (W : World) (hb : Below w4.heap.size w4 W) => Ts2_3.out W (up' hc4 hb))
  clear Ts2_3
  have Tv_4 := hide (fun (W : World) (hb : Below w4.heap.size w4 W) => (m4).keepB hb)
  clear m4
  go_wp2_with fail
  refine (toIntSS_any A1 n1 c1 L1 M1 _ hn1 HL1.out (RR1.out _ (up' B4 (by first | exact Below.refl _ _ | go_grown | exact Below.drew (by go_grown))))).mono ?_
  rintro e w5 ⟨rfl, m5, hb5, y5⟩
  have hc5 : Below w4.heap.size w4 w5 := up' (by first | exact Below.refl _ _ | go_grown | exact Below.drew (by go_grown)) hb5
  have B5 : Below w.heap.size w w5 := up' B4 hc5
  have z5 : w4.heap.size ≤ w5.heap.size := hc5.size
  have Tv_5 := hide (fun (W : World) (hb : Below w5.heap.size w5 W) => Tv_4.out W (up' hc5 hb))
  clear Tv_4
  have TM5 : MT w5 (w4.heap.size) w5.heap.size (some ⟨w4.heap.size, 0, none⟩) n1 L1 M1 := (MT.of_ownMat m5).mono (Nat.le_refl _) (by omega)
  have Tx1_5 := hide (fun (W : World) (hb : Below w5.heap.size w5 W) => (TM5).keepB hb)
  clear m5 y5 TM5
  go_wp2_with fail
  refine (toIntS_any A2 n2 c2 f2 _ (by omega) (R2.out _ (up' B5 (by first | exact Below.refl _ _ | go_grown | exact Below.drew (by go_grown))))).mono ?_
  rintro e w6 ⟨rfl, m6, hb6, y6⟩
  have hc6 : Below w5.heap.size w5 w6 := up' (by first | exact Below.refl _ _ | go_grown | exact Below.drew (by go_grown)) hb6
  have B6 : Below w.heap.size w w6 := up' B5 hc6
  have z6 : w5.heap.size ≤ w6.heap.size := hc6.size
  have Tv_6 := hide (fun (W : World) (hb : Below w6.heap.size w6 W) => Tv_5.out W (up' hc6 hb))
  clear Tv_5
  have Tx1_6 := hide (fun (W : World) (hb : Below w6.heap.size w6 W) => Tx1_5.out W (up' hc6 hb))
  clear Tx1_5
  have TM6 : IT w6 (w5.heap.size) w6.heap.size (some ⟨w5.heap.size, 0, none⟩) n2 f2 := (IT.of_rowIs m6).mono (Nat.le_refl _) m6.lt
  have Tx2_6 := hide (fun (W : World) (hb : Below w6.heap.size w6 W) => (TM6).keepB hb)
  clear m6 y6 TM6
  go_wp2_with fail
  refine (I.out (some ⟨w4.heap.size, 0, none⟩) (some ⟨w5.heap.size, 0, none⟩) _ (Tx1_6.out _ (by first | exact Below.refl _ _ | go_grown | exact Below.drew (by go_grown))).mat (Tx2_6.out _ (by first | exact Below.refl _ _ | go_grown | exact Below.drew (by go_grown))).ints).mono ?_
  rintro e w7 ⟨Ag, cg, rfl, m7, hb7⟩
  have hc7 : Below w6.heap.size w6 w7 := up' (by first | exact Below.refl _ _ | go_grown | exact Below.drew (by go_grown)) hb7
  have B7 : Below w.heap.size w w7 := up' B6 hc7
  have z7 : w6.heap.size ≤ w7.heap.size := hc7.size
  have Tv_7 := hide (fun (W : World) (hb : Below w7.heap.size w7 W) => Tv_6.out W (up' hc7 hb))
  clear Tv_6
  have Tx1_7 := hide (fun (W : World) (hb : Below w7.heap.size w7 W) => Tx1_6.out W (up' hc7 hb))
  clear Tx1_6
  have Tx2_7 := hide (fun (W : World) (hb : Below w7.heap.size w7 W) => Tx2_6.out W (up' hc7 hb))
  clear Tx2_6
  have Tg_7 := hide (fun (W : World) (hb : Below w7.heap.size w7 W) => (m7).keepB hb)
  clear m7
  go_wp2_with fail
  refine (eqIntS_b Ag Av N cg cv F _ (by omega) (Tg_7.out _ (by first | exact Below.refl _ _ | go_grown | exact Below.drew (by go_grown))).ints (Tv_7.out _ (by first | exact Below.refl _ _ | go_grown | exact Below.drew (by go_grown))).ints).mono ?_
  rintro e w8 ⟨rfl, hb8⟩
  have hc8 : Below w7.heap.size w7 w8 := up' (by first | exact Below.refl _ _ | go_grown | exact Below.drew (by go_grown)) hb8
  have B8 : Below w.heap.size w w8 := up' B7 hc8
  have z8 : w7.heap.size ≤ w8.heap.size := hc8.size
  have Tv_8 := hide (fun (W : World) (hb : Below w8.heap.size w8 W) => Tv_7.out W (up' hc8 hb))
  clear Tv_7
  have Tx1_8 := hide (fun (W : World) (hb : Below w8.heap.size w8 W) => Tx1_7.out W (up' hc8 hb))
  clear Tx1_7
  have Tx2_8 := hide (fun (W : World) (hb : Below w8.heap.size w8 W) => Tx2_7.out W (up' hc8 hb))
  clear Tx2_7
  have Tg_8 := hide (fun (W : World) (hb : Below w8.heap.size w8 W) => Tg_7.out W (up' hc8 hb))
  clear Tg_7
  go_wp2_with fail
  refine (toIntSS_any A1 n1 c1 L1 M1 _ hn1 HL1.out (RR1.out _ (up' B8 (by first | exact Below.refl _ _ | go_grown | exact Below.drew (by go_grown))))).mono ?_
  rintro e w9 ⟨rfl, m9, hb9, y9⟩
  have hc9 : Below w8.heap.size w8 w9 := up' (by first | exact Below.refl _ _ | go_grown | exact Below.drew (by go_grown)) hb9
  have B9 : Below w.heap.size w w9 := up' B8 hc9
  have z9 : w8.heap.size ≤ w9.heap.size := hc9.size
  have Tv_9 := hide (fun (W : World) (hb : Below w9.heap.size w9 W) => Tv_8.out W (up' hc9 hb))
  clear Tv_8
  have Tx1_9 := hide (fun (W : World) (hb : Below w9.heap.size w9 W) => Tx1_8.out W (up' hc9 hb))
  clear Tx1_8
  have Tx2_9 := hide (fun (W : World) (hb : Below w9.heap.size w9 W) => Tx2_8.out W (up' hc9 hb))
  clear Tx2_8
  have Tg_9 := hide (fun (W : World) (hb : Below w9.heap.size w9 W) => Tg_8.out W (up' hc9 hb))
  clear Tg_8
  have TM9 : MT w9 (w8.heap.size) w9.heap.size (some ⟨w8.heap.size, 0, none⟩) n1 L1 M1 := (MT.of_ownMat m9).mono (Nat.le_refl _) (by omega)
  have Ty1_9 := hide (fun (W : World) (hb : Below w9.heap.size w9 W) => (TM9).keepB hb)
  clear m9 y9 TM9
  go_wp2_with fail
  refine (eqIntSS_b (some ⟨w4.heap.size, 0, none⟩) (some ⟨w8.heap.size, 0, none⟩) n1 n1 n1 L1 M1 _ (by omega) (fun i hi => Nat.le_trans (HL1.out i hi) (by omega)) (Tx1_9.out _ (by first | exact Below.refl _ _ | go_grown | exact Below.drew (by go_grown))).mat (Ty1_9.out _ (by first | exact Below.refl _ _ | go_grown | exact Below.drew (by go_grown))).mat).mono ?_
  rintro e w10 ⟨rfl, hb10⟩
  have hc10 : Below w9.heap.size w9 w10 := up' (by first | exact Below.refl _ _ | go_grown | exact Below.drew (by go_grown)) hb10
  have B10 : Below w.heap.size w w10 := up' B9 hc10
  have z10 : w9.heap.size ≤ w10.heap.size := hc10.size
  have Tv_10 := hide (fun (W : World) (hb : Below w10.heap.size w10 W) => Tv_9.out W (up' hc10 hb))
  clear Tv_9
  have Tx1_10 := hide (fun (W : World) (hb : Below w10.heap.size w10 W) => Tx1_9.out W (up' hc10 hb))
  clear Tx1_9
  have Tx2_10 := hide (fun (W : World) (hb : Below w10.heap.size w10 W) => Tx2_9.out W (up' hc10 hb))
  clear Tx2_9
  have Tg_10 := hide (fun (W : World) (hb : Below w10.heap.size w10 W) => Tg_9.out W (up' hc10 hb))
  clear Tg_9
  go_wp2_with fail
  refine (toIntS_any A2 n2 c2 f2 _ (by omega) (R2.out _ (up' B10 (by first | exact Below.refl _ _ | go_grown | exact Below.drew (by go_grown))))).mono ?_
  rintro e w11 ⟨rfl, m11, hb11, y11⟩
  have hc11 : Below w10.heap.size w10 w11 := up' (by first | exact Below.refl _ _ | go_grown | exact Below.drew (by go_grown)) hb11
  have B11 : Below w.heap.size w w11 := up' B10 hc11
  have z11 : w10.heap.size ≤ w11.heap.size := hc11.size
  have Tv_11 := hide (fun (W : World) (hb : Below w11.heap.size w11 W) => Tv_10.out W (up' hc11 hb))
  clear Tv_10
  have Tx1_11 := hide (fun (W : World) (hb : Below w11.heap.size w11 W) => Tx1_10.out W (up' hc11 hb))
  clear Tx1_10
  have Tx2_11 := hide (fun (W : World) (hb : Below w11.heap.size w11 W) => Tx2_10.out W (up' hc11 hb))
  clear Tx2_10
  have Tg_11 := hide (fun (W : World) (hb : Below w11.heap.size w11 W) => Tg_10.out W (up' hc11 hb))
  clear Tg_10
  have TM11 : IT w11 (w10.heap.size) w11.heap.size (some ⟨w10.heap.size, 0, none⟩) n2 f2 := (IT.of_rowIs m11).mono (Nat.le_refl _) m11.lt
  have Ty2_11 := hide (fun (W : World) (hb : Below w11.heap.size w11 W) => (TM11).keepB hb)
  clear m11 y11 TM11
  go_wp2_with fail
  refine (eqIntS_b (some ⟨w5.heap.size, 0, none⟩) (some ⟨w10.heap.size, 0, none⟩) n2 n2 n2 f2 _ (by omega) (Tx2_11.out _ (by first | exact Below.refl _ _ | go_grown | exact Below.drew (by go_grown))).ints (Ty2_11.out _ (by first | exact Below.refl _ _ | go_grown | exact Below.drew (by go_grown))).ints).mono ?_
  rintro e w12 ⟨rfl, hb12⟩
  have hc12 : Below w11.heap.size w11 w12 := up' (by first | exact Below.refl _ _ | go_grown | exact Below.drew (by go_grown)) hb12
  have B12 : Below w.heap.size w w12 := up' B11 hc12
  have z12 : w11.heap.size ≤ w12.heap.size := hc12.size
  have Tv_12 := hide (fun (W : World) (hb : Below w12.heap.size w12 W) => Tv_11.out W (up' hc12 hb))
  clear Tv_11
  have Tx1_12 := hide (fun (W : World) (hb : Below w12.heap.size w12 W) => Tx1_11.out W (up' hc12 hb))
  clear Tx1_11
  have Tx2_12 := hide (fun (W : World) (hb : Below w12.heap.size w12 W) => Tx2_11.out W (up' hc12 hb))
  clear Tx2_11
  have Tg_12 := hide (fun (W : World) (hb : Below w12.heap.size w12 W) => Tg_11.out W (up' hc12 hb))
  clear Tg_11
  go_wp2_with fail
  have bo1 := offs_le HL1.out n1 (Nat.le_refl n1)
  obtain ⟨rr1, tr1⟩ := Tx1_12.out w12 (Below.refl _ _)
  refine (markIntSS_any (some ⟨w4.heap.size, 0, none⟩) n1 n1 (w4.heap.size) (w5.heap.size) L1 M1 rr1 _ _ hn1 HL1.out (by omega) tr1).mono ?_
  rintro e w13 ⟨rfl, m13, oa13⟩
  have ho13 : Outside (w4.heap.size) (w5.heap.size) w12 w13 := oa13.outside tr1
  clear oa13 m13 tr1
  have z13 : w12.heap.size ≤ w13.heap.size := ho13.size
  have B13 : Below w.heap.size w w13 := B12.trans (ho13.below (by have := B12.size; omega) B12.size)
  have Yv := (Tv_12.out w12 (Below.refl _ _)).keep ho13 (by omega)
  have Tv_13 := hide (fun (W : World) (hb : Below w13.heap.size w13 W) => Yv.keepB hb)
  clear Yv Tv_12
  clear Tx1_12
  have Yx2 := (Tx2_12.out w12 (Below.refl _ _)).keep ho13 (by omega)
  have Tx2_13 := hide (fun (W : World) (hb : Below w13.heap.size w13 W) => Yx2.keepB hb)
  clear Yx2 Tx2_12
  have Yg := (Tg_12.out w12 (Below.refl _ _)).keep ho13 (by omega)
  have Tg_13 := hide (fun (W : World) (hb : Below w13.heap.size w13 W) => Yg.keepB hb)
  clear Yg Tg_12
  go_wp2_with fail
  refine (markI_any (some ⟨w5.heap.size, 0, none⟩) n2 n2 (w5.heap.size) (w6.heap.size) f2 _ _ (by omega) (by omega) (Tx2_13.out _ (by first | exact Below.refl _ _ | go_grown | exact Below.drew (by go_grown)))).mono ?_
  rintro e w14 ⟨rfl, m14, oa14, y14⟩
  have ho14 : Outside (w5.heap.size) (w6.heap.size) w13 w14 := oa14.outside (Tx2_13.out w13 (Below.refl _ _))
  clear oa14 y14 m14
  have z14 : w13.heap.size ≤ w14.heap.size := ho14.size
  have B14 : Below w.heap.size w w14 := B13.trans (ho14.below (by have := B13.size; omega) B13.size)
  have Yv := (Tv_13.out w13 (Below.refl _ _)).keep ho14 (by omega)
  have Tv_14 := hide (fun (W : World) (hb : Below w14.heap.size w14 W) => Yv.keepB hb)
  clear Yv Tv_13
  clear Tx2_13
  have Yg := (Tg_13.out w13 (Below.refl _ _)).keep ho14 (by omega)
  have Tg_14 := hide (fun (W : World) (hb : Below w14.heap.size w14 W) => Yg.keepB hb)
  clear Yg Tg_13
  go_wp2_with fail
  refine (eqIntS_b Ag Av N cg cv F _ (by omega) (Tg_14.out _ (by first | exact Below.refl _ _ | go_grown | exact Below.drew (by go_grown))).ints (Tv_14.out _ (by first | exact Below.refl _ _ | go_grown | exact Below.drew (by go_grown))).ints).mono ?_
  rintro e w15 ⟨rfl, hb15⟩
  have hc15 : Below w14.heap.size w14 w15 := up' (by first | exact Below.refl _ _ | go_grown | exact Below.drew (by go_grown)) hb15
  have B15 : Below w.heap.size w w15 := up' B14 hc15
  have z15 : w14.heap.size ≤ w15.heap.size := hc15.size
  have Tv_15 := hide (fun (W : World) (hb : Below w15.heap.size w15 W) => Tv_14.out W (up' hc15 hb))
  clear Tv_14
  have Tg_15 := hide (fun (W : World) (hb : Below w15.heap.size w15 W) => Tg_14.out W (up' hc15 hb))
  clear Tg_14
  go_wp2_with fail
  refine (markI_any Ag N cg (w6.heap.size) (w7.heap.size) F _ _ (by omega) (by omega) (Tg_15.out _ (by first | exact Below.refl _ _ | go_grown | exact Below.drew (by go_grown)))).mono ?_
  rintro e w16 ⟨rfl, m16, oa16, y16⟩
  have ho16 : Outside (w6.heap.size) (w7.heap.size) w15 w16 := oa16.outside (Tg_15.out w15 (Below.refl _ _))
  clear oa16 y16
  have z16 : w15.heap.size ≤ w16.heap.size := ho16.size
  have B16 : Below w.heap.size w w16 := B15.trans (ho16.below (by have := B15.size; omega) B15.size)
  have Yv := (Tv_15.out w15 (Below.refl _ _)).keep ho16 (by omega)
  have Tv_16 := hide (fun (W : World) (hb : Below w16.heap.size w16 W) => Yv.keepB hb)
  clear Yv Tv_15
  clear Tg_15
  have Tg_16 := hide (fun (W : World) (hb : Below w16.heap.size w16 W) => (m16).keepB hb)
  clear m16
  go_wp2_with fail
  have hq : ((1 : Int) + (N : Int) != 1 + (N : Int)) = false := by simp
  refine (heldIntS_any Ag N cg 1 _ (by omega) (by omega) (Tg_16.out _ (by first | exact Below.refl _ _ | go_grown | exact Below.drew (by go_grown))).ints).mono ?_
  rintro e w17 ⟨rfl, hb17⟩
  have hc17 : Below w16.heap.size w16 w17 := up' (by first | exact Below.refl _ _ | go_grown | exact Below.drew (by go_grown)) hb17
  have B17 : Below w.heap.size w w17 := up' B16 hc17
  have z17 : w16.heap.size ≤ w17.heap.size := hc17.size
  have Tv_17 := hide (fun (W : World) (hb : Below w17.heap.size w17 W) => Tv_16.out W (up' hc17 hb))
  clear Tv_16
  have Tg_17 := hide (fun (W : World) (hb : Below w17.heap.size w17 W) => Tg_16.out W (up' hc17 hb))
  clear Tg_16
  go_wp2_with fail
  refine (toIntSS_any A1 n1 c1 L1 M1 _ hn1 HL1.out (RR1.out _ (up' B17 (by first | exact Below.refl _ _ | go_grown | exact Below.drew (by go_grown))))).mono ?_
  rintro e w18 ⟨rfl, m18, hb18, y18⟩
  have hc18 : Below w17.heap.size w17 w18 := up' (by first | exact Below.refl _ _ | go_grown | exact Below.drew (by go_grown)) hb18
  have B18 : Below w.heap.size w w18 := up' B17 hc18
  have z18 : w17.heap.size ≤ w18.heap.size := hc18.size
  have Tv_18 := hide (fun (W : World) (hb : Below w18.heap.size w18 W) => Tv_17.out W (up' hc18 hb))
  clear Tv_17
  have Tg_18 := hide (fun (W : World) (hb : Below w18.heap.size w18 W) => Tg_17.out W (up' hc18 hb))
  clear Tg_17
  have TM18 : MT w18 (w17.heap.size) w18.heap.size (some ⟨w17.heap.size, 0, none⟩) n1 L1 M1 := (MT.of_ownMat m18).mono (Nat.le_refl _) (by omega)
  have Tu1_18 := hide (fun (W : World) (hb : Below w18.heap.size w18 W) => (TM18).keepB hb)
  clear m18 y18 TM18
  go_wp2_with fail
  refine (toIntS_any A2 n2 c2 f2 _ (by omega) (R2.out _ (up' B18 (by first | exact Below.refl _ _ | go_grown | exact Below.drew (by go_grown))))).mono ?_
  rintro e w19 ⟨rfl, m19, hb19, y19⟩
  have hc19 : Below w18.heap.size w18 w19 := up' (by first | exact Below.refl _ _ | go_grown | exact Below.drew (by go_grown)) hb19
  have B19 : Below w.heap.size w w19 := up' B18 hc19
  have z19 : w18.heap.size ≤ w19.heap.size := hc19.size
  have Tv_19 := hide (fun (W : World) (hb : Below w19.heap.size w19 W) => Tv_18.out W (up' hc19 hb))
  clear Tv_18
  have Tg_19 := hide (fun (W : World) (hb : Below w19.heap.size w19 W) => Tg_18.out W (up' hc19 hb))
  clear Tg_18
  have Tu1_19 := hide (fun (W : World) (hb : Below w19.heap.size w19 W) => Tu1_18.out W (up' hc19 hb))
  clear Tu1_18
  have TM19 : IT w19 (w18.heap.size) w19.heap.size (some ⟨w18.heap.size, 0, none⟩) n2 f2 := (IT.of_rowIs m19).mono (Nat.le_refl _) m19.lt
  have Tu2_19 := hide (fun (W : World) (hb : Below w19.heap.size w19 W) => (TM19).keepB hb)
  clear m19 y19 TM19
  go_wp2_with fail
  refine (I.out (some ⟨w17.heap.size, 0, none⟩) (some ⟨w18.heap.size, 0, none⟩) _ (Tu1_19.out _ (by first | exact Below.refl _ _ | go_grown | exact Below.drew (by go_grown))).mat (Tu2_19.out _ (by first | exact Below.refl _ _ | go_grown | exact Below.drew (by go_grown))).ints).mono ?_
  rintro e w20 ⟨Ah, ch, rfl, m20, hb20⟩
  have hc20 : Below w19.heap.size w19 w20 := up' (by first | exact Below.refl _ _ | go_grown | exact Below.drew (by go_grown)) hb20
  have B20 : Below w.heap.size w w20 := up' B19 hc20
  have z20 : w19.heap.size ≤ w20.heap.size := hc20.size
  have Tv_20 := hide (fun (W : World) (hb : Below w20.heap.size w20 W) => Tv_19.out W (up' hc20 hb))
  clear Tv_19
  have Tg_20 := hide (fun (W : World) (hb : Below w20.heap.size w20 W) => Tg_19.out W (up' hc20 hb))
  clear Tg_19
  have Tu1_20 := hide (fun (W : World) (hb : Below w20.heap.size w20 W) => Tu1_19.out W (up' hc20 hb))
  clear Tu1_19
  have Tu2_20 := hide (fun (W : World) (hb : Below w20.heap.size w20 W) => Tu2_19.out W (up' hc20 hb))
  clear Tu2_19
  have Th_20 := hide (fun (W : World) (hb : Below w20.heap.size w20 W) => (m20).keepB hb)
  clear m20
  go_wp2_with fail
  refine (eqIntS_b Ah Av N ch cv F _ (by omega) (Th_20.out _ (by first | exact Below.refl _ _ | go_grown | exact Below.drew (by go_grown))).ints (Tv_20.out _ (by first | exact Below.refl _ _ | go_grown | exact Below.drew (by go_grown))).ints).mono ?_
  rintro e w21 ⟨rfl, hb21⟩
  have hc21 : Below w20.heap.size w20 w21 := up' (by first | exact Below.refl _ _ | go_grown | exact Below.drew (by go_grown)) hb21
  have B21 : Below w.heap.size w w21 := up' B20 hc21
  have z21 : w20.heap.size ≤ w21.heap.size := hc21.size
  have Tv_21 := hide (fun (W : World) (hb : Below w21.heap.size w21 W) => Tv_20.out W (up' hc21 hb))
  clear Tv_20
  have Tg_21 := hide (fun (W : World) (hb : Below w21.heap.size w21 W) => Tg_20.out W (up' hc21 hb))
  clear Tg_20
  have Tu1_21 := hide (fun (W : World) (hb : Below w21.heap.size w21 W) => Tu1_20.out W (up' hc21 hb))
  clear Tu1_20
  have Tu2_21 := hide (fun (W : World) (hb : Below w21.heap.size w21 W) => Tu2_20.out W (up' hc21 hb))
  clear Tu2_20
  have Th_21 := hide (fun (W : World) (hb : Below w21.heap.size w21 W) => Th_20.out W (up' hc21 hb))
  clear Th_20
  go_wp2_with fail
  refine (heldIntS_any Ag N cg 1 _ (by omega) (by omega) (Tg_21.out _ (by first | exact Below.refl _ _ | go_grown | exact Below.drew (by go_grown))).ints).mono ?_
  rintro e w22 ⟨rfl, hb22⟩
  have hc22 : Below w21.heap.size w21 w22 := up' (by first | exact Below.refl _ _ | go_grown | exact Below.drew (by go_grown)) hb22
  have B22 : Below w.heap.size w w22 := up' B21 hc22
  have z22 : w21.heap.size ≤ w22.heap.size := hc22.size
  have Tv_22 := hide (fun (W : World) (hb : Below w22.heap.size w22 W) => Tv_21.out W (up' hc22 hb))
  clear Tv_21
  have Tg_22 := hide (fun (W : World) (hb : Below w22.heap.size w22 W) => Tg_21.out W (up' hc22 hb))
  clear Tg_21
  have Tu1_22 := hide (fun (W : World) (hb : Below w22.heap.size w22 W) => Tu1_21.out W (up' hc22 hb))
  clear Tu1_21
  have Tu2_22 := hide (fun (W : World) (hb : Below w22.heap.size w22 W) => Tu2_21.out W (up' hc22 hb))
  clear Tu2_21
  have Th_22 := hide (fun (W : World) (hb : Below w22.heap.size w22 W) => Th_21.out W (up' hc22 hb))
  clear Th_21
  go_wp2_with fail
  go_ret
  exact ⟨rfl, B22⟩
end Go.Proofs.Ytcalfblghblhcaa
