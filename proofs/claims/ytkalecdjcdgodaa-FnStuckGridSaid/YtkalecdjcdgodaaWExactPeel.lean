/-
  FnExactPeelGrid returns true for all arguments: the walk. Conditions: none.
-/
import Derived.Test.YtkalecdjcdgodaaPeelX
namespace Go.Proofs.Ytkalecdjcdgodaa
open Go.RowKit
theorem pg_bd (n : Nat) (f : Nat → Int) (cols br bc : Int) : pgN n f cols br bc ≤ 1000 := by
  unfold pgN
  cases h : pgOk n f cols br bc
  · simp
  · obtain ⟨k, r, s, _, _, _, hn, _⟩ := pg_parts h
    simp; omega
theorem PeelS (A : Option Addr) (n c : Nat) (f : Nat → Int) (cols br bc : Int) (w : World) (hn : n ≤ 1048576) (h : Ints w w.heap.size A n f) :
    Calls Try.prog 29 #[.slice A n c, .int .i64 cols, .int .i64 br, .int .i64 bc] w fun e w' => ∃ A c, e = .returned (.slice A (pgN n f cols br bc) c) ∧ IT w' w.heap.size w'.heap.size A (pgN n f cols br bc) (pgF n f cols br bc) ∧ Below w.heap.size w w' := (PeelGridS_any A n c f cols br bc w hn h).mono fun _ _ ⟨A, c, h1, h2, h3, _⟩ => ⟨A, c, h1, h2, h3⟩
theorem PeelI (A : Option Addr) (n c : Nat) (f : Nat → Int) (cols br bc : Int) (w : World) (hn : n ≤ 1048576) (h : Ints w w.heap.size A n f) :
    Calls Try.prog 26 #[.slice A n c, .int .i64 cols, .int .i64 br, .int .i64 bc] w fun e w' => ∃ A c, e = .returned (.slice A (pgN n f cols br bc) c) ∧ IT w' w.heap.size w'.heap.size A (pgN n f cols br bc) (pgF n f cols br bc) ∧ Below w.heap.size w w' := (PeelGridI_any A n c f cols br bc w hn h).mono fun _ _ ⟨A, c, h1, h2, h3, _⟩ => ⟨A, c, h1, h2, h3⟩
set_option maxHeartbeats 4000000 in
set_option maxRecDepth 100000 in
theorem fnExactPeelGrid_walk (A0 : Option Addr) (n0 c0 : Nat) (z0 : List Int) (a1 : Int) (a2 : Int) (a3 : Int) (w : World) (h0 : IsRow .i64 w A0 n0 c0 z0) (_w1 : (Lit.int .i64 a1).wf = true) (_w2 : (Lit.int .i64 a2).wf = true) (_w3 : (Lit.int .i64 a3).wf = true) :
    Calls Try.prog 6 #[.slice A0 n0 c0, .int .i64 a1, .int .i64 a2, .int .i64 a3] w fun e w' => e = .returned (.bool true) ∧ Below w.heap.size w w' := by
  obtain ⟨r0, hn0⟩ := ints_in h0
  clear h0
  generalize (fun i => z0.getD i 0) = f0 at r0
  have R0 := hide (fun (W : World) (hb : Below w.heap.size w W) => r0.keep hb hb.size)
  clear r0
  clear _w1
  clear _w2
  clear _w3
  by_cases hs0 : 1048576 < n0
  · go_enter Try.func6, Try.ntmps6
    go_wp2_with fail
    go_ret
    exact ⟨rfl, by go_grown⟩
  have S := hide (fun (b0 : Option Addr) (W : World) (q0 : Ints W W.heap.size b0 n0 f0) => PeelS b0 n0 n0 f0 a1 a2 a3 W (by omega) q0)
  have I := hide (fun (b0 : Option Addr) (W : World) (q0 : Ints W W.heap.size b0 n0 f0) => PeelI b0 n0 n0 f0 a1 a2 a3 W (by omega) q0)
  obtain bN := pg_bd n0 f0 a1 a2 a3
  generalize pgN n0 f0 a1 a2 a3 = N at S I bN
  generalize pgF n0 f0 a1 a2 a3 = F at S I bN
  go_enter Try.func6, Try.ntmps6
  go_wp2_with fail
  refine (toIntS_any A0 n0 c0 f0 _ (by omega) (R0.out _ (up' (Below.refl w.heap.size w) (by first | exact Below.refl _ _ | go_grown | exact Below.drew (by go_grown))))).mono ?_
  rintro e w1 ⟨rfl, m1, hb1, y1⟩
  have hc1 : Below w.heap.size w w1 := up' (by first | exact Below.refl _ _ | go_grown | exact Below.drew (by go_grown)) hb1
  have B1 : Below w.heap.size w w1 := up' (Below.refl w.heap.size w) hc1
  have z1 : w.heap.size ≤ w1.heap.size := hc1.size
  have TM1 : IT w1 (w.heap.size) w1.heap.size (some ⟨w.heap.size, 0, none⟩) n0 f0 := (IT.of_rowIs m1).mono (Nat.le_refl _) m1.lt
  have Ts0_1 := hide (fun (W : World) (hb : Below w1.heap.size w1 W) => (TM1).keepB hb)
  clear m1 y1 TM1
  go_wp2_with fail
  refine (S.out (some ⟨w.heap.size, 0, none⟩) _ (Ts0_1.out _ (by first | exact Below.refl _ _ | go_grown | exact Below.drew (by go_grown))).ints).mono ?_
  rintro e w2 ⟨Av, cv, rfl, m2, hb2⟩
  have hc2 : Below w1.heap.size w1 w2 := up' (by first | exact Below.refl _ _ | go_grown | exact Below.drew (by go_grown)) hb2
  have B2 : Below w.heap.size w w2 := up' B1 hc2
  have z2 : w1.heap.size ≤ w2.heap.size := hc2.size
  have Ts0_2 := hide (fun (W : World) (hb : Below w2.heap.size w2 W) => Ts0_1.out W (up' hc2 hb))
  clear Ts0_1
  have Tv_2 := hide (fun (W : World) (hb : Below w2.heap.size w2 W) => (m2).keepB hb)
  clear m2
  go_wp2_with fail
  refine (toIntS_any A0 n0 c0 f0 _ (by omega) (R0.out _ (up' B2 (by first | exact Below.refl _ _ | go_grown | exact Below.drew (by go_grown))))).mono ?_
  rintro e w3 ⟨rfl, m3, hb3, y3⟩
  have hc3 : Below w2.heap.size w2 w3 := up' (by first | exact Below.refl _ _ | go_grown | exact Below.drew (by go_grown)) hb3
  have B3 : Below w.heap.size w w3 := up' B2 hc3
  have z3 : w2.heap.size ≤ w3.heap.size := hc3.size
  have Tv_3 := hide (fun (W : World) (hb : Below w3.heap.size w3 W) => Tv_2.out W (up' hc3 hb))
  clear Tv_2
  have TM3 : IT w3 (w2.heap.size) w3.heap.size (some ⟨w2.heap.size, 0, none⟩) n0 f0 := (IT.of_rowIs m3).mono (Nat.le_refl _) m3.lt
  have Tx0_3 := hide (fun (W : World) (hb : Below w3.heap.size w3 W) => (TM3).keepB hb)
  clear m3 y3 TM3
  go_wp2_with fail
  refine (I.out (some ⟨w2.heap.size, 0, none⟩) _ (Tx0_3.out _ (by first | exact Below.refl _ _ | go_grown | exact Below.drew (by go_grown))).ints).mono ?_
  rintro e w4 ⟨Ag, cg, rfl, m4, hb4⟩
  have hc4 : Below w3.heap.size w3 w4 := up' (by first | exact Below.refl _ _ | go_grown | exact Below.drew (by go_grown)) hb4
  have B4 : Below w.heap.size w w4 := up' B3 hc4
  have z4 : w3.heap.size ≤ w4.heap.size := hc4.size
  have Tv_4 := hide (fun (W : World) (hb : Below w4.heap.size w4 W) => Tv_3.out W (up' hc4 hb))
  clear Tv_3
  have Tx0_4 := hide (fun (W : World) (hb : Below w4.heap.size w4 W) => Tx0_3.out W (up' hc4 hb))
  clear Tx0_3
  have Tg_4 := hide (fun (W : World) (hb : Below w4.heap.size w4 W) => (m4).keepB hb)
  clear m4
  go_wp2_with fail
  refine (eqIntS_b Ag Av N cg cv F _ (by omega) (Tg_4.out _ (by first | exact Below.refl _ _ | go_grown | exact Below.drew (by go_grown))).ints (Tv_4.out _ (by first | exact Below.refl _ _ | go_grown | exact Below.drew (by go_grown))).ints).mono ?_
  rintro e w5 ⟨rfl, hb5⟩
  have hc5 : Below w4.heap.size w4 w5 := up' (by first | exact Below.refl _ _ | go_grown | exact Below.drew (by go_grown)) hb5
  have B5 : Below w.heap.size w w5 := up' B4 hc5
  have z5 : w4.heap.size ≤ w5.heap.size := hc5.size
  have Tv_5 := hide (fun (W : World) (hb : Below w5.heap.size w5 W) => Tv_4.out W (up' hc5 hb))
  clear Tv_4
  have Tx0_5 := hide (fun (W : World) (hb : Below w5.heap.size w5 W) => Tx0_4.out W (up' hc5 hb))
  clear Tx0_4
  have Tg_5 := hide (fun (W : World) (hb : Below w5.heap.size w5 W) => Tg_4.out W (up' hc5 hb))
  clear Tg_4
  go_wp2_with fail
  refine (toIntS_any A0 n0 c0 f0 _ (by omega) (R0.out _ (up' B5 (by first | exact Below.refl _ _ | go_grown | exact Below.drew (by go_grown))))).mono ?_
  rintro e w6 ⟨rfl, m6, hb6, y6⟩
  have hc6 : Below w5.heap.size w5 w6 := up' (by first | exact Below.refl _ _ | go_grown | exact Below.drew (by go_grown)) hb6
  have B6 : Below w.heap.size w w6 := up' B5 hc6
  have z6 : w5.heap.size ≤ w6.heap.size := hc6.size
  have Tv_6 := hide (fun (W : World) (hb : Below w6.heap.size w6 W) => Tv_5.out W (up' hc6 hb))
  clear Tv_5
  have Tx0_6 := hide (fun (W : World) (hb : Below w6.heap.size w6 W) => Tx0_5.out W (up' hc6 hb))
  clear Tx0_5
  have Tg_6 := hide (fun (W : World) (hb : Below w6.heap.size w6 W) => Tg_5.out W (up' hc6 hb))
  clear Tg_5
  have TM6 : IT w6 (w5.heap.size) w6.heap.size (some ⟨w5.heap.size, 0, none⟩) n0 f0 := (IT.of_rowIs m6).mono (Nat.le_refl _) m6.lt
  have Ty0_6 := hide (fun (W : World) (hb : Below w6.heap.size w6 W) => (TM6).keepB hb)
  clear m6 y6 TM6
  go_wp2_with fail
  refine (eqIntS_b (some ⟨w2.heap.size, 0, none⟩) (some ⟨w5.heap.size, 0, none⟩) n0 n0 n0 f0 _ (by omega) (Tx0_6.out _ (by first | exact Below.refl _ _ | go_grown | exact Below.drew (by go_grown))).ints (Ty0_6.out _ (by first | exact Below.refl _ _ | go_grown | exact Below.drew (by go_grown))).ints).mono ?_
  rintro e w7 ⟨rfl, hb7⟩
  have hc7 : Below w6.heap.size w6 w7 := up' (by first | exact Below.refl _ _ | go_grown | exact Below.drew (by go_grown)) hb7
  have B7 : Below w.heap.size w w7 := up' B6 hc7
  have z7 : w6.heap.size ≤ w7.heap.size := hc7.size
  have Tv_7 := hide (fun (W : World) (hb : Below w7.heap.size w7 W) => Tv_6.out W (up' hc7 hb))
  clear Tv_6
  have Tx0_7 := hide (fun (W : World) (hb : Below w7.heap.size w7 W) => Tx0_6.out W (up' hc7 hb))
  clear Tx0_6
  have Tg_7 := hide (fun (W : World) (hb : Below w7.heap.size w7 W) => Tg_6.out W (up' hc7 hb))
  clear Tg_6
  go_wp2_with fail
  refine (markI_any (some ⟨w2.heap.size, 0, none⟩) n0 n0 (w2.heap.size) (w3.heap.size) f0 _ _ (by omega) (by omega) (Tx0_7.out _ (by first | exact Below.refl _ _ | go_grown | exact Below.drew (by go_grown)))).mono ?_
  rintro e w8 ⟨rfl, m8, oa8, y8⟩
  have ho8 : Outside (w2.heap.size) (w3.heap.size) w7 w8 := oa8.outside (Tx0_7.out w7 (Below.refl _ _))
  clear oa8 y8 m8
  have z8 : w7.heap.size ≤ w8.heap.size := ho8.size
  have B8 : Below w.heap.size w w8 := B7.trans (ho8.below (by have := B7.size; omega) B7.size)
  have Yv := (Tv_7.out w7 (Below.refl _ _)).keep ho8 (by omega)
  have Tv_8 := hide (fun (W : World) (hb : Below w8.heap.size w8 W) => Yv.keepB hb)
  clear Yv Tv_7
  clear Tx0_7
  have Yg := (Tg_7.out w7 (Below.refl _ _)).keep ho8 (by omega)
  have Tg_8 := hide (fun (W : World) (hb : Below w8.heap.size w8 W) => Yg.keepB hb)
  clear Yg Tg_7
  go_wp2_with fail
  refine (eqIntS_b Ag Av N cg cv F _ (by omega) (Tg_8.out _ (by first | exact Below.refl _ _ | go_grown | exact Below.drew (by go_grown))).ints (Tv_8.out _ (by first | exact Below.refl _ _ | go_grown | exact Below.drew (by go_grown))).ints).mono ?_
  rintro e w9 ⟨rfl, hb9⟩
  have hc9 : Below w8.heap.size w8 w9 := up' (by first | exact Below.refl _ _ | go_grown | exact Below.drew (by go_grown)) hb9
  have B9 : Below w.heap.size w w9 := up' B8 hc9
  have z9 : w8.heap.size ≤ w9.heap.size := hc9.size
  have Tv_9 := hide (fun (W : World) (hb : Below w9.heap.size w9 W) => Tv_8.out W (up' hc9 hb))
  clear Tv_8
  have Tg_9 := hide (fun (W : World) (hb : Below w9.heap.size w9 W) => Tg_8.out W (up' hc9 hb))
  clear Tg_8
  go_wp2_with fail
  refine (markI_any Ag N cg (w3.heap.size) (w4.heap.size) F _ _ (by omega) (by omega) (Tg_9.out _ (by first | exact Below.refl _ _ | go_grown | exact Below.drew (by go_grown)))).mono ?_
  rintro e w10 ⟨rfl, m10, oa10, y10⟩
  have ho10 : Outside (w3.heap.size) (w4.heap.size) w9 w10 := oa10.outside (Tg_9.out w9 (Below.refl _ _))
  clear oa10 y10
  have z10 : w9.heap.size ≤ w10.heap.size := ho10.size
  have B10 : Below w.heap.size w w10 := B9.trans (ho10.below (by have := B9.size; omega) B9.size)
  have Yv := (Tv_9.out w9 (Below.refl _ _)).keep ho10 (by omega)
  have Tv_10 := hide (fun (W : World) (hb : Below w10.heap.size w10 W) => Yv.keepB hb)
  clear Yv Tv_9
  clear Tg_9
  have Tg_10 := hide (fun (W : World) (hb : Below w10.heap.size w10 W) => (m10).keepB hb)
  clear m10
  go_wp2_with fail
  have hq : ((1 : Int) + (N : Int) != 1 + (N : Int)) = false := by simp
  refine (heldIntS_any Ag N cg 1 _ (by omega) (by omega) (Tg_10.out _ (by first | exact Below.refl _ _ | go_grown | exact Below.drew (by go_grown))).ints).mono ?_
  rintro e w11 ⟨rfl, hb11⟩
  have hc11 : Below w10.heap.size w10 w11 := up' (by first | exact Below.refl _ _ | go_grown | exact Below.drew (by go_grown)) hb11
  have B11 : Below w.heap.size w w11 := up' B10 hc11
  have z11 : w10.heap.size ≤ w11.heap.size := hc11.size
  have Tv_11 := hide (fun (W : World) (hb : Below w11.heap.size w11 W) => Tv_10.out W (up' hc11 hb))
  clear Tv_10
  have Tg_11 := hide (fun (W : World) (hb : Below w11.heap.size w11 W) => Tg_10.out W (up' hc11 hb))
  clear Tg_10
  go_wp2_with fail
  refine (toIntS_any A0 n0 c0 f0 _ (by omega) (R0.out _ (up' B11 (by first | exact Below.refl _ _ | go_grown | exact Below.drew (by go_grown))))).mono ?_
  rintro e w12 ⟨rfl, m12, hb12, y12⟩
  have hc12 : Below w11.heap.size w11 w12 := up' (by first | exact Below.refl _ _ | go_grown | exact Below.drew (by go_grown)) hb12
  have B12 : Below w.heap.size w w12 := up' B11 hc12
  have z12 : w11.heap.size ≤ w12.heap.size := hc12.size
  have Tv_12 := hide (fun (W : World) (hb : Below w12.heap.size w12 W) => Tv_11.out W (up' hc12 hb))
  clear Tv_11
  have Tg_12 := hide (fun (W : World) (hb : Below w12.heap.size w12 W) => Tg_11.out W (up' hc12 hb))
  clear Tg_11
  have TM12 : IT w12 (w11.heap.size) w12.heap.size (some ⟨w11.heap.size, 0, none⟩) n0 f0 := (IT.of_rowIs m12).mono (Nat.le_refl _) m12.lt
  have Tu0_12 := hide (fun (W : World) (hb : Below w12.heap.size w12 W) => (TM12).keepB hb)
  clear m12 y12 TM12
  go_wp2_with fail
  refine (I.out (some ⟨w11.heap.size, 0, none⟩) _ (Tu0_12.out _ (by first | exact Below.refl _ _ | go_grown | exact Below.drew (by go_grown))).ints).mono ?_
  rintro e w13 ⟨Ah, ch, rfl, m13, hb13⟩
  have hc13 : Below w12.heap.size w12 w13 := up' (by first | exact Below.refl _ _ | go_grown | exact Below.drew (by go_grown)) hb13
  have B13 : Below w.heap.size w w13 := up' B12 hc13
  have z13 : w12.heap.size ≤ w13.heap.size := hc13.size
  have Tv_13 := hide (fun (W : World) (hb : Below w13.heap.size w13 W) => Tv_12.out W (up' hc13 hb))
  clear Tv_12
  have Tg_13 := hide (fun (W : World) (hb : Below w13.heap.size w13 W) => Tg_12.out W (up' hc13 hb))
  clear Tg_12
  have Tu0_13 := hide (fun (W : World) (hb : Below w13.heap.size w13 W) => Tu0_12.out W (up' hc13 hb))
  clear Tu0_12
  have Th_13 := hide (fun (W : World) (hb : Below w13.heap.size w13 W) => (m13).keepB hb)
  clear m13
  go_wp2_with fail
  refine (eqIntS_b Ah Av N ch cv F _ (by omega) (Th_13.out _ (by first | exact Below.refl _ _ | go_grown | exact Below.drew (by go_grown))).ints (Tv_13.out _ (by first | exact Below.refl _ _ | go_grown | exact Below.drew (by go_grown))).ints).mono ?_
  rintro e w14 ⟨rfl, hb14⟩
  have hc14 : Below w13.heap.size w13 w14 := up' (by first | exact Below.refl _ _ | go_grown | exact Below.drew (by go_grown)) hb14
  have B14 : Below w.heap.size w w14 := up' B13 hc14
  have z14 : w13.heap.size ≤ w14.heap.size := hc14.size
  have Tv_14 := hide (fun (W : World) (hb : Below w14.heap.size w14 W) => Tv_13.out W (up' hc14 hb))
  clear Tv_13
  have Tg_14 := hide (fun (W : World) (hb : Below w14.heap.size w14 W) => Tg_13.out W (up' hc14 hb))
  clear Tg_13
  have Tu0_14 := hide (fun (W : World) (hb : Below w14.heap.size w14 W) => Tu0_13.out W (up' hc14 hb))
  clear Tu0_13
  have Th_14 := hide (fun (W : World) (hb : Below w14.heap.size w14 W) => Th_13.out W (up' hc14 hb))
  clear Th_13
  go_wp2_with fail
  refine (heldIntS_any Ag N cg 1 _ (by omega) (by omega) (Tg_14.out _ (by first | exact Below.refl _ _ | go_grown | exact Below.drew (by go_grown))).ints).mono ?_
  rintro e w15 ⟨rfl, hb15⟩
  have hc15 : Below w14.heap.size w14 w15 := up' (by first | exact Below.refl _ _ | go_grown | exact Below.drew (by go_grown)) hb15
  have B15 : Below w.heap.size w w15 := up' B14 hc15
  have z15 : w14.heap.size ≤ w15.heap.size := hc15.size
  have Tv_15 := hide (fun (W : World) (hb : Below w15.heap.size w15 W) => Tv_14.out W (up' hc15 hb))
  clear Tv_14
  have Tg_15 := hide (fun (W : World) (hb : Below w15.heap.size w15 W) => Tg_14.out W (up' hc15 hb))
  clear Tg_14
  have Tu0_15 := hide (fun (W : World) (hb : Below w15.heap.size w15 W) => Tu0_14.out W (up' hc15 hb))
  clear Tu0_14
  have Th_15 := hide (fun (W : World) (hb : Below w15.heap.size w15 W) => Th_14.out W (up' hc15 hb))
  clear Th_14
  go_wp2_with fail
  go_ret
  exact ⟨rfl, B15⟩
end Go.Proofs.Ytkalecdjcdgodaa
