/-
  FnExactMendTwo returns true for all arguments: the walk. Conditions: none.
-/
import Derived.Test.YtkalecdjcdgodaaMendX
namespace Go.Proofs.Ytkalecdjcdgodaa
open Go.RowKit

theorem MendXS (p : Int) (A : Option Addr) (n c : Nat) (L : Nat → Nat) (M : Nat → Nat → Int) (lost : Int) (w : World) (hn : n ≤ 1048576) (hL : ∀ i, i < n → L i ≤ 1048576) (h : MatC w w.heap.size A n L M) :
    Calls Try.prog 45 #[.int .i64 p, .slice A n c, .int .i64 lost] w fun e w' => ∃ A' c', e = .returned (.tuple #[.slice A' (mdN p n L M lost) c', .bool (mdB p n L M lost)]) ∧ MT w' w.heap.size w'.heap.size A' (mdN p n L M lost) (mdL p) (mdM p n L M lost) ∧ Below w.heap.size w w' :=
  (MendTwoS_any p A n c L M lost w hn hL h).mono fun _ _ h => h
theorem MendXI (p : Int) (A : Option Addr) (n c : Nat) (L : Nat → Nat) (M : Nat → Nat → Int) (lost : Int) (w : World) (hn : n ≤ 1048576) (hL : ∀ i, i < n → L i ≤ 1048576) (h : MatC w w.heap.size A n L M) :
    Calls Try.prog 41 #[.int .i64 p, .slice A n c, .int .i64 lost] w fun e w' => ∃ A' c', e = .returned (.tuple #[.slice A' (mdN p n L M lost) c', .bool (mdB p n L M lost)]) ∧ MT w' w.heap.size w'.heap.size A' (mdN p n L M lost) (mdL p) (mdM p n L M lost) ∧ Below w.heap.size w w' :=
  (MendTwoI_any p A n c L M lost w hn hL h).mono fun _ _ h => h
set_option maxHeartbeats 4000000 in
set_option maxRecDepth 100000 in
theorem fnExactMendTwo_walk (a0 : Int) (A1 : Option Addr) (n1 c1 : Nat) (R1 : Nat → Option Addr) (L1 D1 : Nat → Nat) (z1 : Nat → List Int) (a2 : Int) (w : World) (_w0 : (Lit.int .i64 a0).wf = true) (h1 : IsRows w A1 n1 c1 R1 L1 D1 z1) (_w2 : (Lit.int .i64 a2).wf = true) :
    Calls Try.prog 12 #[.int .i64 a0, .slice A1 n1 c1, .int .i64 a2] w fun e w' => e = .returned (.bool true) ∧ Below w.heap.size w w' := by
  clear _w0
  obtain ⟨r1, hn1, hL1⟩ := mat_in h1
  clear h1
  generalize (fun i j => (z1 i).getD j 0) = M1 at r1
  have RR1 := hide (fun (W : World) (hb : Below w.heap.size w W) => r1.keep hb hb.size)
  have HL1 := hide hL1
  clear r1 hL1
  clear _w2
  go_enter Try.func12, Try.ntmps12
  go_wp2_with fail
  refine (szIntSS_any A1 n1 c1 L1 M1 _ _ hn1 HL1.out (by omega) (by omega) (RR1.out _ (up' (Below.refl w.heap.size w) (by first | exact Below.refl _ _ | go_grown | exact Below.drew (by go_grown))))).mono ?_
  rintro e w1 ⟨r, rfl, hr1, hr2, hb1⟩
  have hc1 : Below w.heap.size w w1 := up' (by first | exact Below.refl _ _ | go_grown | exact Below.drew (by go_grown)) hb1
  have B1 : Below w.heap.size w w1 := up' (Below.refl w.heap.size w) hc1
  have z1 : w.heap.size ≤ w1.heap.size := hc1.size
  by_cases h0 : r < 0
  · clear hr2
    go_wp2_with fail
    go_ret
    exact ⟨rfl, B1⟩
  obtain ⟨hn1, hL1⟩ := hr2 (by omega)
  clear hr2
  have HL1 := hide hL1
  clear hL1
  have S := hide (fun (b1 : Option Addr) (W : World) (q1 : MatC W W.heap.size b1 n1 L1 M1) => MendXS a0 b1 n1 n1 L1 M1 a2 W hn1 HL1.out q1)
  have I := hide (fun (b1 : Option Addr) (W : World) (q1 : MatC W W.heap.size b1 n1 L1 M1) => MendXI a0 b1 n1 n1 L1 M1 a2 W hn1 HL1.out q1)
  obtain ⟨bN, bL⟩ := md_bd a0 n1 L1 M1 a2
  generalize mdN a0 n1 L1 M1 a2 = N at S I bN bL
  generalize mdL a0 = LL at S I bN bL
  generalize mdM a0 n1 L1 M1 a2 = MM at S I bN bL
  have BL := hide (fun i (hi : i < N) => Nat.le_trans (bL i hi) (show 1000 ≤ 1048576 by omega))
  have BL3 := hide (fun i (hi : i < N) => Nat.le_trans (bL i hi) (show 1000 ≤ 9223372036854775807 by omega))
  clear bL
  have bT : offs LL N ≤ 1048576000 := by
    have h1 := offs_le BL.out N (Nat.le_refl N)
    omega
  generalize mdB a0 n1 L1 M1 a2 = v1 at S I
  have ev1 : (v1 != v1) = false := by simp
  go_wp2_with fail
  refine (toIntSS_any A1 n1 c1 L1 M1 _ hn1 HL1.out (RR1.out _ (up' B1 (by first | exact Below.refl _ _ | go_grown | exact Below.drew (by go_grown))))).mono ?_
  rintro e w2 ⟨rfl, m2, hb2, y2⟩
  have hc2 : Below w1.heap.size w1 w2 := up' (by first | exact Below.refl _ _ | go_grown | exact Below.drew (by go_grown)) hb2
  have B2 : Below w.heap.size w w2 := up' B1 hc2
  have z2 : w1.heap.size ≤ w2.heap.size := hc2.size
  have TM2 : MTC w2 (w1.heap.size) w2.heap.size (some ⟨w1.heap.size, 0, none⟩) n1 L1 M1 := MTC.of_ownMat m2 (by omega)
  have Ts1_2 := hide (fun (W : World) (hb : Below w2.heap.size w2 W) => (TM2).keepB hb)
  clear m2 y2 TM2
  go_wp2_with fail
  refine (S.out (some ⟨w1.heap.size, 0, none⟩) _ (Ts1_2.out _ (by first | exact Below.refl _ _ | go_grown | exact Below.drew (by go_grown))).2).mono ?_
  rintro e w3 ⟨Av, cv, rfl, m3, hb3⟩
  have hc3 : Below w2.heap.size w2 w3 := up' (by first | exact Below.refl _ _ | go_grown | exact Below.drew (by go_grown)) hb3
  have B3 : Below w.heap.size w w3 := up' B2 hc3
  have z3 : w2.heap.size ≤ w3.heap.size := hc3.size
  have Ts1_3 := hide (fun (W : World) (hb : Below w3.heap.size w3 W) => Ts1_2.out W (up' hc3 hb))
  clear Ts1_2
  have Tv_3 := hide (fun (W : World) (hb : Below w3.heap.size w3 W) => (m3).keepB hb)
  clear m3
  go_wp2_with fail
  refine (toIntSS_any A1 n1 c1 L1 M1 _ hn1 HL1.out (RR1.out _ (up' B3 (by first | exact Below.refl _ _ | go_grown | exact Below.drew (by go_grown))))).mono ?_
  rintro e w4 ⟨rfl, m4, hb4, y4⟩
  have hc4 : Below w3.heap.size w3 w4 := up' (by first | exact Below.refl _ _ | go_grown | exact Below.drew (by go_grown)) hb4
  have B4 : Below w.heap.size w w4 := up' B3 hc4
  have z4 : w3.heap.size ≤ w4.heap.size := hc4.size
  have Tv_4 := hide (fun (W : World) (hb : Below w4.heap.size w4 W) => Tv_3.out W (up' hc4 hb))
  clear Tv_3
  have TM4 : MTC w4 (w3.heap.size) w4.heap.size (some ⟨w3.heap.size, 0, none⟩) n1 L1 M1 := MTC.of_ownMat m4 (by omega)
  have Tx1_4 := hide (fun (W : World) (hb : Below w4.heap.size w4 W) => (TM4).keepB hb)
  clear m4 y4 TM4
  go_wp2_with fail
  refine (I.out (some ⟨w3.heap.size, 0, none⟩) _ (Tx1_4.out _ (by first | exact Below.refl _ _ | go_grown | exact Below.drew (by go_grown))).2).mono ?_
  rintro e w5 ⟨Ag, cg, rfl, m5, hb5⟩
  have hc5 : Below w4.heap.size w4 w5 := up' (by first | exact Below.refl _ _ | go_grown | exact Below.drew (by go_grown)) hb5
  have B5 : Below w.heap.size w w5 := up' B4 hc5
  have z5 : w4.heap.size ≤ w5.heap.size := hc5.size
  have Tv_5 := hide (fun (W : World) (hb : Below w5.heap.size w5 W) => Tv_4.out W (up' hc5 hb))
  clear Tv_4
  have Tx1_5 := hide (fun (W : World) (hb : Below w5.heap.size w5 W) => Tx1_4.out W (up' hc5 hb))
  clear Tx1_4
  have Tg_5 := hide (fun (W : World) (hb : Below w5.heap.size w5 W) => (m5).keepB hb)
  clear m5
  go_wp2_with fail
  refine (eqIntSS_b Ag Av N cg cv LL MM _ (by omega) BL3.out (Tg_5.out _ (by first | exact Below.refl _ _ | go_grown | exact Below.drew (by go_grown))).mat (Tv_5.out _ (by first | exact Below.refl _ _ | go_grown | exact Below.drew (by go_grown))).mat).mono ?_
  rintro e w6 ⟨rfl, hb6⟩
  have hc6 : Below w5.heap.size w5 w6 := up' (by first | exact Below.refl _ _ | go_grown | exact Below.drew (by go_grown)) hb6
  have B6 : Below w.heap.size w w6 := up' B5 hc6
  have z6 : w5.heap.size ≤ w6.heap.size := hc6.size
  have Tv_6 := hide (fun (W : World) (hb : Below w6.heap.size w6 W) => Tv_5.out W (up' hc6 hb))
  clear Tv_5
  have Tx1_6 := hide (fun (W : World) (hb : Below w6.heap.size w6 W) => Tx1_5.out W (up' hc6 hb))
  clear Tx1_5
  have Tg_6 := hide (fun (W : World) (hb : Below w6.heap.size w6 W) => Tg_5.out W (up' hc6 hb))
  clear Tg_5
  go_wp2_with fail
  refine (toIntSS_any A1 n1 c1 L1 M1 _ hn1 HL1.out (RR1.out _ (up' B6 (by first | exact Below.refl _ _ | go_grown | exact Below.drew (by go_grown))))).mono ?_
  rintro e w7 ⟨rfl, m7, hb7, y7⟩
  have hc7 : Below w6.heap.size w6 w7 := up' (by first | exact Below.refl _ _ | go_grown | exact Below.drew (by go_grown)) hb7
  have B7 : Below w.heap.size w w7 := up' B6 hc7
  have z7 : w6.heap.size ≤ w7.heap.size := hc7.size
  have Tv_7 := hide (fun (W : World) (hb : Below w7.heap.size w7 W) => Tv_6.out W (up' hc7 hb))
  clear Tv_6
  have Tx1_7 := hide (fun (W : World) (hb : Below w7.heap.size w7 W) => Tx1_6.out W (up' hc7 hb))
  clear Tx1_6
  have Tg_7 := hide (fun (W : World) (hb : Below w7.heap.size w7 W) => Tg_6.out W (up' hc7 hb))
  clear Tg_6
  have TM7 : MTC w7 (w6.heap.size) w7.heap.size (some ⟨w6.heap.size, 0, none⟩) n1 L1 M1 := MTC.of_ownMat m7 (by omega)
  have Ty1_7 := hide (fun (W : World) (hb : Below w7.heap.size w7 W) => (TM7).keepB hb)
  clear m7 y7 TM7
  go_wp2_with fail
  refine (eqIntSS_b (some ⟨w3.heap.size, 0, none⟩) (some ⟨w6.heap.size, 0, none⟩) n1 n1 n1 L1 M1 _ (by omega) (fun i hi => Nat.le_trans (HL1.out i hi) (by omega)) (Tx1_7.out _ (by first | exact Below.refl _ _ | go_grown | exact Below.drew (by go_grown))).mat (Ty1_7.out _ (by first | exact Below.refl _ _ | go_grown | exact Below.drew (by go_grown))).mat).mono ?_
  rintro e w8 ⟨rfl, hb8⟩
  have hc8 : Below w7.heap.size w7 w8 := up' (by first | exact Below.refl _ _ | go_grown | exact Below.drew (by go_grown)) hb8
  have B8 : Below w.heap.size w w8 := up' B7 hc8
  have z8 : w7.heap.size ≤ w8.heap.size := hc8.size
  have Tv_8 := hide (fun (W : World) (hb : Below w8.heap.size w8 W) => Tv_7.out W (up' hc8 hb))
  clear Tv_7
  have Tx1_8 := hide (fun (W : World) (hb : Below w8.heap.size w8 W) => Tx1_7.out W (up' hc8 hb))
  clear Tx1_7
  have Tg_8 := hide (fun (W : World) (hb : Below w8.heap.size w8 W) => Tg_7.out W (up' hc8 hb))
  clear Tg_7
  go_wp2_with fail
  have bo1 := offs_le HL1.out n1 (Nat.le_refl n1)
  obtain ⟨⟨rr1, tr1⟩, _⟩ := Tx1_8.out w8 (Below.refl _ _)
  refine (markIntSS_any (some ⟨w3.heap.size, 0, none⟩) n1 n1 (w3.heap.size) (w4.heap.size) L1 M1 rr1 _ _ hn1 HL1.out (by omega) tr1).mono ?_
  rintro e w9 ⟨rfl, m9, oa9⟩
  have ho9 : Outside (w3.heap.size) (w4.heap.size) w8 w9 := oa9.outside tr1
  clear oa9 m9 tr1
  have z9 : w8.heap.size ≤ w9.heap.size := ho9.size
  have B9 : Below w.heap.size w w9 := B8.trans (ho9.below (by have := B8.size; omega) B8.size)
  have Yv := (Tv_8.out w8 (Below.refl _ _)).keep ho9 (by omega)
  have Tv_9 := hide (fun (W : World) (hb : Below w9.heap.size w9 W) => Yv.keepB hb)
  clear Yv Tv_8
  clear Tx1_8
  have Yg := (Tg_8.out w8 (Below.refl _ _)).keep ho9 (by omega)
  have Tg_9 := hide (fun (W : World) (hb : Below w9.heap.size w9 W) => Yg.keepB hb)
  clear Yg Tg_8
  go_wp2_with fail
  refine (eqIntSS_b Ag Av N cg cv LL MM _ (by omega) BL3.out (Tg_9.out _ (by first | exact Below.refl _ _ | go_grown | exact Below.drew (by go_grown))).mat (Tv_9.out _ (by first | exact Below.refl _ _ | go_grown | exact Below.drew (by go_grown))).mat).mono ?_
  rintro e w10 ⟨rfl, hb10⟩
  have hc10 : Below w9.heap.size w9 w10 := up' (by first | exact Below.refl _ _ | go_grown | exact Below.drew (by go_grown)) hb10
  have B10 : Below w.heap.size w w10 := up' B9 hc10
  have z10 : w9.heap.size ≤ w10.heap.size := hc10.size
  have Tv_10 := hide (fun (W : World) (hb : Below w10.heap.size w10 W) => Tv_9.out W (up' hc10 hb))
  clear Tv_9
  have Tg_10 := hide (fun (W : World) (hb : Below w10.heap.size w10 W) => Tg_9.out W (up' hc10 hb))
  clear Tg_9
  go_wp2_with fail
  obtain ⟨rrg, trg⟩ := Tg_10.out w10 (Below.refl _ _)
  refine (markIntSS_any Ag N cg (w4.heap.size) (w5.heap.size) LL MM rrg _ _ (by omega) BL.out (by omega) trg).mono ?_
  rintro e w11 ⟨rfl, m11, oa11⟩
  have ho11 : Outside (w4.heap.size) (w5.heap.size) w10 w11 := oa11.outside trg
  have M11g : MT w11 (w4.heap.size) (w5.heap.size) Ag N LL _ := ⟨rrg, m11⟩
  clear oa11 m11 trg
  have z11 : w10.heap.size ≤ w11.heap.size := ho11.size
  have B11 : Below w.heap.size w w11 := B10.trans (ho11.below (by have := B10.size; omega) B10.size)
  have Yv := (Tv_10.out w10 (Below.refl _ _)).keep ho11 (by omega)
  have Tv_11 := hide (fun (W : World) (hb : Below w11.heap.size w11 W) => Yv.keepB hb)
  clear Yv Tv_10
  clear Tg_10
  have Tg_11 := hide (fun (W : World) (hb : Below w11.heap.size w11 W) => (M11g).keepB hb)
  clear M11g
  go_wp2_with fail
  have hq : ((1 : Int) + (offs LL N : Int) != 1 + (offs LL N : Int)) = false := by simp
  refine (heldIntSS_any Ag N cg LL 1 _ (by omega) BL.out (by omega) (Tg_11.out _ (by first | exact Below.refl _ _ | go_grown | exact Below.drew (by go_grown))).mat).mono ?_
  rintro e w12 ⟨rfl, hb12⟩
  have hc12 : Below w11.heap.size w11 w12 := up' (by first | exact Below.refl _ _ | go_grown | exact Below.drew (by go_grown)) hb12
  have B12 : Below w.heap.size w w12 := up' B11 hc12
  have z12 : w11.heap.size ≤ w12.heap.size := hc12.size
  have Tv_12 := hide (fun (W : World) (hb : Below w12.heap.size w12 W) => Tv_11.out W (up' hc12 hb))
  clear Tv_11
  have Tg_12 := hide (fun (W : World) (hb : Below w12.heap.size w12 W) => Tg_11.out W (up' hc12 hb))
  clear Tg_11
  go_wp2_with fail
  refine (toIntSS_any A1 n1 c1 L1 M1 _ hn1 HL1.out (RR1.out _ (up' B12 (by first | exact Below.refl _ _ | go_grown | exact Below.drew (by go_grown))))).mono ?_
  rintro e w13 ⟨rfl, m13, hb13, y13⟩
  have hc13 : Below w12.heap.size w12 w13 := up' (by first | exact Below.refl _ _ | go_grown | exact Below.drew (by go_grown)) hb13
  have B13 : Below w.heap.size w w13 := up' B12 hc13
  have z13 : w12.heap.size ≤ w13.heap.size := hc13.size
  have Tv_13 := hide (fun (W : World) (hb : Below w13.heap.size w13 W) => Tv_12.out W (up' hc13 hb))
  clear Tv_12
  have Tg_13 := hide (fun (W : World) (hb : Below w13.heap.size w13 W) => Tg_12.out W (up' hc13 hb))
  clear Tg_12
  have TM13 : MTC w13 (w12.heap.size) w13.heap.size (some ⟨w12.heap.size, 0, none⟩) n1 L1 M1 := MTC.of_ownMat m13 (by omega)
  have Tu1_13 := hide (fun (W : World) (hb : Below w13.heap.size w13 W) => (TM13).keepB hb)
  clear m13 y13 TM13
  go_wp2_with fail
  refine (I.out (some ⟨w12.heap.size, 0, none⟩) _ (Tu1_13.out _ (by first | exact Below.refl _ _ | go_grown | exact Below.drew (by go_grown))).2).mono ?_
  rintro e w14 ⟨Ah, ch, rfl, m14, hb14⟩
  have hc14 : Below w13.heap.size w13 w14 := up' (by first | exact Below.refl _ _ | go_grown | exact Below.drew (by go_grown)) hb14
  have B14 : Below w.heap.size w w14 := up' B13 hc14
  have z14 : w13.heap.size ≤ w14.heap.size := hc14.size
  have Tv_14 := hide (fun (W : World) (hb : Below w14.heap.size w14 W) => Tv_13.out W (up' hc14 hb))
  clear Tv_13
  have Tg_14 := hide (fun (W : World) (hb : Below w14.heap.size w14 W) => Tg_13.out W (up' hc14 hb))
  clear Tg_13
  have Tu1_14 := hide (fun (W : World) (hb : Below w14.heap.size w14 W) => Tu1_13.out W (up' hc14 hb))
  clear Tu1_13
  have Th_14 := hide (fun (W : World) (hb : Below w14.heap.size w14 W) => (m14).keepB hb)
  clear m14
  go_wp2_with fail
  refine (eqIntSS_b Ah Av N ch cv LL MM _ (by omega) BL3.out (Th_14.out _ (by first | exact Below.refl _ _ | go_grown | exact Below.drew (by go_grown))).mat (Tv_14.out _ (by first | exact Below.refl _ _ | go_grown | exact Below.drew (by go_grown))).mat).mono ?_
  rintro e w15 ⟨rfl, hb15⟩
  have hc15 : Below w14.heap.size w14 w15 := up' (by first | exact Below.refl _ _ | go_grown | exact Below.drew (by go_grown)) hb15
  have B15 : Below w.heap.size w w15 := up' B14 hc15
  have z15 : w14.heap.size ≤ w15.heap.size := hc15.size
  have Tv_15 := hide (fun (W : World) (hb : Below w15.heap.size w15 W) => Tv_14.out W (up' hc15 hb))
  clear Tv_14
  have Tg_15 := hide (fun (W : World) (hb : Below w15.heap.size w15 W) => Tg_14.out W (up' hc15 hb))
  clear Tg_14
  have Tu1_15 := hide (fun (W : World) (hb : Below w15.heap.size w15 W) => Tu1_14.out W (up' hc15 hb))
  clear Tu1_14
  have Th_15 := hide (fun (W : World) (hb : Below w15.heap.size w15 W) => Th_14.out W (up' hc15 hb))
  clear Th_14
  go_wp2_with fail
  refine (heldIntSS_any Ag N cg LL 1 _ (by omega) BL.out (by omega) (Tg_15.out _ (by first | exact Below.refl _ _ | go_grown | exact Below.drew (by go_grown))).mat).mono ?_
  rintro e w16 ⟨rfl, hb16⟩
  have hc16 : Below w15.heap.size w15 w16 := up' (by first | exact Below.refl _ _ | go_grown | exact Below.drew (by go_grown)) hb16
  have B16 : Below w.heap.size w w16 := up' B15 hc16
  have z16 : w15.heap.size ≤ w16.heap.size := hc16.size
  have Tv_16 := hide (fun (W : World) (hb : Below w16.heap.size w16 W) => Tv_15.out W (up' hc16 hb))
  clear Tv_15
  have Tg_16 := hide (fun (W : World) (hb : Below w16.heap.size w16 W) => Tg_15.out W (up' hc16 hb))
  clear Tg_15
  have Tu1_16 := hide (fun (W : World) (hb : Below w16.heap.size w16 W) => Tu1_15.out W (up' hc16 hb))
  clear Tu1_15
  have Th_16 := hide (fun (W : World) (hb : Below w16.heap.size w16 W) => Th_15.out W (up' hc16 hb))
  clear Th_15
  go_wp2_with fail
  go_ret
  exact ⟨rfl, B16⟩
end Go.Proofs.Ytkalecdjcdgodaa
