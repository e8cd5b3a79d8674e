/-
  FnExactQuotientsOf returns true for all arguments: the walk. Conditions: none.
-/
import Derived.Test.YthafmoofemfdmaaQuotI
namespace Go.Proofs.Ythafmoofemfdmaa
open Go.RowKit

theorem qt_bdd (p : Int) (n1 : Nat) (f : Nat → Int) (n2 : Nat) (g : Nat → Int) : qtN p n1 f n2 g ≤ 1000 ∧ ∀ i, i < qtN p n1 f n2 g → (fun _ : Nat => n1 + n2) i ≤ 1000 := by
  unfold qtN
  cases h : qtOk p n1 f n2 g
  · simp
  · have h2 := qt_ok h
    simp only [if_true]
    exact ⟨by omega, fun _ _ => by omega⟩
theorem QuoXS (p : Int) (A1 : Option Addr) (n1 c1 : Nat) (f : Nat → Int) (A2 : Option Addr) (n2 c2 : Nat) (g : Nat → Int) (w : World) (hn1 : n1 ≤ 1048576) (h1 : Ints w w.heap.size A1 n1 f) (hn2 : n2 ≤ 1048576) (h2 : Ints w w.heap.size A2 n2 g) :
    Calls Try.prog 55 #[.int .i64 p, .slice A1 n1 c1, .slice A2 n2 c2] w fun e w' => ∃ A c, e = .returned (.tuple #[.agg #[.int .i64 (qtP p n1 f n2 g), .slice A (qtN p n1 f n2 g) c], .bool (qtOk p n1 f n2 g)]) ∧ MT w' w.heap.size w'.heap.size A (qtN p n1 f n2 g) (fun _ => n1 + n2) (qtM p n1 f g) ∧ Below w.heap.size w w' :=
  (QuotientsOfS_any p A1 n1 c1 f A2 n2 c2 g w hn1 h1 hn2 h2).mono fun _ _ h => h
theorem QuoXI (p : Int) (A1 : Option Addr) (n1 c1 : Nat) (f : Nat → Int) (A2 : Option Addr) (n2 c2 : Nat) (g : Nat → Int) (w : World) (hn1 : n1 ≤ 1048576) (h1 : Ints w w.heap.size A1 n1 f) (hn2 : n2 ≤ 1048576) (h2 : Ints w w.heap.size A2 n2 g) :
    Calls Try.prog 56 #[.int .i64 p, .slice A1 n1 c1, .slice A2 n2 c2] w fun e w' => ∃ A c, e = .returned (.tuple #[.agg #[.int .i64 (qtP p n1 f n2 g), .slice A (qtN p n1 f n2 g) c], .bool (qtOk p n1 f n2 g)]) ∧ MT w' w.heap.size w'.heap.size A (qtN p n1 f n2 g) (fun _ => n1 + n2) (qtM p n1 f g) ∧ Below w.heap.size w w' :=
  (QuotientsOfI_any p A1 n1 c1 f A2 n2 c2 g w hn1 h1 hn2 h2).mono fun _ _ h => h
set_option maxHeartbeats 4000000 in
set_option maxRecDepth 100000 in
theorem fnExactQuotientsOf_walk (a0 : Int) (A1 : Option Addr) (n1 c1 : Nat) (z1 : List Int) (A2 : Option Addr) (n2 c2 : Nat) (z2 : List Int) (w : World) (_w0 : (Lit.int .i64 a0).wf = true) (h1 : IsRow .i64 w A1 n1 c1 z1) (h2 : IsRow .i64 w A2 n2 c2 z2) :
    Calls Try.prog 14 #[.int .i64 a0, .slice A1 n1 c1, .slice A2 n2 c2] w fun e w' => e = .returned (.bool true) ∧ Below w.heap.size w w' := by
  clear _w0
  obtain ⟨r1, hn1⟩ := ints_in h1
  clear h1
  generalize (fun i => z1.getD i 0) = f1 at r1
  have R1 := hide (fun (W : World) (hb : Below w.heap.size w W) => r1.keep hb hb.size)
  clear r1
  obtain ⟨r2, hn2⟩ := ints_in h2
  clear h2
  generalize (fun i => z2.getD i 0) = f2 at r2
  have R2 := hide (fun (W : World) (hb : Below w.heap.size w W) => r2.keep hb hb.size)
  clear r2
  by_cases hs1 : 1048576 < n1
  · go_enter Try.func14, Try.ntmps14
    go_wp2_with fail
    go_ret
    exact ⟨rfl, by go_grown⟩
  by_cases hs2 : 1048576 < n2
  · go_enter Try.func14, Try.ntmps14
    go_wp2_with fail
    go_ret
    exact ⟨rfl, by go_grown⟩
  have S := hide (fun (b1 : Option Addr) (b2 : Option Addr) (W : World) (q1 : Ints W W.heap.size b1 n1 f1) (q2 : Ints W W.heap.size b2 n2 f2) => QuoXS a0 b1 n1 n1 f1 b2 n2 n2 f2 W (by omega) q1 (by omega) q2)
  have I := hide (fun (b1 : Option Addr) (b2 : Option Addr) (W : World) (q1 : Ints W W.heap.size b1 n1 f1) (q2 : Ints W W.heap.size b2 n2 f2) => QuoXI a0 b1 n1 n1 f1 b2 n2 n2 f2 W (by omega) q1 (by omega) q2)
  obtain ⟨bN, bL⟩ := qt_bdd a0 n1 f1 n2 f2
  generalize qtP a0 n1 f1 n2 f2 = P at S I bN bL
  generalize qtN a0 n1 f1 n2 f2 = N at S I bN bL
  generalize (fun _ : Nat => n1 + n2) = LL at S I bN bL
  generalize qtM a0 n1 f1 f2 = MM at S I bN bL
  have BL := hide (fun i (hi : i < N) => Nat.le_trans (bL i hi) (show 1000 ≤ 1048576 by omega))
  have BL3 := hide (fun i (hi : i < N) => Nat.le_trans (bL i hi) (show 1000 ≤ 9223372036854775807 by omega))
  clear bL
  have bT : offs LL N ≤ 1048576000 := by
    have h1 := offs_le BL.out N (Nat.le_refl N)
    omega
  have eP : (P != P) = false := by simp
  generalize qtOk a0 n1 f1 n2 f2 = v1 at S I
  have ev1 : (v1 != v1) = false := by simp
  go_enter Try.func14, Try.ntmps14
  go_wp2_with fail
  refine (toIntS_any A1 n1 c1 f1 _ (by omega) (R1.out _ (up' (Below.refl w.heap.size w) (by first | exact Below.refl _ _ | go_grown | exact Below.drew (by go_grown))))).mono ?_
  rintro e w1 ⟨rfl, m1, hb1, y1⟩
  have hc1 : Below w.heap.size w w1 := up' (by first | exact Below.refl _ _ | go_grown | exact Below.drew (by go_grown)) hb1
  have B1 : Below w.heap.size w w1 := up' (Below.refl w.heap.size w) hc1
  have z1 : w.heap.size ≤ w1.heap.size := hc1.size
  have TM1 : IT w1 (w.heap.size) w1.heap.size (some ⟨w.heap.size, 0, none⟩) n1 f1 := (IT.of_rowIs m1).mono (Nat.le_refl _) m1.lt
  have Ts1_1 := hide (fun (W : World) (hb : Below w1.heap.size w1 W) => (TM1).keepB hb)
  clear m1 y1 TM1
  go_wp2_with fail
  refine (toIntS_any A2 n2 c2 f2 _ (by omega) (R2.out _ (up' B1 (by first | exact Below.refl _ _ | go_grown | exact Below.drew (by go_grown))))).mono ?_
  rintro e w2 ⟨rfl, m2, hb2, y2⟩
  have hc2 : Below w1.heap.size w1 w2 := up' (by first | exact Below.refl _ _ | go_grown | exact Below.drew (by go_grown)) hb2
  have B2 : Below w.heap.size w w2 := up' B1 hc2
  have z2 : w1.heap.size ≤ w2.heap.size := hc2.size
  have Ts1_2 := hide (fun (W : World) (hb : Below w2.heap.size w2 W) => Ts1_1.out W (up' hc2 hb))
  clear Ts1_1
  have TM2 : IT w2 (w1.heap.size) w2.heap.size (some ⟨w1.heap.size, 0, none⟩) n2 f2 := (IT.of_rowIs m2).mono (Nat.le_refl _) m2.lt
  have Ts2_2 := hide (fun (W : World) (hb : Below w2.heap.size w2 W) => (TM2).keepB hb)
  clear m2 y2 TM2
  go_wp2_with fail
  refine (S.out (some ⟨w.heap.size, 0, none⟩) (some ⟨w1.heap.size, 0, none⟩) _ (Ts1_2.out _ (by first | exact Below.refl _ _ | go_grown | exact Below.drew (by go_grown))).ints (Ts2_2.out _ (by first | exact Below.refl _ _ | go_grown | exact Below.drew (by go_grown))).ints).mono ?_
  rintro e w3 ⟨Av, cv, rfl, m3, hb3⟩
  have hc3 : Below w2.heap.size w2 w3 := up' (by first | exact Below.refl _ _ | go_grown | exact Below.drew (by go_grown)) hb3
  have B3 : Below w.heap.size w w3 := up' B2 hc3
  have z3 : w2.heap.size ≤ w3.heap.size := hc3.size
  have Ts1_3 := hide (fun (W : World) (hb : Below w3.heap.size w3 W) => Ts1_2.out W (up' hc3 hb))
  clear Ts1_2
  have Ts2_3 := hide (fun (W : World) (hb : Below w3.heap.size w3 W) => Ts2_2.out W (up' hc3 hb))
  clear Ts2_2
  have Tv_3 := hide (fun (W : World) (hb : Below w3.heap.size w3 W) => (m3).keepB hb)
  clear m3
  go_wp2_with fail
  refine (toIntS_any A1 n1 c1 f1 _ (by omega) (R1.out _ (up' B3 (by first | exact Below.refl _ _ | go_grown | exact Below.drew (by go_grown))))).mono ?_
  rintro e w4 ⟨rfl, m4, hb4, y4⟩
  simp only [World.size_alloc] at m4
  have hc4 : Below w3.heap.size w3 w4 := up' (by first | exact Below.refl _ _ | go_grown | exact Below.drew (by go_grown)) hb4
  have B4 : Below w.heap.size w w4 := up' B3 hc4
  have z4 : w3.heap.size ≤ w4.heap.size := hc4.size
  have zz4 : w3.heap.size + 1 ≤ w4.heap.size := by have := hb4.size; simp at this; omega
  have Tv_4 := hide (fun (W : World) (hb : Below w4.heap.size w4 W) => Tv_3.out W (up' hc4 hb))
  clear Tv_3
  have Xxv : Blk w4 (w3.heap.size) 58 #[.int .i64 P, .slice Av N cv] := Blk.below (Blk.newAt (by simp) 58 #[.int .i64 P, .slice Av N cv]) hb4 (by simp; try omega)
  have Txv_4 := hide (fun (W : World) (hb : Below w4.heap.size w4 W) => Blk.below (Xxv) hb (Blk.lt (Xxv)))
  clear Xxv
  have TM4 : IT w4 (w3.heap.size + 1) w4.heap.size (some ⟨w3.heap.size + 1, 0, none⟩) n1 f1 := (IT.of_rowIs m4).mono (Nat.le_refl _) m4.lt
  have Tx1_4 := hide (fun (W : World) (hb : Below w4.heap.size w4 W) => (TM4).keepB hb)
  clear m4 y4 TM4
  have xxv_0 := (Txv_4.out w4 (Below.refl _ _)).at_ (i := 0) rfl
  have xxv_1 := (Txv_4.out w4 (Below.refl _ _)).at_ (i := 1) rfl
  have xxv_l : w3.heap.size < w4.heap.size := (Txv_4.out w4 (Below.refl _ _)).lt
  go_wp2_with fail
  clear xxv_0 xxv_1 xxv_l
  refine (toIntS_any A2 n2 c2 f2 _ (by omega) (R2.out _ (up' B4 (by first | exact Below.refl _ _ | go_grown | exact Below.drew (by go_grown))))).mono ?_
  rintro e w5 ⟨rfl, m5, hb5, y5⟩
  have hc5 : Below w4.heap.size w4 w5 := up' (by first | exact Below.refl _ _ | go_grown | exact Below.drew (by go_grown)) hb5
  have B5 : Below w.heap.size w w5 := up' B4 hc5
  have z5 : w4.heap.size ≤ w5.heap.size := hc5.size
  have Tv_5 := hide (fun (W : World) (hb : Below w5.heap.size w5 W) => Tv_4.out W (up' hc5 hb))
  clear Tv_4
  have Txv_5 := hide (fun (W : World) (hb : Below w5.heap.size w5 W) => Txv_4.out W (up' hc5 hb))
  clear Txv_4
  have Tx1_5 := hide (fun (W : World) (hb : Below w5.heap.size w5 W) => Tx1_4.out W (up' hc5 hb))
  clear Tx1_4
  have TM5 : IT w5 (w4.heap.size) w5.heap.size (some ⟨w4.heap.size, 0, none⟩) n2 f2 := (IT.of_rowIs m5).mono (Nat.le_refl _) m5.lt
  have Tx2_5 := hide (fun (W : World) (hb : Below w5.heap.size w5 W) => (TM5).keepB hb)
  clear m5 y5 TM5
  have xxv_0 := (Txv_5.out w5 (Below.refl _ _)).at_ (i := 0) rfl
  have xxv_1 := (Txv_5.out w5 (Below.refl _ _)).at_ (i := 1) rfl
  have xxv_l : w3.heap.size < w5.heap.size := (Txv_5.out w5 (Below.refl _ _)).lt
  go_wp2_with fail
  clear xxv_0 xxv_1 xxv_l
  refine (I.out (some ⟨w3.heap.size + 1, 0, none⟩) (some ⟨w4.heap.size, 0, none⟩) _ (Tx1_5.out _ (by first | exact Below.refl _ _ | go_grown | exact Below.drew (by go_grown))).ints (Tx2_5.out _ (by first | exact Below.refl _ _ | go_grown | exact Below.drew (by go_grown))).ints).mono ?_
  rintro e w6 ⟨Ag, cg, rfl, m6, hb6⟩
  have hc6 : Below w5.heap.size w5 w6 := up' (by first | exact Below.refl _ _ | go_grown | exact Below.drew (by go_grown)) hb6
  have B6 : Below w.heap.size w w6 := up' B5 hc6
  have z6 : w5.heap.size ≤ w6.heap.size := hc6.size
  have Tv_6 := hide (fun (W : World) (hb : Below w6.heap.size w6 W) => Tv_5.out W (up' hc6 hb))
  clear Tv_5
  have Txv_6 := hide (fun (W : World) (hb : Below w6.heap.size w6 W) => Txv_5.out W (up' hc6 hb))
  clear Txv_5
  have Tx1_6 := hide (fun (W : World) (hb : Below w6.heap.size w6 W) => Tx1_5.out W (up' hc6 hb))
  clear Tx1_5
  have Tx2_6 := hide (fun (W : World) (hb : Below w6.heap.size w6 W) => Tx2_5.out W (up' hc6 hb))
  clear Tx2_5
  have Tg_6 := hide (fun (W : World) (hb : Below w6.heap.size w6 W) => (m6).keepB hb)
  clear m6
  have xxv_0 := (Txv_6.out w6 (Below.refl _ _)).at_ (i := 0) rfl
  have xxv_1 := (Txv_6.out w6 (Below.refl _ _)).at_ (i := 1) rfl
  have xxv_l : w3.heap.size < w6.heap.size := (Txv_6.out w6 (Below.refl _ _)).lt
  go_wp2_with fail
  clear xxv_0 xxv_1 xxv_l
  refine (eqCode_any P Ag Av N cg cv LL MM _ (by omega) BL3.out (Tg_6.out _ (by first | exact Below.refl _ _ | go_grown | exact Below.drew (by go_grown))).mat (Tv_6.out _ (by first | exact Below.refl _ _ | go_grown | exact Below.drew (by go_grown))).mat).mono ?_
  rintro e w7 ⟨rfl, hb7⟩
  have hc7 : Below w6.heap.size w6 w7 := up' (by first | exact Below.refl _ _ | go_grown | exact Below.drew (by go_grown)) hb7
  have B7 : Below w.heap.size w w7 := up' B6 hc7
  have z7 : w6.heap.size ≤ w7.heap.size := hc7.size
  have zz7 : w6.heap.size + 1 ≤ w7.heap.size := by have := hb7.size; simp at this; omega
  have Tv_7 := hide (fun (W : World) (hb : Below w7.heap.size w7 W) => Tv_6.out W (up' hc7 hb))
  clear Tv_6
  have Txv_7 := hide (fun (W : World) (hb : Below w7.heap.size w7 W) => Txv_6.out W (up' hc7 hb))
  clear Txv_6
  have Tx1_7 := hide (fun (W : World) (hb : Below w7.heap.size w7 W) => Tx1_6.out W (up' hc7 hb))
  clear Tx1_6
  have Tx2_7 := hide (fun (W : World) (hb : Below w7.heap.size w7 W) => Tx2_6.out W (up' hc7 hb))
  clear Tx2_6
  have Tg_7 := hide (fun (W : World) (hb : Below w7.heap.size w7 W) => Tg_6.out W (up' hc7 hb))
  clear Tg_6
  have Xxg : Blk w7 (w6.heap.size) 58 #[.int .i64 P, .slice Ag N cg] := Blk.below (Blk.newAt (by simp) 58 #[.int .i64 P, .slice Ag N cg]) hb7 (by simp; try omega)
  have Txg_7 := hide (fun (W : World) (hb : Below w7.heap.size w7 W) => Blk.below (Xxg) hb (Blk.lt (Xxg)))
  clear Xxg
  have xxv_0 := (Txv_7.out w7 (Below.refl _ _)).at_ (i := 0) rfl
  have xxv_1 := (Txv_7.out w7 (Below.refl _ _)).at_ (i := 1) rfl
  have xxv_l : w3.heap.size < w7.heap.size := (Txv_7.out w7 (Below.refl _ _)).lt
  have xxg_0 := (Txg_7.out w7 (Below.refl _ _)).at_ (i := 0) rfl
  have xxg_1 := (Txg_7.out w7 (Below.refl _ _)).at_ (i := 1) rfl
  have xxg_l : w6.heap.size < w7.heap.size := (Txg_7.out w7 (Below.refl _ _)).lt
  go_wp2_with fail
  clear xxv_0 xxv_1 xxv_l xxg_0 xxg_1 xxg_l
  refine (toIntS_any A1 n1 c1 f1 _ (by omega) (R1.out _ (up' B7 (by first | exact Below.refl _ _ | go_grown | exact Below.drew (by go_grown))))).mono ?_
  rintro e w8 ⟨rfl, m8, hb8, y8⟩
  have hc8 : Below w7.heap.size w7 w8 := up' (by first | exact Below.refl _ _ | go_grown | exact Below.drew (by go_grown)) hb8
  have B8 : Below w.heap.size w w8 := up' B7 hc8
  have z8 : w7.heap.size ≤ w8.heap.size := hc8.size
  have Tv_8 := hide (fun (W : World) (hb : Below w8.heap.size w8 W) => Tv_7.out W (up' hc8 hb))
  clear Tv_7
  have Txv_8 := hide (fun (W : World) (hb : Below w8.heap.size w8 W) => Txv_7.out W (up' hc8 hb))
  clear Txv_7
  have Tx1_8 := hide (fun (W : World) (hb : Below w8.heap.size w8 W) => Tx1_7.out W (up' hc8 hb))
  clear Tx1_7
  have Tx2_8 := hide (fun (W : World) (hb : Below w8.heap.size w8 W) => Tx2_7.out W (up' hc8 hb))
  clear Tx2_7
  have Tg_8 := hide (fun (W : World) (hb : Below w8.heap.size w8 W) => Tg_7.out W (up' hc8 hb))
  clear Tg_7
  have Txg_8 := hide (fun (W : World) (hb : Below w8.heap.size w8 W) => Txg_7.out W (up' hc8 hb))
  clear Txg_7
  have TM8 : IT w8 (w7.heap.size) w8.heap.size (some ⟨w7.heap.size, 0, none⟩) n1 f1 := (IT.of_rowIs m8).mono (Nat.le_refl _) m8.lt
  have Ty1_8 := hide (fun (W : World) (hb : Below w8.heap.size w8 W) => (TM8).keepB hb)
  clear m8 y8 TM8
  have xxv_0 := (Txv_8.out w8 (Below.refl _ _)).at_ (i := 0) rfl
  have xxv_1 := (Txv_8.out w8 (Below.refl _ _)).at_ (i := 1) rfl
  have xxv_l : w3.heap.size < w8.heap.size := (Txv_8.out w8 (Below.refl _ _)).lt
  have xxg_0 := (Txg_8.out w8 (Below.refl _ _)).at_ (i := 0) rfl
  have xxg_1 := (Txg_8.out w8 (Below.refl _ _)).at_ (i := 1) rfl
  have xxg_l : w6.heap.size < w8.heap.size := (Txg_8.out w8 (Below.refl _ _)).lt
  go_wp2_with fail
  clear xxv_0 xxv_1 xxv_l xxg_0 xxg_1 xxg_l
  refine (eqIntS_b (some ⟨w3.heap.size + 1, 0, none⟩) (some ⟨w7.heap.size, 0, none⟩) n1 n1 n1 f1 _ (by omega) (Tx1_8.out _ (by first | exact Below.refl _ _ | go_grown | exact Below.drew (by go_grown))).ints (Ty1_8.out _ (by first | exact Below.refl _ _ | go_grown | exact Below.drew (by go_grown))).ints).mono ?_
  rintro e w9 ⟨rfl, hb9⟩
  have hc9 : Below w8.heap.size w8 w9 := up' (by first | exact Below.refl _ _ | go_grown | exact Below.drew (by go_grown)) hb9
  have B9 : Below w.heap.size w w9 := up' B8 hc9
  have z9 : w8.heap.size ≤ w9.heap.size := hc9.size
  have Tv_9 := hide (fun (W : World) (hb : Below w9.heap.size w9 W) => Tv_8.out W (up' hc9 hb))
  clear Tv_8
  have Txv_9 := hide (fun (W : World) (hb : Below w9.heap.size w9 W) => Txv_8.out W (up' hc9 hb))
  clear Txv_8
  have Tx1_9 := hide (fun (W : World) (hb : Below w9.heap.size w9 W) => Tx1_8.out W (up' hc9 hb))
  clear Tx1_8
  have Tx2_9 := hide (fun (W : World) (hb : Below w9.heap.size w9 W) => Tx2_8.out W (up' hc9 hb))
  clear Tx2_8
  have Tg_9 := hide (fun (W : World) (hb : Below w9.heap.size w9 W) => Tg_8.out W (up' hc9 hb))
  clear Tg_8
  have Txg_9 := hide (fun (W : World) (hb : Below w9.heap.size w9 W) => Txg_8.out W (up' hc9 hb))
  clear Txg_8
  have xxv_0 := (Txv_9.out w9 (Below.refl _ _)).at_ (i := 0) rfl
  have xxv_1 := (Txv_9.out w9 (Below.refl _ _)).at_ (i := 1) rfl
  have xxv_l : w3.heap.size < w9.heap.size := (Txv_9.out w9 (Below.refl _ _)).lt
  have xxg_0 := (Txg_9.out w9 (Below.refl _ _)).at_ (i := 0) rfl
  have xxg_1 := (Txg_9.out w9 (Below.refl _ _)).at_ (i := 1) rfl
  have xxg_l : w6.heap.size < w9.heap.size := (Txg_9.out w9 (Below.refl _ _)).lt
  go_wp2_with fail
  clear xxv_0 xxv_1 xxv_l xxg_0 xxg_1 xxg_l
  refine (toIntS_any A2 n2 c2 f2 _ (by omega) (R2.out _ (up' B9 (by first | exact Below.refl _ _ | go_grown | exact Below.drew (by go_grown))))).mono ?_
  rintro e w10 ⟨rfl, m10, hb10, y10⟩
  have hc10 : Below w9.heap.size w9 w10 := up' (by first | exact Below.refl _ _ | go_grown | exact Below.drew (by go_grown)) hb10
  have B10 : Below w.heap.size w w10 := up' B9 hc10
  have z10 : w9.heap.size ≤ w10.heap.size := hc10.size
  have Tv_10 := hide (fun (W : World) (hb : Below w10.heap.size w10 W) => Tv_9.out W (up' hc10 hb))
  clear Tv_9
  have Txv_10 := hide (fun (W : World) (hb : Below w10.heap.size w10 W) => Txv_9.out W (up' hc10 hb))
  clear Txv_9
  have Tx1_10 := hide (fun (W : World) (hb : Below w10.heap.size w10 W) => Tx1_9.out W (up' hc10 hb))
  clear Tx1_9
  have Tx2_10 := hide (fun (W : World) (hb : Below w10.heap.size w10 W) => Tx2_9.out W (up' hc10 hb))
  clear Tx2_9
  have Tg_10 := hide (fun (W : World) (hb : Below w10.heap.size w10 W) => Tg_9.out W (up' hc10 hb))
  clear Tg_9
  have Txg_10 := hide (fun (W : World) (hb : Below w10.heap.size w10 W) => Txg_9.out W (up' hc10 hb))
  clear Txg_9
  have TM10 : IT w10 (w9.heap.size) w10.heap.size (some ⟨w9.heap.size, 0, none⟩) n2 f2 := (IT.of_rowIs m10).mono (Nat.le_refl _) m10.lt
  have Ty2_10 := hide (fun (W : World) (hb : Below w10.heap.size w10 W) => (TM10).keepB hb)
  clear m10 y10 TM10
  have xxv_0 := (Txv_10.out w10 (Below.refl _ _)).at_ (i := 0) rfl
  have xxv_1 := (Txv_10.out w10 (Below.refl _ _)).at_ (i := 1) rfl
  have xxv_l : w3.heap.size < w10.heap.size := (Txv_10.out w10 (Below.refl _ _)).lt
  have xxg_0 := (Txg_10.out w10 (Below.refl _ _)).at_ (i := 0) rfl
  have xxg_1 := (Txg_10.out w10 (Below.refl _ _)).at_ (i := 1) rfl
  have xxg_l : w6.heap.size < w10.heap.size := (Txg_10.out w10 (Below.refl _ _)).lt
  go_wp2_with fail
  clear xxv_0 xxv_1 xxv_l xxg_0 xxg_1 xxg_l
  refine (eqIntS_b (some ⟨w4.heap.size, 0, none⟩) (some ⟨w9.heap.size, 0, none⟩) n2 n2 n2 f2 _ (by omega) (Tx2_10.out _ (by first | exact Below.refl _ _ | go_grown | exact Below.drew (by go_grown))).ints (Ty2_10.out _ (by first | exact Below.refl _ _ | go_grown | exact Below.drew (by go_grown))).ints).mono ?_
  rintro e w11 ⟨rfl, hb11⟩
  have hc11 : Below w10.heap.size w10 w11 := up' (by first | exact Below.refl _ _ | go_grown | exact Below.drew (by go_grown)) hb11
  have B11 : Below w.heap.size w w11 := up' B10 hc11
  have z11 : w10.heap.size ≤ w11.heap.size := hc11.size
  have Tv_11 := hide (fun (W : World) (hb : Below w11.heap.size w11 W) => Tv_10.out W (up' hc11 hb))
  clear Tv_10
  have Txv_11 := hide (fun (W : World) (hb : Below w11.heap.size w11 W) => Txv_10.out W (up' hc11 hb))
  clear Txv_10
  have Tx1_11 := hide (fun (W : World) (hb : Below w11.heap.size w11 W) => Tx1_10.out W (up' hc11 hb))
  clear Tx1_10
  have Tx2_11 := hide (fun (W : World) (hb : Below w11.heap.size w11 W) => Tx2_10.out W (up' hc11 hb))
  clear Tx2_10
  have Tg_11 := hide (fun (W : World) (hb : Below w11.heap.size w11 W) => Tg_10.out W (up' hc11 hb))
  clear Tg_10
  have Txg_11 := hide (fun (W : World) (hb : Below w11.heap.size w11 W) => Txg_10.out W (up' hc11 hb))
  clear Txg_10
  have xxv_0 := (Txv_11.out w11 (Below.refl _ _)).at_ (i := 0) rfl
  have xxv_1 := (Txv_11.out w11 (Below.refl _ _)).at_ (i := 1) rfl
  have xxv_l : w3.heap.size < w11.heap.size := (Txv_11.out w11 (Below.refl _ _)).lt
  have xxg_0 := (Txg_11.out w11 (Below.refl _ _)).at_ (i := 0) rfl
  have xxg_1 := (Txg_11.out w11 (Below.refl _ _)).at_ (i := 1) rfl
  have xxg_l : w6.heap.size < w11.heap.size := (Txg_11.out w11 (Below.refl _ _)).lt
  go_wp2_with fail
  clear xxv_0 xxv_1 xxv_l xxg_0 xxg_1 xxg_l
  refine (markI_any (some ⟨w3.heap.size + 1, 0, none⟩) n1 n1 (w3.heap.size + 1) (w4.heap.size) f1 _ _ (by omega) (by omega) (Tx1_11.out _ (by first | exact Below.refl _ _ | go_grown | exact Below.drew (by go_grown)))).mono ?_
  rintro e w12 ⟨rfl, m12, oa12, y12⟩
  have ho12 : Outside (w3.heap.size + 1) (w4.heap.size) w11 w12 := oa12.outside (Tx1_11.out w11 (Below.refl _ _))
  clear oa12 y12 m12
  have z12 : w11.heap.size ≤ w12.heap.size := ho12.size
  have B12 : Below w.heap.size w w12 := B11.trans (ho12.below (by have := B11.size; omega) B11.size)
  have Yv := (Tv_11.out w11 (Below.refl _ _)).keep ho12 (by omega)
  have Tv_12 := hide (fun (W : World) (hb : Below w12.heap.size w12 W) => Yv.keepB hb)
  clear Yv Tv_11
  have Yxv := Blk.keepO (Txv_11.out w11 (Below.refl _ _)) ho12 (by omega)
  have Txv_12 := hide (fun (W : World) (hb : Below w12.heap.size w12 W) => Blk.below Yxv hb Yxv.lt)
  clear Yxv Txv_11
  clear Tx1_11
  have Yx2 := (Tx2_11.out w11 (Below.refl _ _)).keep ho12 (by omega)
  have Tx2_12 := hide (fun (W : World) (hb : Below w12.heap.size w12 W) => Yx2.keepB hb)
  clear Yx2 Tx2_11
  have Yg := (Tg_11.out w11 (Below.refl _ _)).keep ho12 (by omega)
  have Tg_12 := hide (fun (W : World) (hb : Below w12.heap.size w12 W) => Yg.keepB hb)
  clear Yg Tg_11
  have Yxg := Blk.keepO (Txg_11.out w11 (Below.refl _ _)) ho12 (by omega)
  have Txg_12 := hide (fun (W : World) (hb : Below w12.heap.size w12 W) => Blk.below Yxg hb Yxg.lt)
  clear Yxg Txg_11
  have xxv_0 := (Txv_12.out w12 (Below.refl _ _)).at_ (i := 0) rfl
  have xxv_1 := (Txv_12.out w12 (Below.refl _ _)).at_ (i := 1) rfl
  have xxv_l : w3.heap.size < w12.heap.size := (Txv_12.out w12 (Below.refl _ _)).lt
  have xxg_0 := (Txg_12.out w12 (Below.refl _ _)).at_ (i := 0) rfl
  have xxg_1 := (Txg_12.out w12 (Below.refl _ _)).at_ (i := 1) rfl
  have xxg_l : w6.heap.size < w12.heap.size := (Txg_12.out w12 (Below.refl _ _)).lt
  go_wp2_with fail
  clear xxv_0 xxv_1 xxv_l xxg_0 xxg_1 xxg_l
  refine (markI_any (some ⟨w4.heap.size, 0, none⟩) n2 n2 (w4.heap.size) (w5.heap.size) f2 _ _ (by omega) (by omega) (Tx2_12.out _ (by first | exact Below.refl _ _ | go_grown | exact Below.drew (by go_grown)))).mono ?_
  rintro e w13 ⟨rfl, m13, oa13, y13⟩
  have ho13 : Outside (w4.heap.size) (w5.heap.size) w12 w13 := oa13.outside (Tx2_12.out w12 (Below.refl _ _))
  clear oa13 y13 m13
  have z13 : w12.heap.size ≤ w13.heap.size := ho13.size
  have B13 : Below w.heap.size w w13 := B12.trans (ho13.below (by have := B12.size; omega) B12.size)
  have Yv := (Tv_12.out w12 (Below.refl _ _)).keep ho13 (by omega)
  have Tv_13 := hide (fun (W : World) (hb : Below w13.heap.size w13 W) => Yv.keepB hb)
  clear Yv Tv_12
  have Yxv := Blk.keepO (Txv_12.out w12 (Below.refl _ _)) ho13 (by omega)
  have Txv_13 := hide (fun (W : World) (hb : Below w13.heap.size w13 W) => Blk.below Yxv hb Yxv.lt)
  clear Yxv Txv_12
  clear Tx2_12
  have Yg := (Tg_12.out w12 (Below.refl _ _)).keep ho13 (by omega)
  have Tg_13 := hide (fun (W : World) (hb : Below w13.heap.size w13 W) => Yg.keepB hb)
  clear Yg Tg_12
  have Yxg := Blk.keepO (Txg_12.out w12 (Below.refl _ _)) ho13 (by omega)
  have Txg_13 := hide (fun (W : World) (hb : Below w13.heap.size w13 W) => Blk.below Yxg hb Yxg.lt)
  clear Yxg Txg_12
  have xxv_0 := (Txv_13.out w13 (Below.refl _ _)).at_ (i := 0) rfl
  have xxv_1 := (Txv_13.out w13 (Below.refl _ _)).at_ (i := 1) rfl
  have xxv_l : w3.heap.size < w13.heap.size := (Txv_13.out w13 (Below.refl _ _)).lt
  have xxg_0 := (Txg_13.out w13 (Below.refl _ _)).at_ (i := 0) rfl
  have xxg_1 := (Txg_13.out w13 (Below.refl _ _)).at_ (i := 1) rfl
  have xxg_l : w6.heap.size < w13.heap.size := (Txg_13.out w13 (Below.refl _ _)).lt
  go_wp2_with fail
  clear xxv_0 xxv_1 xxv_l xxg_0 xxg_1 xxg_l
  refine (eqCode_any P Ag Av N cg cv LL MM _ (by omega) BL3.out (Tg_13.out _ (by first | exact Below.refl _ _ | go_grown | exact Below.drew (by go_grown))).mat (Tv_13.out _ (by first | exact Below.refl _ _ | go_grown | exact Below.drew (by go_grown))).mat).mono ?_
  rintro e w14 ⟨rfl, hb14⟩
  have hc14 : Below w13.heap.size w13 w14 := up' (by first | exact Below.refl _ _ | go_grown | exact Below.drew (by go_grown)) hb14
  have B14 : Below w.heap.size w w14 := up' B13 hc14
  have z14 : w13.heap.size ≤ w14.heap.size := hc14.size
  have Tv_14 := hide (fun (W : World) (hb : Below w14.heap.size w14 W) => Tv_13.out W (up' hc14 hb))
  clear Tv_13
  have Txv_14 := hide (fun (W : World) (hb : Below w14.heap.size w14 W) => Txv_13.out W (up' hc14 hb))
  clear Txv_13
  have Tg_14 := hide (fun (W : World) (hb : Below w14.heap.size w14 W) => Tg_13.out W (up' hc14 hb))
  clear Tg_13
  have Txg_14 := hide (fun (W : World) (hb : Below w14.heap.size w14 W) => Txg_13.out W (up' hc14 hb))
  clear Txg_13
  have xxv_0 := (Txv_14.out w14 (Below.refl _ _)).at_ (i := 0) rfl
  have xxv_1 := (Txv_14.out w14 (Below.refl _ _)).at_ (i := 1) rfl
  have xxv_l : w3.heap.size < w14.heap.size := (Txv_14.out w14 (Below.refl _ _)).lt
  have xxg_0 := (Txg_14.out w14 (Below.refl _ _)).at_ (i := 0) rfl
  have xxg_1 := (Txg_14.out w14 (Below.refl _ _)).at_ (i := 1) rfl
  have xxg_l : w6.heap.size < w14.heap.size := (Txg_14.out w14 (Below.refl _ _)).lt
  go_wp2_with fail
  clear xxv_0 xxv_1 xxv_l xxg_0 xxg_1 xxg_l
  refine (markCode_any P Ag N cg (w5.heap.size) (w6.heap.size) LL MM _ _ (by omega) BL.out (by omega) (Tg_14.out _ (by first | exact Below.refl _ _ | go_grown | exact Below.drew (by go_grown)))).mono ?_
  rintro e w15 ⟨rfl, m15, ho15⟩
  have z15 : w14.heap.size ≤ w15.heap.size := ho15.size
  have B15 : Below w.heap.size w w15 := B14.trans (ho15.below (by have := B14.size; omega) B14.size)
  have Yv := (Tv_14.out w14 (Below.refl _ _)).keep ho15 (by omega)
  have Tv_15 := hide (fun (W : World) (hb : Below w15.heap.size w15 W) => Yv.keepB hb)
  clear Yv Tv_14
  have Yxv := Blk.keepO (Txv_14.out w14 (Below.refl _ _)) ho15 (by omega)
  have Txv_15 := hide (fun (W : World) (hb : Below w15.heap.size w15 W) => Blk.below Yxv hb Yxv.lt)
  clear Yxv Txv_14
  clear Tg_14
  have Yxg := Blk.keepO (Txg_14.out w14 (Below.refl _ _)) ho15 (by omega)
  have Txg_15 := hide (fun (W : World) (hb : Below w15.heap.size w15 W) => Blk.below Yxg hb Yxg.lt)
  clear Yxg Txg_14
  have Tg_15 := hide (fun (W : World) (hb : Below w15.heap.size w15 W) => (m15).keepB hb)
  clear m15
  have xxv_0 := (Txv_15.out w15 (Below.refl _ _)).at_ (i := 0) rfl
  have xxv_1 := (Txv_15.out w15 (Below.refl _ _)).at_ (i := 1) rfl
  have xxv_l : w3.heap.size < w15.heap.size := (Txv_15.out w15 (Below.refl _ _)).lt
  have xxg_0 := (Txg_15.out w15 (Below.refl _ _)).at_ (i := 0) rfl
  have xxg_1 := (Txg_15.out w15 (Below.refl _ _)).at_ (i := 1) rfl
  have xxg_l : w6.heap.size < w15.heap.size := (Txg_15.out w15 (Below.refl _ _)).lt
  go_wp2_with fail
  clear xxv_0 xxv_1 xxv_l xxg_0 xxg_1 xxg_l
  have hq : ((1 : Int) + (offs LL N : Int) != 1 + (offs LL N : Int)) = false := by simp
  refine (heldCode_any P Ag N cg LL 1 _ (by omega) BL.out (by omega) (Tg_15.out _ (by first | exact Below.refl _ _ | go_grown | exact Below.drew (by go_grown))).mat).mono ?_
  rintro e w16 ⟨rfl, hb16⟩
  have hc16 : Below w15.heap.size w15 w16 := up' (by first | exact Below.refl _ _ | go_grown | exact Below.drew (by go_grown)) hb16
  have B16 : Below w.heap.size w w16 := up' B15 hc16
  have z16 : w15.heap.size ≤ w16.heap.size := hc16.size
  have Tv_16 := hide (fun (W : World) (hb : Below w16.heap.size w16 W) => Tv_15.out W (up' hc16 hb))
  clear Tv_15
  have Txv_16 := hide (fun (W : World) (hb : Below w16.heap.size w16 W) => Txv_15.out W (up' hc16 hb))
  clear Txv_15
  have Tg_16 := hide (fun (W : World) (hb : Below w16.heap.size w16 W) => Tg_15.out W (up' hc16 hb))
  clear Tg_15
  have Txg_16 := hide (fun (W : World) (hb : Below w16.heap.size w16 W) => Txg_15.out W (up' hc16 hb))
  clear Txg_15
  have xxv_0 := (Txv_16.out w16 (Below.refl _ _)).at_ (i := 0) rfl
  have xxv_1 := (Txv_16.out w16 (Below.refl _ _)).at_ (i := 1) rfl
  have xxv_l : w3.heap.size < w16.heap.size := (Txv_16.out w16 (Below.refl _ _)).lt
  have xxg_0 := (Txg_16.out w16 (Below.refl _ _)).at_ (i := 0) rfl
  have xxg_1 := (Txg_16.out w16 (Below.refl _ _)).at_ (i := 1) rfl
  have xxg_l : w6.heap.size < w16.heap.size := (Txg_16.out w16 (Below.refl _ _)).lt
  go_wp2_with fail
  clear xxv_0 xxv_1 xxv_l xxg_0 xxg_1 xxg_l
  refine (toIntS_any A1 n1 c1 f1 _ (by omega) (R1.out _ (up' B16 (by first | exact Below.refl _ _ | go_grown | exact Below.drew (by go_grown))))).mono ?_
  rintro e w17 ⟨rfl, m17, hb17, y17⟩
  have hc17 : Below w16.heap.size w16 w17 := up' (by first | exact Below.refl _ _ | go_grown | exact Below.drew (by go_grown)) hb17
  have B17 : Below w.heap.size w w17 := up' B16 hc17
  have z17 : w16.heap.size ≤ w17.heap.size := hc17.size
  have Tv_17 := hide (fun (W : World) (hb : Below w17.heap.size w17 W) => Tv_16.out W (up' hc17 hb))
  clear Tv_16
  have Txv_17 := hide (fun (W : World) (hb : Below w17.heap.size w17 W) => Txv_16.out W (up' hc17 hb))
  clear Txv_16
  have Tg_17 := hide (fun (W : World) (hb : Below w17.heap.size w17 W) => Tg_16.out W (up' hc17 hb))
  clear Tg_16
  have Txg_17 := hide (fun (W : World) (hb : Below w17.heap.size w17 W) => Txg_16.out W (up' hc17 hb))
  clear Txg_16
  have TM17 : IT w17 (w16.heap.size) w17.heap.size (some ⟨w16.heap.size, 0, none⟩) n1 f1 := (IT.of_rowIs m17).mono (Nat.le_refl _) m17.lt
  have Tu1_17 := hide (fun (W : World) (hb : Below w17.heap.size w17 W) => (TM17).keepB hb)
  clear m17 y17 TM17
  have xxv_0 := (Txv_17.out w17 (Below.refl _ _)).at_ (i := 0) rfl
  have xxv_1 := (Txv_17.out w17 (Below.refl _ _)).at_ (i := 1) rfl
  have xxv_l : w3.heap.size < w17.heap.size := (Txv_17.out w17 (Below.refl _ _)).lt
  have xxg_0 := (Txg_17.out w17 (Below.refl _ _)).at_ (i := 0) rfl
  have xxg_1 := (Txg_17.out w17 (Below.refl _ _)).at_ (i := 1) rfl
  have xxg_l : w6.heap.size < w17.heap.size := (Txg_17.out w17 (Below.refl _ _)).lt
  go_wp2_with fail
  clear xxv_0 xxv_1 xxv_l xxg_0 xxg_1 xxg_l
  refine (toIntS_any A2 n2 c2 f2 _ (by omega) (R2.out _ (up' B17 (by first | exact Below.refl _ _ | go_grown | exact Below.drew (by go_grown))))).mono ?_
  rintro e w18 ⟨rfl, m18, hb18, y18⟩
  have hc18 : Below w17.heap.size w17 w18 := up' (by first | exact Below.refl _ _ | go_grown | exact Below.drew (by go_grown)) hb18
  have B18 : Below w.heap.size w w18 := up' B17 hc18
  have z18 : w17.heap.size ≤ w18.heap.size := hc18.size
  have Tv_18 := hide (fun (W : World) (hb : Below w18.heap.size w18 W) => Tv_17.out W (up' hc18 hb))
  clear Tv_17
  have Txv_18 := hide (fun (W : World) (hb : Below w18.heap.size w18 W) => Txv_17.out W (up' hc18 hb))
  clear Txv_17
  have Tg_18 := hide (fun (W : World) (hb : Below w18.heap.size w18 W) => Tg_17.out W (up' hc18 hb))
  clear Tg_17
  have Txg_18 := hide (fun (W : World) (hb : Below w18.heap.size w18 W) => Txg_17.out W (up' hc18 hb))
  clear Txg_17
  have Tu1_18 := hide (fun (W : World) (hb : Below w18.heap.size w18 W) => Tu1_17.out W (up' hc18 hb))
  clear Tu1_17
  have TM18 : IT w18 (w17.heap.size) w18.heap.size (some ⟨w17.heap.size, 0, none⟩) n2 f2 := (IT.of_rowIs m18).mono (Nat.le_refl _) m18.lt
  have Tu2_18 := hide (fun (W : World) (hb : Below w18.heap.size w18 W) => (TM18).keepB hb)
  clear m18 y18 TM18
  have xxv_0 := (Txv_18.out w18 (Below.refl _ _)).at_ (i := 0) rfl
  have xxv_1 := (Txv_18.out w18 (Below.refl _ _)).at_ (i := 1) rfl
  have xxv_l : w3.heap.size < w18.heap.size := (Txv_18.out w18 (Below.refl _ _)).lt
  have xxg_0 := (Txg_18.out w18 (Below.refl _ _)).at_ (i := 0) rfl
  have xxg_1 := (Txg_18.out w18 (Below.refl _ _)).at_ (i := 1) rfl
  have xxg_l : w6.heap.size < w18.heap.size := (Txg_18.out w18 (Below.refl _ _)).lt
  go_wp2_with fail
  clear xxv_0 xxv_1 xxv_l xxg_0 xxg_1 xxg_l
  refine (I.out (some ⟨w16.heap.size, 0, none⟩) (some ⟨w17.heap.size, 0, none⟩) _ (Tu1_18.out _ (by first | exact Below.refl _ _ | go_grown | exact Below.drew (by go_grown))).ints (Tu2_18.out _ (by first | exact Below.refl _ _ | go_grown | exact Below.drew (by go_grown))).ints).mono ?_
  rintro e w19 ⟨Ah, ch, rfl, m19, hb19⟩
  have hc19 : Below w18.heap.size w18 w19 := up' (by first | exact Below.refl _ _ | go_grown | exact Below.drew (by go_grown)) hb19
  have B19 : Below w.heap.size w w19 := up' B18 hc19
  have z19 : w18.heap.size ≤ w19.heap.size := hc19.size
  have Tv_19 := hide (fun (W : World) (hb : Below w19.heap.size w19 W) => Tv_18.out W (up' hc19 hb))
  clear Tv_18
  have Txv_19 := hide (fun (W : World) (hb : Below w19.heap.size w19 W) => Txv_18.out W (up' hc19 hb))
  clear Txv_18
  have Tg_19 := hide (fun (W : World) (hb : Below w19.heap.size w19 W) => Tg_18.out W (up' hc19 hb))
  clear Tg_18
  have Txg_19 := hide (fun (W : World) (hb : Below w19.heap.size w19 W) => Txg_18.out W (up' hc19 hb))
  clear Txg_18
  have Tu1_19 := hide (fun (W : World) (hb : Below w19.heap.size w19 W) => Tu1_18.out W (up' hc19 hb))
  clear Tu1_18
  have Tu2_19 := hide (fun (W : World) (hb : Below w19.heap.size w19 W) => Tu2_18.out W (up' hc19 hb))
  clear Tu2_18
  have Th_19 := hide (fun (W : World) (hb : Below w19.heap.size w19 W) => (m19).keepB hb)
  clear m19
  have xxv_0 := (Txv_19.out w19 (Below.refl _ _)).at_ (i := 0) rfl
  have xxv_1 := (Txv_19.out w19 (Below.refl _ _)).at_ (i := 1) rfl
  have xxv_l : w3.heap.size < w19.heap.size := (Txv_19.out w19 (Below.refl _ _)).lt
  have xxg_0 := (Txg_19.out w19 (Below.refl _ _)).at_ (i := 0) rfl
  have xxg_1 := (Txg_19.out w19 (Below.refl _ _)).at_ (i := 1) rfl
  have xxg_l : w6.heap.size < w19.heap.size := (Txg_19.out w19 (Below.refl _ _)).lt
  go_wp2_with fail
  clear xxv_0 xxv_1 xxv_l xxg_0 xxg_1 xxg_l
  refine (eqCode_any P Ah Av N ch cv LL MM _ (by omega) BL3.out (Th_19.out _ (by first | exact Below.refl _ _ | go_grown | exact Below.drew (by go_grown))).mat (Tv_19.out _ (by first | exact Below.refl _ _ | go_grown | exact Below.drew (by go_grown))).mat).mono ?_
  rintro e w20 ⟨rfl, hb20⟩
  have hc20 : Below w19.heap.size w19 w20 := up' (by first | exact Below.refl _ _ | go_grown | exact Below.drew (by go_grown)) hb20
  have B20 : Below w.heap.size w w20 := up' B19 hc20
  have z20 : w19.heap.size ≤ w20.heap.size := hc20.size
  have zz20 : w19.heap.size + 1 ≤ w20.heap.size := by have := hb20.size; simp at this; omega
  have Tv_20 := hide (fun (W : World) (hb : Below w20.heap.size w20 W) => Tv_19.out W (up' hc20 hb))
  clear Tv_19
  have Txv_20 := hide (fun (W : World) (hb : Below w20.heap.size w20 W) => Txv_19.out W (up' hc20 hb))
  clear Txv_19
  have Tg_20 := hide (fun (W : World) (hb : Below w20.heap.size w20 W) => Tg_19.out W (up' hc20 hb))
  clear Tg_19
  have Txg_20 := hide (fun (W : World) (hb : Below w20.heap.size w20 W) => Txg_19.out W (up' hc20 hb))
  clear Txg_19
  have Tu1_20 := hide (fun (W : World) (hb : Below w20.heap.size w20 W) => Tu1_19.out W (up' hc20 hb))
  clear Tu1_19
  have Tu2_20 := hide (fun (W : World) (hb : Below w20.heap.size w20 W) => Tu2_19.out W (up' hc20 hb))
  clear Tu2_19
  have Th_20 := hide (fun (W : World) (hb : Below w20.heap.size w20 W) => Th_19.out W (up' hc20 hb))
  clear Th_19
  have Xxh : Blk w20 (w19.heap.size) 58 #[.int .i64 P, .slice Ah N ch] := Blk.below (Blk.newAt (by simp) 58 #[.int .i64 P, .slice Ah N ch]) hb20 (by simp; try omega)
  have Txh_20 := hide (fun (W : World) (hb : Below w20.heap.size w20 W) => Blk.below (Xxh) hb (Blk.lt (Xxh)))
  clear Xxh
  have xxv_0 := (Txv_20.out w20 (Below.refl _ _)).at_ (i := 0) rfl
  have xxv_1 := (Txv_20.out w20 (Below.refl _ _)).at_ (i := 1) rfl
  have xxv_l : w3.heap.size < w20.heap.size := (Txv_20.out w20 (Below.refl _ _)).lt
  have xxg_0 := (Txg_20.out w20 (Below.refl _ _)).at_ (i := 0) rfl
  have xxg_1 := (Txg_20.out w20 (Below.refl _ _)).at_ (i := 1) rfl
  have xxg_l : w6.heap.size < w20.heap.size := (Txg_20.out w20 (Below.refl _ _)).lt
  have xxh_0 := (Txh_20.out w20 (Below.refl _ _)).at_ (i := 0) rfl
  have xxh_1 := (Txh_20.out w20 (Below.refl _ _)).at_ (i := 1) rfl
  have xxh_l : w19.heap.size < w20.heap.size := (Txh_20.out w20 (Below.refl _ _)).lt
  go_wp2_with fail
  clear xxv_0 xxv_1 xxv_l xxg_0 xxg_1 xxg_l xxh_0 xxh_1 xxh_l
  refine (heldCode_any P Ag N cg LL 1 _ (by omega) BL.out (by omega) (Tg_20.out _ (by first | exact Below.refl _ _ | go_grown | exact Below.drew (by go_grown))).mat).mono ?_
  rintro e w21 ⟨rfl, hb21⟩
  have hc21 : Below w20.heap.size w20 w21 := up' (by first | exact Below.refl _ _ | go_grown | exact Below.drew (by go_grown)) hb21
  have B21 : Below w.heap.size w w21 := up' B20 hc21
  have z21 : w20.heap.size ≤ w21.heap.size := hc21.size
  have Tv_21 := hide (fun (W : World) (hb : Below w21.heap.size w21 W) => Tv_20.out W (up' hc21 hb))
  clear Tv_20
  have Txv_21 := hide (fun (W : World) (hb : Below w21.heap.size w21 W) => Txv_20.out W (up' hc21 hb))
  clear Txv_20
  have Tg_21 := hide (fun (W : World) (hb : Below w21.heap.size w21 W) => Tg_20.out W (up' hc21 hb))
  clear Tg_20
  have Txg_21 := hide (fun (W : World) (hb : Below w21.heap.size w21 W) => Txg_20.out W (up' hc21 hb))
  clear Txg_20
  have Tu1_21 := hide (fun (W : World) (hb : Below w21.heap.size w21 W) => Tu1_20.out W (up' hc21 hb))
  clear Tu1_20
  have Tu2_21 := hide (fun (W : World) (hb : Below w21.heap.size w21 W) => Tu2_20.out W (up' hc21 hb))
  clear Tu2_20
  have Th_21 := hide (fun (W : World) (hb : Below w21.heap.size w21 W) => Th_20.out W (up' hc21 hb))
  clear Th_20
  have Txh_21 := hide (fun (W : World) (hb : Below w21.heap.size w21 W) => Txh_20.out W (up' hc21 hb))
  clear Txh_20
  have xxv_0 := (Txv_21.out w21 (Below.refl _ _)).at_ (i := 0) rfl
  have xxv_1 := (Txv_21.out w21 (Below.refl _ _)).at_ (i := 1) rfl
  have xxv_l : w3.heap.size < w21.heap.size := (Txv_21.out w21 (Below.refl _ _)).lt
  have xxg_0 := (Txg_21.out w21 (Below.refl _ _)).at_ (i := 0) rfl
  have xxg_1 := (Txg_21.out w21 (Below.refl _ _)).at_ (i := 1) rfl
  have xxg_l : w6.heap.size < w21.heap.size := (Txg_21.out w21 (Below.refl _ _)).lt
  have xxh_0 := (Txh_21.out w21 (Below.refl _ _)).at_ (i := 0) rfl
  have xxh_1 := (Txh_21.out w21 (Below.refl _ _)).at_ (i := 1) rfl
  have xxh_l : w19.heap.size < w21.heap.size := (Txh_21.out w21 (Below.refl _ _)).lt
  go_wp2_with fail
  clear xxv_0 xxv_1 xxv_l xxg_0 xxg_1 xxg_l xxh_0 xxh_1 xxh_l
  go_ret
  exact ⟨rfl, B21⟩
end Go.Proofs.Ythafmoofemfdmaa
